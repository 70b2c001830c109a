/- A world with new blocks behind its own: the walk's memory written out as one list. Laws on reading and writing there; how it stands to 'Below'. -/
import Derived.WalkKit
import Derived.Deep.QuietTactic
namespace Go
open Go.RowKit

/-- w with the blocks of l behind its own, and some count of draws. -/
def World.ext (w : World) (l : List Obj) (d : Nat) : World := { w with heap := w.heap ++ l.toArray, drawn := d }

/-- A fact put away: no tactic looks into it. -/
structure Kept (p : Prop) : Prop where
  out : p

/-- A byte, behind a name. -/
def b8 (c : UInt8) : Value := .int .u8 (c.toNat : Int)
/-- A row of bytes. -/
def row8 (l : List UInt8) : Array Value := (l.map b8).toArray

namespace Ext
variable {w : World} {l : List Obj} {d : Nat}

theorem nil (w : World) : w.ext [] w.drawn = w := by simp [World.ext]

@[go_sem] theorem alloc (o : Obj) : (w.ext l d).alloc o = w.ext (l ++ [o]) d := by
  simp only [World.ext, World.alloc]
  congr 1
  rw [← Array.toList_inj]; simp

@[go_sem] theorem drew : (w.ext l d).drew = w.ext l (d + 1) := by simp only [World.ext, World.drew]
@[go_sem] theorem drewN (n : Nat) : (w.ext l d).drewN n = w.ext l (d + n) := by simp only [World.ext, World.drewN]

theorem ext (m : List Obj) (e : Nat) : (w.ext l d).ext m e = w.ext (l ++ m) e := by
  simp only [World.ext]
  congr 1
  rw [← Array.toList_inj]; simp

@[go_sem] theorem size : (w.ext l d).heap.size = w.heap.size + l.length := by simp [World.ext]

theorem block (k : Nat) : (w.ext l d).heap[w.heap.size + k]? = l[k]? := by
  simp only [World.ext]
  rw [Array.getElem?_append_right (by omega)]
  simp
theorem block0 : (w.ext l d).heap[w.heap.size]? = l[0]? := block 0
theorem old {b : Nat} (h : b < w.heap.size) : (w.ext l d).heap[b]? = w.heap[b]? := by
  simp [World.ext, Array.getElem?_append, h]

/-- What the cell number i of a block holds. -/
def cellOf (o : Option Obj) (i : Nat) : Option Value :=
  match o with
  | some (.cells c _ _) => c[i]?
  | _ => none
theorem cellOf_some (c : Array Value) (t : TypeId) (fr : Nat × Nat) (i : Nat) : cellOf (some (.cells c t fr)) i = c[i]? := by simp only [cellOf]
def frozenOf (o : Option Obj) (i : Nat) : Bool :=
  match o with
  | some (.cells _ _ (lo, hi)) => lo ≤ i && i < hi
  | _ => false
theorem frozenOf_free (c : Array Value) (t : TypeId) (i : Nat) : frozenOf (some (.cells c t (0, 0))) i = false := by
  simp [frozenOf]

theorem cell (k i : Nat) : (w.ext l d).cell? ⟨w.heap.size + k, i, none⟩ = cellOf l[k]? i := by
  simp only [World.cell?, block]
  cases l[k]? with
  | none => rfl
  | some o => cases o <;> rfl
theorem cell0 (i : Nat) : (w.ext l d).cell? ⟨w.heap.size, i, none⟩ = cellOf l[0]? i := cell 0 i
theorem cell_old {b i : Nat} (h : b < w.heap.size) : (w.ext l d).cell? ⟨b, i, none⟩ = w.cell? ⟨b, i, none⟩ := by
  simp only [World.cell?, old h]
theorem frozen (k i : Nat) : (w.ext l d).frozen? ⟨w.heap.size + k, i, none⟩ = frozenOf l[k]? i := by
  simp only [World.frozen?, block]
  cases l[k]? with
  | none => rfl
  | some o => cases o <;> rfl
theorem frozen0 (i : Nat) : (w.ext l d).frozen? ⟨w.heap.size, i, none⟩ = frozenOf l[0]? i := frozen 0 i
theorem frozen_old {b i : Nat} (h : b < w.heap.size) : (w.ext l d).frozen? ⟨b, i, none⟩ = w.frozen? ⟨b, i, none⟩ := by
  simp only [World.frozen?, old h]

/-- A block with one cell written. -/
def putCell (o : Obj) (i : Nat) (v : Value) : Obj :=
  match o with
  | .cells c t fr => .cells (c.setIfInBounds i v) t fr
  | o => o
theorem putCell_cells (c : Array Value) (t : TypeId) (fr : Nat × Nat) (i : Nat) (v : Value) : putCell (.cells c t fr) i v = .cells (c.setIfInBounds i v) t fr := by simp only [putCell]

theorem set (k i : Nat) (v : Value) : (w.ext l d).setCell ⟨w.heap.size + k, i, none⟩ v = w.ext (l.modify k (putCell · i v)) d := by
  simp only [World.ext, World.setCell]
  congr 1
  rw [← Array.toList_inj]
  apply List.ext_getElem?
  intro j
  simp only [Array.toList_modify, Array.toList_append, List.getElem?_modify, List.getElem?_append, Array.length_toList]
  by_cases hj : j < w.heap.size
  · have h1 : ¬ (w.heap.size + k = j) := by omega
    simp [hj, h1]
  · obtain ⟨j, rfl⟩ : ∃ m, j = w.heap.size + m := ⟨j - w.heap.size, by omega⟩
    have e1 : (w.heap.size + k = w.heap.size + j) ↔ k = j := by omega
    simp only [hj, if_false, Nat.add_sub_cancel_left, e1]
    by_cases hk : k = j
    · simp only [if_pos hk]
      cases l[j]? with
      | none => rfl
      | some o => cases o <;> rfl
    · simp only [if_neg hk]
theorem set0 (i : Nat) (v : Value) : (w.ext l d).setCell ⟨w.heap.size, i, none⟩ v = w.ext (l.modify 0 (putCell · i v)) d := set 0 i v

theorem below : Below w.heap.size w (w.ext l d) :=
  ⟨rfl, rfl, rfl, by rw [size]; omega, fun _ h => old h⟩

theorem of_below {w w' : World} (h : Below w.heap.size w w') : ∃ l, w' = w.ext l w'.drawn := by
  refine ⟨(w'.heap.extract w.heap.size w'.heap.size).toList, ?_⟩
  have e : w'.heap = w.heap ++ (w'.heap.extract w.heap.size w'.heap.size).toList.toArray := by
    apply Array.ext_getElem?
    intro j
    simp only [Array.getElem?_append, Array.toArray_toList]
    split
    · rename_i hj; exact h.block j hj
    · rename_i hj
      have := h.size
      simp only [Array.getElem?_extract]
      split
      · congr 1; omega
      · simp; omega
  cases w'
  obtain ⟨h1, h2, h3, h4, h5⟩ := h
  simp only at h1 h2 h3 e
  subst h1; subst h2; subst h3
  simp only [World.ext]
  rw [← e]

attribute [go_sem] cell cell0 cell_old frozen frozen0 frozen_old set set0 cellOf_some frozenOf_free putCell_cells List.modify_zero_cons List.modify_succ_cons

/-! A whole row read, a whole row written; one cell written whose value's kind is behind a name. -/
theorem load_any {P : Program} (g ty n : Nat) (W : World) (cs : Array Value) (T : TypeId) (fr : Nat × Nat) (h : W.heap[g]? = some (.cells cs T fr))
    (ha : (isAgg ty).run P W = .ok true W) (hs : (sizeOf ty).run P W = .ok n W) (hn : cs.size = n) :
    (loadVar ty ⟨g, 0, none⟩).run P W = .ok (.agg cs) W := by
  have hl : (loadCells ⟨g, 0, none⟩ cs.toList.length).run P W = .ok cs.toList.toArray W :=
    run_loadCells_list (P := P) W ⟨g, 0, none⟩ cs.toList (fun j v hv => by
      have hadd : (⟨g, 0, none⟩ : Addr).add j = ⟨g, j, none⟩ := by unfold Addr.add; split <;> simp_all
      rw [hadd, cell_of_row W g j cs T fr h]
      simpa using hv)
  simp only [Array.length_toList, Array.toArray_toList] at hl
  rw [hn] at hl
  simp [loadVar, Sem.run_bind, ha, hs, hl]
/-- The row that a block is. -/
def rowOf (o : Option Obj) : Array Value :=
  match o with
  | some (.cells c _ _) => c
  | _ => #[]
def isRow (o : Option Obj) : Bool :=
  match o with
  | some (.cells _ _ _) => true
  | _ => false
def isFree (o : Option Obj) : Bool :=
  match o with
  | some (.cells _ _ (0, 0)) => true
  | _ => false
@[go_sem] theorem rowOf_cells (c : Array Value) (t : TypeId) (fr : Nat × Nat) : rowOf (some (.cells c t fr)) = c := by simp only [rowOf]
@[go_sem] theorem isRow_cells (c : Array Value) (t : TypeId) (fr : Nat × Nat) : isRow (some (.cells c t fr)) = true := by simp only [isRow]
@[go_sem] theorem isFree_cells (c : Array Value) (t : TypeId) : isFree (some (.cells c t (0, 0))) = true := by simp only [isFree]
theorem of_isRow {o : Option Obj} (h : isRow o = true) : ∃ t fr, o = some (.cells (rowOf o) t fr) := by
  unfold isRow at h
  split at h
  · exact ⟨_, _, rfl⟩
  · cases h
theorem of_isFree {o : Option Obj} (h : isFree o = true) : ∃ t, o = some (.cells (rowOf o) t (0, 0)) := by
  unfold isFree at h
  split at h
  · exact ⟨_, rfl⟩
  · cases h
theorem load_row {P : Program} (k ty : Nat) (ha : (isAgg ty).run P (w.ext l d) = .ok true (w.ext l d)) (h : isRow l[k]? = true)
    (hs : (sizeOf ty).run P (w.ext l d) = .ok (rowOf l[k]?).size (w.ext l d)) :
    (loadVar ty ⟨w.heap.size + k, 0, none⟩).run P (w.ext l d) = .ok (.agg (rowOf l[k]?)) (w.ext l d) := by
  obtain ⟨T, fr, e⟩ := of_isRow h
  exact load_any _ ty _ _ _ T fr ((block k).trans e) ha hs rfl
/-- A call of a function value that lies in a slot, by one name. -/
def callValue (f : Value) (args : Array Value) : Sem Next := do
  let d ← Deferred.ofValue f args
  invoke d.target d.args
@[go_sem ↓] theorem execOp_callValue (a : Act) (dst : Option Tmp) (x : Tmp) (xs : Array Operand) (ats : Array TypeId) (ty : TypeId) (pos : String) (after : Array Edge) (guard : Option (Nat × Bool)) :
    execOp a.eval { dst, op := .call { callee := .value (.tmp x), args := xs, argTypes := ats }, type := ty, pos, after, guard } = callValue (a.eval (.tmp x)) (xs.map a.eval) := rfl
@[go_sem] theorem callValue_func (f : FuncId) (first cap args : Array Value) : callValue (.func (.func f) first cap) args = callFunc f (first ++ args ++ cap) := rfl
/-- A new variable, by one name. -/
def allocOf (t : TypeId) : Sem Next := do
  let v ← Instr.alloc t true (.tuple #[])
  pure (.value v)
@[go_sem ↓] theorem execOp_alloc (ρ : Operand → Value) (dst : Option Tmp) (t : TypeId) (ty : TypeId) (pos : String) (after : Array Edge) (guard : Option (Nat × Bool)) :
    execOp ρ { dst, op := .alloc t, type := ty, pos, after, guard } = allocOf t := by simp only [execOp, allocOf]
@[go_sem low] theorem run_allocOf {P : Program} (t : TypeId) (W : World) : (allocOf t).run P W = ((Instr.alloc t true (.tuple #[])).run P W).andThen fun v w' => .ok (.value v) w' := by
  simp only [allocOf, Sem.run_bind, Sem.run_pure]
/-- What is built of parts, by one name. -/
def buildOf (t : TypeId) (parts : Array (Nat × Value)) : Sem Next := do
  let v ← Instr.build t parts
  pure (.value v)
@[go_sem ↓] theorem execOp_build (ρ : Operand → Value) (dst : Option Tmp) (t : TypeId) (parts : Array (Nat × Operand)) (ty : TypeId) (pos : String) (after : Array Edge) (guard : Option (Nat × Bool)) :
    execOp ρ { dst, op := .build t parts, type := ty, pos, after, guard } = buildOf t (parts.map fun (i, x) => (i, ρ x)) := by simp only [execOp, buildOf]
@[go_sem low] theorem run_buildOf {P : Program} (t : TypeId) (parts : Array (Nat × Value)) (W : World) : (buildOf t parts).run P W = ((Instr.build t parts).run P W).andThen fun v w' => .ok (.value v) w' := by
  simp only [buildOf, Sem.run_bind, Sem.run_pure]
/-- An array or a struct that is built, its cells given. -/
theorem wpList_built {P : Program} {W : World} {ops : Array Oper} {rest : List Oper} {o : Oper} {a : Act} {Q : Exit → Act → World → Prop} (cs : Array Value) (hg : o.guard = none) (t : TypeId) (parts : Array (Nat × Operand)) (ho : o.op = .build t parts)
    (hf : P.built t (parts.map fun (i, x) => (i, a.eval x)).toList = some cs)
    (h : wpList P ops Q rest (a.put o.dst (.agg cs)) W) : wpList P ops Q (o :: rest) a W :=
  wpList_build hg t parts ho (by rw [hf]; rfl) (by rw [hf]; exact h)
/-- A load, by one name. -/
def loadFrom (t : TypeId) (addr : Value) : Sem Next := do
  let v ← Instr.loadAt t addr
  pure (.value v)
@[go_sem ↓] theorem execOp_load (ρ : Operand → Value) (dst : Option Tmp) (t : TypeId) (a : Operand) (ty : TypeId) (pos : String) (after : Array Edge) (guard : Option (Nat × Bool)) :
    execOp ρ { dst, op := .load t a, type := ty, pos, after, guard } = loadFrom t (ρ a) := by simp only [execOp, loadFrom]
@[go_sem low] theorem run_loadFrom {P : Program} (t : TypeId) (a : Value) (W : World) : (loadFrom t a).run P W = ((Instr.loadAt t a).run P W).andThen fun v w' => .ok (.value v) w' := by
  simp only [loadFrom, Sem.run_bind, Sem.run_pure]
def gotten (o : Option Value) (W : World) : Result Next :=
  match o with
  | some v => .ok (.value v) W
  | none => .halt (.stuck "") W
@[go_sem] theorem gotten_some (v : Value) (W : World) : gotten (some v) W = .ok (.value v) W := by simp only [gotten]
@[go_sem] theorem loadFrom_cell {P : Program} (k i ty : Nat) (ha : (isAgg ty).run P (w.ext l d) = .ok false (w.ext l d)) (h : (cellOf l[k]? i).isSome = true) :
    (loadFrom ty (.pointer (some ⟨w.heap.size + k, i, none⟩))).run P (w.ext l d) = gotten (cellOf l[k]? i) (w.ext l d) := by
  obtain ⟨v, hv⟩ := Option.isSome_iff_exists.1 h
  rw [hv, gotten_some, run_loadFrom]
  simp [Instr.loadAt, Instr.sureAddr, loadVar, Sem.run_bind, ha, cell, hv]
@[go_sem] theorem loadFrom_cell0 {P : Program} (i ty : Nat) (ha : (isAgg ty).run P (w.ext l d) = .ok false (w.ext l d)) (h : (cellOf l[0]? i).isSome = true) :
    (loadFrom ty (.pointer (some ⟨w.heap.size, i, none⟩))).run P (w.ext l d) = gotten (cellOf l[0]? i) (w.ext l d) :=
  loadFrom_cell 0 i ty ha h
@[go_sem] theorem loadFrom_row {P : Program} (k ty : Nat) (ha : (isAgg ty).run P (w.ext l d) = .ok true (w.ext l d)) (h : isRow l[k]? = true)
    (hs : (sizeOf ty).run P (w.ext l d) = .ok (rowOf l[k]?).size (w.ext l d)) :
    (loadFrom ty (.pointer (some ⟨w.heap.size + k, 0, none⟩))).run P (w.ext l d) = .ok (.value (.agg (rowOf l[k]?))) (w.ext l d) := by
  rw [run_loadFrom]
  simp only [Instr.loadAt, Instr.sureAddr, Sem.run_bind, Sem.run_pure, Result.andThen_ok, load_row k ty ha h hs]
@[go_sem] theorem loadFrom_row0 {P : Program} (ty : Nat) (ha : (isAgg ty).run P (w.ext l d) = .ok true (w.ext l d)) (h : isRow l[0]? = true)
    (hs : (sizeOf ty).run P (w.ext l d) = .ok (rowOf l[0]?).size (w.ext l d)) :
    (loadFrom ty (.pointer (some ⟨w.heap.size, 0, none⟩))).run P (w.ext l d) = .ok (.value (.agg (rowOf l[0]?))) (w.ext l d) :=
  loadFrom_row 0 ty ha h hs

/-- A result that lies in a block. -/
theorem result_row {P : Program} {fn : Func} {p ty k : Nat} (h : fn.results = #[.cell p ty]) (tmps : Array Value) (hp : tmps.getD p undef = .pointer (some ⟨w.heap.size + k, 0, none⟩))
    (cs : Array Value) (T : TypeId) (fr : Nat × Nat) (hg : l[k]? = some (.cells cs T fr)) (ha : (isAgg ty).run P (w.ext l d) = .ok true (w.ext l d)) (hs : (sizeOf ty).run P (w.ext l d) = .ok cs.size (w.ext l d)) :
    (results fn tmps).run P (w.ext l d) = .ok (.agg cs) (w.ext l d) := by
  have hp' : tmps[p]?.getD undef = .pointer (some ⟨w.heap.size + k, 0, none⟩) := by simpa using hp
  have hl := load_any (P := P) _ ty _ (w.ext l d) cs T fr ((block k).trans hg) ha hs rfl
  simp [results, h, hp', asAddr, hl]

def oneCells (cs : Array Value) : Bool := cs.all (·.oneCell')
/-- A block whose row is another one now. -/
def putRow (o : Obj) (cs : Array Value) : Obj :=
  match o with
  | .cells _ t fr => .cells cs t fr
  | o => o
@[go_sem] theorem putRow_cells (c : Array Value) (t : TypeId) (fr : Nat × Nat) (cs : Array Value) : putRow (.cells c t fr) cs = .cells cs t fr := by simp only [putRow]
theorem setRow (k : Nat) (cs : Array Value) (c : Array Value) (T : TypeId) (h : l[k]? = some (.cells c T (0, 0))) :
    (w.ext l d).setRow (w.heap.size + k) cs = w.ext (l.modify k (putRow · cs)) d := by
  simp only [World.ext, World.setRow]
  congr 1
  rw [← Array.toList_inj]
  apply List.ext_getElem?
  intro j
  simp only [Array.toList_modify, Array.toList_append, List.getElem?_modify, List.getElem?_append, Array.length_toList]
  by_cases hj : j < w.heap.size
  · have h1 : ¬ (w.heap.size + k = j) := by omega
    simp [hj, h1]
  · obtain ⟨j, rfl⟩ : ∃ m, j = w.heap.size + m := ⟨j - w.heap.size, by omega⟩
    have e1 : (w.heap.size + k = w.heap.size + j) ↔ k = j := by omega
    simp only [hj, if_false, Nat.add_sub_cancel_left, e1]
    by_cases hk : k = j
    · subst hk
      simp only [h]
      rfl
    · simp only [if_neg hk]
theorem store_row {P : Program} (k ty : Nat) (cs : Array Value) (h : isFree l[k]? = true)
    (hs : (sizeOf ty).run P (w.ext l d) = .ok cs.size (w.ext l d)) (hc : (rowOf l[k]?).size = cs.size) (ho : oneCells cs = true) :
    (storeVar ty ⟨w.heap.size + k, 0, none⟩ (.agg cs)).run P (w.ext l d) = .ok () (w.ext (l.modify k (putRow · cs)) d) := by
  obtain ⟨T, e⟩ := of_isFree h
  have := run_storeCells_from (P := P) (w.heap.size + k) T cs.toList 0 _ (w.ext l d) ((block k).trans e) (by simp; omega)
    (fun v hv => (Array.all_eq_true_iff_forall_mem.1 ho) v (by simpa using hv))
  rw [List.take_zero, List.nil_append, Array.toArray_toList, setRow k cs _ T e] at this
  simp [storeVar, hs, Value.cells, this]
theorem store_cell {P : Program} (k i : Nat) (v : Value) (hv : v.oneCell' = true) (hc : (cellOf l[k]? i).isSome = true) (hf : frozenOf l[k]? i = false) :
    (storeCells ⟨w.heap.size + k, i, none⟩ [v]).run P (w.ext l d) = .ok () (w.ext (l.modify k (putCell · i v)) d) := by
  have hadd : (⟨w.heap.size + k, i, none⟩ : Addr).add 0 = ⟨w.heap.size + k, i, none⟩ := rfl
  obtain ⟨x, hx⟩ := Option.isSome_iff_exists.1 hc
  simp only [storeCells, hadd, Sem.run_bind]
  rw [run_store P _ _ v _ hv, cell, hx, frozen, hf, set]
  rfl
/-- A store, by one name. -/
def storeTo (t : TypeId) (addr v : Value) : Sem Next := do
  Instr.storeAt t addr v
  pure .skip
@[go_sem ↓] theorem execOp_store (ρ : Operand → Value) (dst : Option Tmp) (t : TypeId) (a x : Operand) (ty : TypeId) (pos : String) (after : Array Edge) (guard : Option (Nat × Bool)) :
    execOp ρ { dst, op := .store t a x, type := ty, pos, after, guard } = storeTo t (ρ a) (ρ x) := by simp only [execOp, storeTo]
@[go_sem low] theorem run_storeTo {P : Program} (t : TypeId) (a v : Value) (W : World) : (storeTo t a v).run P W = ((Instr.storeAt t a v).run P W).andThen fun _ w' => .ok .skip w' := by
  simp only [storeTo, Sem.run_bind, Sem.run_pure]
@[go_sem] theorem storeTo_cell {P : Program} (k i ty : Nat) (v : Value) (hs : (sizeOf ty).run P (w.ext l d) = .ok 1 (w.ext l d)) (hv : v.oneCell' = true) (hc : (cellOf l[k]? i).isSome = true) (hf : frozenOf l[k]? i = false) :
    (storeTo ty (.pointer (some ⟨w.heap.size + k, i, none⟩)) v).run P (w.ext l d) = .ok .skip (w.ext (l.modify k (putCell · i v)) d) := by
  have hcs : v.cells = #[v] := by
    unfold Value.oneCell' at hv
    unfold Value.cells
    split at hv
    · cases hv
    · cases hv
    · split
      · rename_i h _; exact absurd rfl (h _)
      · rfl
  rw [run_storeTo]
  simp [Instr.storeAt, Instr.sureAddr, storeVar, Sem.run_bind, hs, hcs, store_cell k i v hv hc hf]
@[go_sem] theorem storeTo_cell0 {P : Program} (i ty : Nat) (v : Value) (hs : (sizeOf ty).run P (w.ext l d) = .ok 1 (w.ext l d)) (hv : v.oneCell' = true) (hc : (cellOf l[0]? i).isSome = true) (hf : frozenOf l[0]? i = false) :
    (storeTo ty (.pointer (some ⟨w.heap.size, i, none⟩)) v).run P (w.ext l d) = .ok .skip (w.ext (l.modify 0 (putCell · i v)) d) :=
  storeTo_cell 0 i ty v hs hv hc hf
@[go_sem] theorem storeTo_row {P : Program} (k ty : Nat) (cs : Array Value) (h : isFree l[k]? = true)
    (hs : (sizeOf ty).run P (w.ext l d) = .ok cs.size (w.ext l d)) (hc : (rowOf l[k]?).size = cs.size) (ho : oneCells cs = true) :
    (storeTo ty (.pointer (some ⟨w.heap.size + k, 0, none⟩)) (.agg cs)).run P (w.ext l d) = .ok .skip (w.ext (l.modify k (putRow · cs)) d) := by
  rw [run_storeTo]
  simp only [Instr.storeAt, Instr.sureAddr, Sem.run_bind, Sem.run_pure, Result.andThen_ok, store_row k ty cs h hs hc ho]
@[go_sem] theorem storeTo_row0 {P : Program} (ty : Nat) (cs : Array Value) (h : isFree l[0]? = true)
    (hs : (sizeOf ty).run P (w.ext l d) = .ok cs.size (w.ext l d)) (hc : (rowOf l[0]?).size = cs.size) (ho : oneCells cs = true) :
    (storeTo ty (.pointer (some ⟨w.heap.size, 0, none⟩)) (.agg cs)).run P (w.ext l d) = .ok .skip (w.ext (l.modify 0 (putRow · cs)) d) :=
  storeTo_row 0 ty cs h hs hc ho
@[go_sem] theorem oneCell_int (k : IntKind) (n : Int) : (Value.int k n).oneCell' = true := by simp only [Value.oneCell']
@[go_sem] theorem oneCell_bool (b : Bool) : (Value.bool b).oneCell' = true := by simp only [Value.oneCell']
@[go_sem] theorem oneCell_string (b : ByteArray) : (Value.string b).oneCell' = true := by simp only [Value.oneCell']
@[go_sem] theorem oneCell_pointer (a : Option Addr) : (Value.pointer a).oneCell' = true := by simp only [Value.oneCell']
@[go_sem] theorem oneCell_slice (a : Option Addr) (n c : Nat) : (Value.slice a n c).oneCell' = true := by simp only [Value.oneCell']

/-- A row with a piece of another one (or of itself) written over it. -/
def spliced (dst : Array Value) (o : Nat) (src : Array Value) (p n : Nat) : Array Value :=
  (dst.toList.take o ++ (src.toList.drop p).take n ++ dst.toList.drop (o + n)).toArray
theorem info_of_size {P : Program} {e n : Nat} {W : World} (h : (sizeOf e).run P W = .ok n W) : (P.info? e).map (·.size) = some n := by
  cases hq : P.info? e with
  | none => simp [sizeOf, typeInfo, hq] at h
  | some i => simp [sizeOf, typeInfo, hq] at h; simp [h]
theorem addr_add (b p i : Nat) : (⟨b, p, none⟩ : Addr).add i = ⟨b, p + i, none⟩ := by
  unfold Addr.add
  split
  · rename_i h; subst h; rfl
  · rfl
theorem copy_row {P : Program} (dT sT ty k o dLen dCap j p sLen sCap : Nat) (hu : P.underlying dT = some (.slice (P.elem dT))) (hs : (sizeOf (P.elem dT)).run P (w.ext l d) = .ok 1 (w.ext l d))
    (hf : isFree l[k]? = true) (hr : isRow l[j]? = true) (ho : oneCells (rowOf l[j]?) = true) (hp : p + sLen ≤ (rowOf l[j]?).size) (hfit : o + dLen ≤ (rowOf l[k]?).size) :
    (Builtin.copy_ #[dT, sT] ty #[.slice (some ⟨w.heap.size + k, o, none⟩) dLen dCap, .slice (some ⟨w.heap.size + j, p, none⟩) sLen sCap]).run P (w.ext l d) =
      .ok (.int .i64 (Nat.min sLen dLen : Nat)) (w.ext (l.modify k (putRow · (spliced (rowOf l[k]?) o (rowOf l[j]?) p (Nat.min sLen dLen)))) d) := by
  obtain ⟨T, e⟩ := of_isFree hf
  obtain ⟨T', fr', e'⟩ := of_isRow hr
  have hm : Nat.min sLen dLen ≤ sLen ∧ Nat.min sLen dLen ≤ dLen := ⟨Nat.min_le_left _ _, Nat.min_le_right _ _⟩
  have hlen : (((rowOf l[j]?).toList.drop p).take (Nat.min sLen dLen)).length = Nat.min sLen dLen := by
    simp only [List.length_take, List.length_drop, Array.length_toList]
    omega
  have := run_copy_row (P := P) (w.ext l d) dT sT ty (P.elem dT) (w.heap.size + k) o dLen dCap ⟨w.heap.size + j, p, none⟩ sLen sCap (rowOf l[k]?) T
    (((rowOf l[j]?).toList.drop p).take (Nat.min sLen dLen)) hu (info_of_size hs) ((block k).trans e) hlen
    (fun i v hv => by
      rw [addr_add, cell_of_row _ _ _ _ T' fr' ((block j).trans e')]
      rw [List.getElem?_take] at hv
      split at hv
      · rw [List.getElem?_drop] at hv
        simpa using hv
      · cases hv)
    (by rw [hlen]; omega)
    (fun v hv => by
      have := List.mem_of_mem_drop (List.mem_of_mem_take hv)
      exact (Array.all_eq_true_iff_forall_mem.1 ho) v (by simpa using this))
  rw [this, hlen, setRow k _ _ T e]
  rfl
theorem copy_row0 {P : Program} (dT sT ty k o dLen dCap p sLen sCap : Nat) (hu : P.underlying dT = some (.slice (P.elem dT))) (hs : (sizeOf (P.elem dT)).run P (w.ext l d) = .ok 1 (w.ext l d))
    (hf : isFree l[k]? = true) (hr : isRow l[0]? = true) (ho : oneCells (rowOf l[0]?) = true) (hp : p + sLen ≤ (rowOf l[0]?).size) (hfit : o + dLen ≤ (rowOf l[k]?).size) :
    (Builtin.copy_ #[dT, sT] ty #[.slice (some ⟨w.heap.size + k, o, none⟩) dLen dCap, .slice (some ⟨w.heap.size, p, none⟩) sLen sCap]).run P (w.ext l d) =
      .ok (.int .i64 (Nat.min sLen dLen : Nat)) (w.ext (l.modify k (putRow · (spliced (rowOf l[k]?) o (rowOf l[0]?) p (Nat.min sLen dLen)))) d) :=
  copy_row dT sT ty k o dLen dCap 0 p sLen sCap hu hs hf hr ho hp hfit
attribute [go_sem] copy_row copy_row0

/-! What '[]byte(s)' lays. -/
def byteAt (s : ByteArray) (i : Nat) : UInt8 := s.data.toList.getD i 0
def byteBlock (s : ByteArray) (c : Nat) (e : TypeId) : Obj := .cells (bytesRow s c) e ((bytesRow s c).size, (bytesRow s c).size + 1)
@[go_sem] theorem bytes {P : Program} (src dst e : TypeId) (s : ByteArray) (hs : P.underlying src = some .string) (hd : P.underlying dst = some (.slice e)) (he : P.underlying e = some (.int .u8)) :
    (convert src dst (.string s)).run P (w.ext l d) = .ok (.slice (some ⟨w.heap.size + l.length, 0, none⟩) s.size (grownCap (w.ext l d) s.size 0 e))
      (w.ext (l ++ [byteBlock s (grownCap (w.ext l d) s.size 0 e) e]) (d + 1)) := by
  rw [run_bytes_of_string _ _ _ _ _ hs hd he, drew, alloc, size]; rfl
@[go_sem] theorem byteCell (s : ByteArray) (c : Nat) (e : TypeId) (i : Nat) (h : i < s.size) : cellOf (some (byteBlock s c e)) i = some (b8 (byteAt s i)) := by
  have h' : i < s.data.size := h
  have e : byteAt s i = s.data[i] := by
    unfold byteAt
    rw [List.getD_eq_getElem?_getD, List.getElem?_eq_getElem (by simpa using h'), Option.getD_some]; simp
  rw [e]
  exact bytesRow_at s c i h'

@[go_sem high] theorem index_string {P : Program} (t : TypeId) (s : ByteArray) (k : IntKind) (i : Int) (W : World) (h : P.underlying t = some .string) (h0 : 0 ≤ i) (hi : i.toNat < s.size) :
    (Instr.index t (.string s) (.int k i)).run P W = .ok (b8 (byteAt s i.toNat)) W := by
  have h' : i.toNat < s.data.size := hi
  have e : byteAt s i.toNat = s[i.toNat] := by
    unfold byteAt
    rw [List.getD_eq_getElem?_getD, List.getElem?_eq_getElem (by simpa using h'), Option.getD_some]
    simp
    rfl
  rw [e]
  simp [Instr.index, asIntOf, run_underlying h, h0, hi, b8]

/-- A callee that leaves the world as it was, met in a quiet region. -/
theorem quiet_same {P : Program} {f : FuncId} {args : Array Value} {n : Nat} {v : Value}
    (h : Calls P f args (w.ext l (d + n)) fun e w' => e = .returned v ∧ w' = w.ext l (d + n)) : Calls P f args (w.ext l (d + n)) fun e w'' => e = .returned v ∧ ∃ m, w'' = w.ext l (d + m) :=
  h.mono fun _ _ ⟨he, hm⟩ => ⟨he, n, hm⟩

/-! Blocks behind a piece of memory of which nothing is known. -/
@[go_sem] theorem gap_get0 (gap : List Obj) (H : Obj) (t : List Obj) : (gap ++ H :: t)[gap.length]? = some H := by simp
@[go_sem] theorem gap_get1 (gap : List Obj) (H G : Obj) (t : List Obj) : (gap ++ H :: G :: t)[gap.length + 1]? = some G := by simp
@[go_sem] theorem gap_set0 (gap : List Obj) (H : Obj) (t : List Obj) (f : Obj → Obj) : (gap ++ H :: t).modify gap.length f = gap ++ f H :: t := by
  induction gap with
  | nil => rfl
  | cons a gap ih => simp [ih]

/-- A contract of a call that only makes blocks of its own. -/
theorem entered {P : Program} {f : FuncId} {args : Array Value} {R : Ending → World → Prop} (w : World)
    (h : Calls P f args (w.ext [] w.drawn) R) : Calls P f args w R := by
  rwa [nil] at h

end Ext

/-- The world w' is w with new blocks, and some draws. -/
def World.grew (w w' : World) : Prop := ∃ l d, w' = w.ext l d
theorem World.grew_ext (w : World) (l : List Obj) (d : Nat) : w.grew (w.ext l d) := ⟨l, d, rfl⟩
theorem World.grew.refl (w : World) : w.grew w := ⟨[], w.drawn, (Ext.nil w).symm⟩
theorem World.grew.trans {a b c : World} (h : a.grew b) (k : b.grew c) : a.grew c := by
  obtain ⟨l, d, rfl⟩ := h
  obtain ⟨m, e, rfl⟩ := k
  exact ⟨_, _, Ext.ext m e⟩
theorem World.grew.below {a b : World} (h : a.grew b) : Below a.heap.size a b := by
  obtain ⟨l, d, rfl⟩ := h
  exact Ext.below
theorem World.grew.of {a b : World} (h : Below a.heap.size a b) : a.grew b := by
  obtain ⟨l, e⟩ := Ext.of_below h
  exact ⟨l, _, e⟩
end Go
