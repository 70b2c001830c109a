/- Bytes as the model's values, behind a name; rows of bytes; what Go's operations make of them; two such arrays held against each other; a row of bytes as a string. -/
import Derived.Test.YtcnligenhiiaaaaDoorExt
import Derived.Laws.StructEq
import Derived.Lib.Strings
namespace Go
namespace Bytes

@[go_sem] theorem b8_one (c : UInt8) : (b8 c).oneCell' = true := by simp only [b8, Value.oneCell']
@[go_sem ↓] theorem b8_cells (c : UInt8) : (b8 c).cells = #[b8 c] := by simp only [b8, Value.cells]
theorem b8_inj {a b : UInt8} (h : b8 a = b8 b) : a = b := by
  simp only [b8, Value.int.injEq, true_and] at h
  exact UInt8.toNat_inj.1 (by omega)
@[go_sem] theorem row8_get (l : List UInt8) (i : Nat) : (row8 l)[i]? = (l[i]?).map b8 := by simp [row8]
@[go_sem] theorem row8_elem (l : List UInt8) (i : Nat) (h : i < (row8 l).size) : (row8 l)[i] = b8 (l[i]'(by simpa [row8] using h)) := by simp [row8]
@[go_sem] theorem row8_size (l : List UInt8) : (row8 l).size = l.length := by simp [row8]
@[go_sem] theorem row8_set (l : List UInt8) (i : Nat) (x : UInt8) : (row8 l).setIfInBounds i (b8 x) = row8 (l.set i x) := by
  simp [row8, List.map_set]
@[go_sem] theorem row8_spliced (a b : List UInt8) (o p n : Nat) : Ext.spliced (row8 a) o (row8 b) p n = row8 (a.take o ++ (b.drop p).take n ++ a.drop (o + n)) := by
  simp [Ext.spliced, row8, List.map_take, List.map_drop]
@[go_sem] theorem row8_one (l : List UInt8) : Ext.oneCells (row8 l) = true := by
  simp only [Ext.oneCells, row8, List.all_toArray, List.all_map]
  exact List.all_eq_true.2 (fun _ _ => rfl)
/-- A literal byte that is stored. -/
@[go_sem] theorem row8_set_lit (l : List UInt8) (i : Nat) (n : Int) (h0 : 0 ≤ n) (h1 : n < 256) : (row8 l).setIfInBounds i (.int .u8 n) = row8 (l.set i (UInt8.ofNat n.toNat)) := by
  have e : Value.int .u8 n = b8 (UInt8.ofNat n.toNat) := by
    simp only [b8, Value.int.injEq, true_and, UInt8.toNat_ofNat']
    omega
  rw [e, row8_set]

theorem byte_of (v : Int) (n : Nat) (h : v = ((n % 256 : Nat) : Int)) : Value.int .u8 v = b8 (UInt8.ofNat n) := by
  simp only [b8, h, UInt8.toNat_ofNat']

section
variable {P : Program} (src dst : TypeId) (c : UInt8) (W : World)
@[go_sem] theorem conv8_32 (hs : P.underlying src = some (.int .u8)) (hd : P.underlying dst = some (.int .u32)) : (convert src dst (b8 c)).run P W = .ok (.int .u32 (c.toNat : Int)) W := by
  have := c.toNat_lt
  simp [convert, run_underlying hs, run_underlying hd, b8, Conv.intToInt, IntKind.wrap, IntKind.bits, IntKind.signed]
  omega
@[go_sem] theorem conv8_64 (hs : P.underlying src = some (.int .u8)) (hd : P.underlying dst = some (.int .u64)) : (convert src dst (b8 c)).run P W = .ok (.int .u64 (c.toNat : Int)) W := by
  have := c.toNat_lt
  simp [convert, run_underlying hs, run_underlying hd, b8, Conv.intToInt, IntKind.wrap, IntKind.bits, IntKind.signed]
  omega
@[go_sem] theorem conv8_i64 (hs : P.underlying src = some (.int .u8)) (hd : P.underlying dst = some (.int .i64)) : (convert src dst (b8 c)).run P W = .ok (.int .i64 (c.toNat : Int)) W := by
  have := c.toNat_lt
  simp [convert, run_underlying hs, run_underlying hd, b8, Conv.intToInt, IntKind.wrap, IntKind.bits, IntKind.signed]
  omega
end
/-- A number made a byte. -/
@[go_sem] theorem eq_lit (t : TypeId) (c : UInt8) (n : Int) : binOp .eql t (b8 c) (.int .u8 n) = pure (.bool ((c.toNat : Int) == n)) := by simp only [b8, binOp_eql]
@[go_sem] theorem neq_lit (t : TypeId) (c : UInt8) (n : Int) : binOp .neq t (b8 c) (.int .u8 n) = pure (.bool ((c.toNat : Int) != n)) := by simp only [b8, binOp_neq]
@[go_sem] theorem eq_byte (t : TypeId) (a b : UInt8) : binOp .eql t (b8 a) (b8 b) = pure (.bool (a == b)) := by
  simp only [b8, binOp_eql]
  congr 2
  rw [Bool.eq_iff_iff, beq_iff_eq, beq_iff_eq]
  constructor
  · intro h; exact UInt8.toNat_inj.1 (by omega)
  · intro h; rw [h]
@[go_sem] theorem neq_byte (t : TypeId) (a b : UInt8) : binOp .neq t (b8 a) (b8 b) = pure (.bool (a != b)) := by
  simp only [b8, binOp_neq]
  congr 2
  rw [Bool.eq_iff_iff, bne_iff_ne, bne_iff_ne]
  constructor
  · intro h h'; exact h (by rw [h'])
  · intro h h'; exact h (UInt8.toNat_inj.1 (by omega))

/-! Two arrays of bytes held against each other. -/
theorem part_byte {P : Program} (e : TypeId) (l : List UInt8) (i : Nat) (c : UInt8) (W : World) (ha : (isAgg e).run P W = .ok false W) (h : l[i]? = some c) : (part e (row8 l) i).run P W = .ok (b8 c) W := by
  simp [part, Sem.run_bind, ha, row8_get, h]
theorem equal_byte {P : Program} (d : Nat) (e : TypeId) (a b : UInt8) (W : World) (he : P.underlying e = some (.int .u8)) : (Op.equalIn (d + 1) e (b8 a) (b8 b)).run P W = .ok (a == b) W := by
  simp only [b8, run_equalIn_int W d e .u8 .u8 _ _ he]
  congr 1
  rw [Bool.eq_iff_iff, beq_iff_eq, beq_iff_eq]
  constructor
  · intro h; exact UInt8.toNat_inj.1 (by omega)
  · intro h; rw [h]
theorem equal_loop {P : Program} (d : Nat) (e : TypeId) (W : World) (he : P.underlying e = some (.int .u8)) (ha : (isAgg e).run P W = .ok false W) (xs ys : List UInt8) : ∀ (m i : Nat), i + m ≤ xs.length → i + m ≤ ys.length →
    (forIn (List.range' i m) ((none, ()) : Option Bool × Unit) (fun j _ => do
      let a ← part e (row8 xs) (j * 1)
      let b ← part e (row8 ys) (j * 1)
      let r ← Op.equalIn (d + 1) e a b
      if (!r) = true then pure (ForInStep.done (some false, ())) else pure (ForInStep.yield (none, ())))).run P W =
      .ok (if (xs.drop i).take m = (ys.drop i).take m then (none, ()) else (some false, ())) W
  | 0, i, _, _ => by simp [Sem.run_pure]
  | m + 1, i, hx, hy => by
    have h1 : xs[i]? = some xs[i] := List.getElem?_eq_getElem (by omega)
    have h2 : ys[i]? = some ys[i] := List.getElem?_eq_getElem (by omega)
    have ih := equal_loop d e W he ha xs ys m (i + 1) (by omega) (by omega)
    rw [List.range'_succ, List.forIn_cons, Sem.run_bind, Sem.run_bind, Nat.mul_one, part_byte e xs i _ W ha h1, Result.andThen_ok, Sem.run_bind, part_byte e ys i _ W ha h2, Result.andThen_ok, Sem.run_bind, equal_byte d e _ _ W he, Result.andThen_ok]
    rw [List.drop_eq_getElem_cons (show i < xs.length by omega), List.drop_eq_getElem_cons (show i < ys.length by omega), List.take_succ_cons, List.take_succ_cons]
    by_cases hc : xs[i] = ys[i]
    · rw [show (xs[i] == ys[i]) = true by simpa using hc]
      simp only [Bool.not_true, Bool.false_eq_true, if_false, Sem.run_pure, Result.andThen_ok]
      rw [ih]
      simp only [hc, List.cons.injEq, true_and]
    · rw [show (xs[i] == ys[i]) = false by simpa using hc]
      simp [Sem.run_pure, hc]
theorem equal_rows {P : Program} (d : Nat) (t : TypeId) (xs ys : List UInt8) (W : World) (h : P.underlying t = some (.array (P.arrayLen t) (P.elem t))) (he : P.underlying (P.elem t) = some (.int .u8))
    (ha : (isAgg (P.elem t)).run P W = .ok false W) (hs : (sizeOf (P.elem t)).run P W = .ok 1 W) (hx : xs.length = P.arrayLen t) (hy : ys.length = P.arrayLen t) :
    (Op.equalIn (d + 2) t (.agg (row8 xs)) (.agg (row8 ys))).run P W = .ok (xs == ys) W := by
  have hl := equal_loop (P := P) d (P.elem t) W he ha xs ys (P.arrayLen t) 0 (by omega) (by omega)
  unfold Op.equalIn
  simp only [Sem.run_bind, run_underlying h, Result.andThen_ok, hs]
  rw [Std.Legacy.Range.forIn_eq_forIn_range']
  simp only [Std.Legacy.Range.size, Nat.sub_zero, Nat.add_sub_cancel, Nat.div_one]
  rw [hl, Result.andThen_ok]
  simp only [List.drop_zero]
  rw [List.take_of_length_le (by omega), List.take_of_length_le (by omega)]
  by_cases hc : xs = ys
  · rw [if_pos hc, show (xs == ys) = true by simpa using hc]; simp [Sem.run_pure]
  · rw [if_neg hc, show (xs == ys) = false by simpa using hc]; simp [Sem.run_pure]
@[go_sem high] theorem eql_rows {P : Program} (t : TypeId) (xs ys : List UInt8) (W : World) (h : P.underlying t = some (.array (P.arrayLen t) (P.elem t))) (he : P.underlying (P.elem t) = some (.int .u8))
    (ha : (isAgg (P.elem t)).run P W = .ok false W) (hs : (sizeOf (P.elem t)).run P W = .ok 1 W) (hx : xs.length = P.arrayLen t) (hy : ys.length = P.arrayLen t) :
    (binOp .eql t (.agg (row8 xs)) (.agg (row8 ys))).run P W = .ok (.bool (xs == ys)) W := by
  rw [run_eql_struct, equal_rows 9998 t xs ys W h he ha hs hx hy, Result.andThen_ok]
@[go_sem high] theorem neq_rows {P : Program} (t : TypeId) (xs ys : List UInt8) (W : World) (h : P.underlying t = some (.array (P.arrayLen t) (P.elem t))) (he : P.underlying (P.elem t) = some (.int .u8))
    (ha : (isAgg (P.elem t)).run P W = .ok false W) (hs : (sizeOf (P.elem t)).run P W = .ok 1 W) (hx : xs.length = P.arrayLen t) (hy : ys.length = P.arrayLen t) :
    (binOp .neq t (.agg (row8 xs)) (.agg (row8 ys))).run P W = .ok (.bool (!(xs == ys))) W := by
  rw [run_neq_struct, equal_rows 9998 t xs ys W h he ha hs hx hy, Result.andThen_ok]

/-! Strings as lists of bytes. -/
def str (l : List UInt8) : ByteArray := ⟨l.toArray⟩
theorem str_of (s : ByteArray) : str s.data.toList = s := by simp [str]
@[go_sem] theorem str_size (l : List UInt8) : (str l).size = l.length := by simp [str, ByteArray.size]
theorem str_data (l : List UInt8) : (str l).data.toList = l := by simp [str]
theorem str_append (a b : List UInt8) : str a ++ str b = str (a ++ b) := by
  apply ByteArray.ext
  simp [str, ByteArray.data_append]
theorem str_extract (l : List UInt8) (a b : Nat) : (str l).extract a b = str ((l.take b).drop a) := by
  apply ByteArray.ext
  simp [str, ByteArray.data_extract, List.extract_eq_take_drop, List.drop_take]
theorem str_toList (l : List UInt8) : (str l).toList = l := by
  rw [Lib.toList_data]
  simp [str]
/-- How long a string is. -/
def strLen : Value → Nat
  | .string s => s.size
  | _ => 0
theorem fold_push (l : List UInt8) : ∀ r : ByteArray, (l.map fun c => (c.toNat : Int)).foldl (fun r n => r.push (UInt8.ofNat n.toNat)) r = ⟨r.data ++ l.toArray⟩ := by
  induction l with
  | nil => intro r; simp
  | cons c l ih =>
    intro r
    simp only [List.map_cons, List.foldl_cons]
    rw [ih]
    congr 1
    rw [← Array.toList_inj]
    simp [ByteArray.push]
theorem string_row {P : Program} {w : World} {l : List Obj} {d : Nat} (src dst k n c : Nat) (bs : List UInt8) (hs : P.underlying src = some (.slice (P.elem src))) (hd : P.underlying dst = some .string) (he : P.underlying (P.elem src) = some (.int .u8))
    (hr : Ext.isRow l[k]? = true) (hb : Ext.rowOf l[k]? = row8 bs) (hn : n ≤ bs.length) :
    (convert src dst (.slice (some ⟨w.heap.size + k, 0, none⟩) n c)).run P (w.ext l d) = .ok (.string (str (bs.take n))) (w.ext l d) := by
  obtain ⟨T, fr, e⟩ := Ext.of_isRow hr
  rw [hb] at e
  have hl : (loadCells ⟨w.heap.size + k, 0, none⟩ n).run P (w.ext l d) = .ok (((bs.take n).map fun c => (c.toNat : Int)).map (Value.int .u8)).toArray (w.ext l d) := by
    have := run_loadCells_list (P := P) (w.ext l d) ⟨w.heap.size + k, 0, none⟩ ((bs.take n).map b8) (fun j v hv => by
      rw [Ext.addr_add, Nat.zero_add, cell_of_row _ _ _ _ T fr ((Ext.block k).trans e), row8_get]
      rw [List.getElem?_map, List.getElem?_take] at hv
      split at hv
      · exact hv
      · cases hv)
    rw [List.length_map, List.length_take, Nat.min_eq_left hn] at this
    rw [this, List.map_map]
    rfl
  have := run_bytesToString (P := P) (w.ext l d) ⟨w.heap.size + k, 0, none⟩ n c _ hl
  rw [fold_push] at this
  simp only [convert, Sem.run_bind, run_underlying hs, run_underlying hd, Result.andThen_ok, run_underlying he]
  rw [this]
  simp [str]
/-- The bytes that a row holds. -/
def bytesOf (row : Array Value) : List UInt8 := row.toList.map fun
  | .int _ n => UInt8.ofNat n.toNat
  | _ => 0
@[go_sem] theorem bytesOf_row8 (l : List UInt8) : bytesOf (row8 l) = l := by
  simp only [bytesOf, row8, List.map_map]
  conv => rhs; rw [← List.map_id l]
  apply List.map_congr_left
  intro c _
  simp [b8]
@[go_sem] theorem string_of {P : Program} {w : World} {l : List Obj} {d : Nat} (src dst k n c : Nat) (hs : P.underlying src = some (.slice (P.elem src))) (hd : P.underlying dst = some .string) (he : P.underlying (P.elem src) = some (.int .u8))
    (hr : Ext.isRow l[k]? = true) (hb : Ext.rowOf l[k]? = row8 (bytesOf (Ext.rowOf l[k]?))) (hn : n ≤ (bytesOf (Ext.rowOf l[k]?)).length) :
    (convert src dst (.slice (some ⟨w.heap.size + k, 0, none⟩) n c)).run P (w.ext l d) = .ok (.string (str ((bytesOf (Ext.rowOf l[k]?)).take n))) (w.ext l d) :=
  string_row src dst k n c _ hs hd he hr hb hn
@[go_sem] theorem string_of0 {P : Program} {w : World} {l : List Obj} {d : Nat} (src dst n c : Nat) (hs : P.underlying src = some (.slice (P.elem src))) (hd : P.underlying dst = some .string) (he : P.underlying (P.elem src) = some (.int .u8))
    (hr : Ext.isRow l[0]? = true) (hb : Ext.rowOf l[0]? = row8 (bytesOf (Ext.rowOf l[0]?))) (hn : n ≤ (bytesOf (Ext.rowOf l[0]?)).length) :
    (convert src dst (.slice (some ⟨w.heap.size, 0, none⟩) n c)).run P (w.ext l d) = .ok (.string (str ((bytesOf (Ext.rowOf l[0]?)).take n))) (w.ext l d) :=
  string_of src dst 0 n c hs hd he hr hb hn
end Bytes
end Go
