/- A region that draws its order, whose head reads and calls what makes blocks of its own, whose tail stands in one order: the head walked once, in the order of the text; the tail behind it. -/
import Derived.Test.YtcnligenhiiaaaaDoorGrow
import Derived.StillTail
namespace Go
namespace Tail
variable {P : Program} {md : Region.Mode} {ops : Array Oper} {n : Nat}

/-- Each of the head's operations waits for earlier ones alone, and is guarded by an earlier one. -/
def headB (md : Region.Mode) (ops : Array Oper) (n : Nat) : Bool :=
  (List.range n).all fun i => match ops[i]? with
    | some o => (o.after.all fun e => !Region.binds md e || decide (e.on < i)) && (match o.guard with | none => true | some (k, _) => decide (k < n))
    | none => false
/-- Each of the head is waited for by a later one, up to the tail's first; each other one of the tail waits for the one before it. -/
def tailB (md : Region.Mode) (ops : Array Oper) (n : Nat) : Bool :=
  Region.sinkB md ops n && Region.chainB md ops n
def done (n g : Nat) : Array Bool := Array.replicate n true ++ Array.replicate g false

theorem headB_after (h : headB md ops n = true) {i : Nat} {o : Oper} (hi : i < n) (ho : ops[i]? = some o) : (∀ e ∈ o.after, Region.binds md e = true → e.on < i) ∧ ∀ k b, o.guard = some (k, b) → k < n := by
  have h1 := List.all_eq_true.1 h i (List.mem_range.2 hi)
  rw [ho] at h1
  simp only [Bool.and_eq_true] at h1
  refine ⟨fun e he hb => ?_, fun k b hg => ?_⟩
  · have := Array.all_eq_true_iff_forall_mem.1 h1.1 e he
    simpa [hb] using this
  · have := h1.2
    rw [hg] at this
    simpa using this

/-- How the two lists of what has come up stand to each other. -/
structure Rel (md : Region.Mode) (ops : Array Oper) (n : Nat) (listed listed' : Array Bool) : Prop where
  size : listed.size = ops.size
  size' : listed'.size = n
  le : n < ops.size
  head : ∀ i, i < n → listed.getD i false = listed'.getD i false
  tail : ∀ t, n ≤ t → t < ops.size → listed.getD t false = false
  closed : ∀ j o, ops[j]? = some o → listed.getD j false = true → ∀ e ∈ o.after, Region.binds md e = true → listed.getD e.on false = true

theorem getD_any {l : Array Bool} {i : Nat} (h : i < l.size) (b c : Bool) : l.getD i b = l.getD i c := by simp [h]
theorem Rel.set {listed listed' : Array Bool} (r : Rel md ops n listed listed') {i : Nat} (hi : i < n) (hr : i ∈ Region.ready md ops listed) : Rel md ops n (listed.setIfInBounds i true) (listed'.setIfInBounds i true) := by
  refine ⟨by simp [r.size], by simp [r.size'], r.le, fun j hj => ?_, fun t ht htl => ?_, fun j o ho hl e he hb => ?_⟩
  · have h1 := r.size
    have h2 := r.size'
    have h3 := r.le
    have h4 := r.head j hj
    by_cases hij : i = j
    · subst hij
      simp [show i < listed.size by omega, show i < listed'.size by omega]
    · rw [getD_set_ne false hij, getD_set_ne false hij]
      exact h4
  · rw [getD_set_ne false (by omega)]
    exact r.tail t ht htl
  · by_cases hij : i = j
    · subst hij
      obtain ⟨-, o', ho', hall⟩ := mem_ready.1 hr
      obtain rfl : o' = o := Option.some.inj (ho'.symm.trans ho)
      exact getD_set_true (hall e he hb)
    · rw [getD_set_ne false hij] at hl
      exact getD_set_true (r.closed j o ho hl e he hb)

/-- How many have not come up yet. -/
def left (l : Array Bool) : Nat := l.toList.countP (fun b => !b)
theorem left_set {l : Array Bool} {i : Nat} (hi : i < l.size) (h : l.getD i true = false) : left l = left (l.setIfInBounds i true) + 1 := by
  have h' : l[i] = false := by simpa [hi] using h
  unfold left
  rw [Array.toList_setIfInBounds, List.countP_set (by simpa using hi)]
  have hpos : 0 < l.toList.countP (fun b => !b) := List.countP_pos_iff.2 ⟨l[i], by simp, by simp [h']⟩
  have e : l.toList[i]'(by simpa using hi) = false := by simpa using h'
  simp only [e, Bool.not_false, if_true, Bool.not_true, Bool.false_eq_true, if_false]
  omega
theorem left_zero {l : Array Bool} (h : left l = 0) (i : Nat) (hi : i < l.size) : l.getD i false = true := by
  unfold left at h
  rw [List.countP_eq_zero] at h
  have := h l[i] (by simp)
  simpa [hi] using this
theorem left_pos {l : Array Bool} (h : 0 < left l) : ∃ i, i < l.size ∧ l.getD i true = false := by
  obtain ⟨b, hb, hf⟩ := List.countP_pos_iff.1 h
  obtain ⟨i, hi, he⟩ := List.getElem_of_mem hb
  refine ⟨i, by simpa using hi, ?_⟩
  have : i < l.size := by simpa using hi
  have hf' : b = false := by simpa using hf
  simp [this]
  simpa [hf'] using he

theorem done_of {g : Nat} {listed listed' : Array Bool} (r : Rel md ops n listed listed') (hg : ops.size = n + g) (h : left listed' = 0) : listed = done n g := by
  apply Array.ext
  · simp [done, r.size, hg]
  · intro i h1 h2
    have e1 : listed[i] = listed.getD i false := by simp [h1]
    have e2 : (done n g)[i] = (done n g).getD i false := by simp [h2]
    rw [e1, e2]
    have hs := r.size
    by_cases hi : i < n
    · rw [r.head i hi, left_zero h i (by rw [r.size']; exact hi)]
      simp [done, hi, Array.getElem?_append]
    · rw [r.tail i (by omega) (by omega)]
      simp [done, hi, Array.getElem?_append, Array.getElem?_replicate]
      split <;> rfl

theorem take_get {l : List Oper} {i : Nat} (hi : i < n) : (l.take n).toArray[i]? = l.toArray[i]? := by
  simp [hi]

/-- Some operation of the head may come up, as long as one has not. -/
theorem some_ready {listed listed' : Array Bool} (hH : headB md ops n = true) (r : Rel md ops n listed listed') : ∀ i, i < n → listed.getD i true = false → Region.ready md ops listed ≠ [] := by
  intro i
  induction i using Nat.strongRecOn with
  | _ i ih =>
    intro hi hun
    have hs := r.size
    have hle := r.le
    obtain ⟨o, ho⟩ : ∃ o, ops[i]? = some o := ⟨_, Array.getElem?_eq_getElem (by omega)⟩
    have hA := (headB_after hH hi ho).1
    by_cases hall : ∀ e ∈ o.after, Region.binds md e = true → listed.getD e.on false = true
    · intro h0
      have : i ∈ Region.ready md ops listed := mem_ready.2 ⟨hun, o, ho, hall⟩
      rw [h0] at this
      cases this
    · have hno : ∃ e, e ∈ o.after ∧ Region.binds md e = true ∧ listed.getD e.on false = false := by
        apply Classical.byContradiction
        intro hno
        exact hall fun e he hb => by
          cases hx : listed.getD e.on false with
          | true => rfl
          | false => exact absurd ⟨e, he, hb, hx⟩ hno
      obtain ⟨e, he, hb, hn⟩ := hno
      have hlt := hA e he hb
      refine ih e.on hlt (by omega) ?_
      rw [getD_any (by omega) true false]
      exact hn

theorem head_ready {l : List Oper} {listed listed' : Array Bool} (hH : headB md l.toArray n = true) (hT : tailB md l.toArray n = true) (r : Rel md l.toArray n listed listed') (hpos : 0 < left listed') {i : Nat} (hi : i ∈ Region.ready md l.toArray listed) :
    i < n ∧ i ∈ Region.ready md (l.take n).toArray listed' := by
  have hs := r.size
  have hs' := r.size'
  have hle := r.le
  obtain ⟨hun, o, ho, hall⟩ := mem_ready.1 hi
  have hil : i < l.toArray.size := (Array.getElem?_eq_some_iff.1 ho).1
  simp only [tailB, Bool.and_eq_true] at hT
  have hin : i < n := by
    rcases Nat.lt_or_ge i n with h | h
    · exact h
    · exfalso
      obtain ⟨k, hk, hkf⟩ := left_pos hpos
      rw [hs'] at hk
      by_cases hine : i = n
      · subst hine
        have never : ∀ m k, i - k = m → k < i → listed.getD k false = false → False := by
          intro m
          induction m using Nat.strongRecOn with
          | _ m ih =>
            intro k hm hk hkf
            have h1 := List.all_eq_true.1 hT.1 k (List.mem_range.2 hk)
            obtain ⟨j, hj, hj2⟩ := List.any_eq_true.1 h1
            simp only [Bool.and_eq_true, decide_eq_true_eq] at hj2
            obtain ⟨oj, hoj, e, he, hb, hon⟩ := Region.waitsFor_spec hj2.2
            have hji : j ≤ i := by have := List.mem_range.1 hj; omega
            by_cases hje : j = i
            · subst hje
              obtain rfl : oj = o := Option.some.inj (hoj.symm.trans ho)
              have := hall e he hb
              rw [hon, hkf] at this
              cases this
            · cases hl : listed.getD j false with
              | true =>
                have := r.closed j oj hoj hl e he hb
                rw [hon, hkf] at this
                cases this
              | false => exact ih (i - j) (by omega) j rfl (by omega) hl
        refine never _ k rfl hk ?_
        rw [r.head k hk, getD_any (by omega) false true]
        exact hkf
      · have h1 := List.all_eq_true.1 hT.2 i (List.mem_range.2 hil)
        simp only [Bool.or_eq_true, decide_eq_true_eq] at h1
        rcases h1 with h1 | h1
        · omega
        · obtain ⟨o', ho', e, he, hb, hon⟩ := Region.waitsFor_spec h1
          obtain rfl : o' = o := Option.some.inj (ho'.symm.trans ho)
          have := hall e he hb
          rw [hon, r.tail (i - 1) (by omega) (by omega)] at this
          cases this
  refine ⟨hin, mem_ready.2 ⟨?_, o, by rw [take_get hin]; exact ho, fun e he hb => ?_⟩⟩
  · rw [getD_any (by omega) true false, ← r.head i hin, getD_any (by omega) false true]
    exact hun
  · have hlt := (headB_after hH hin ho).1 e he hb
    rw [← r.head e.on (by omega)]
    exact hall e he hb

theorem wpOp_of {l : List Oper} {Q : Exit → Act → World → Prop} {K : Act → World → Prop} {i : Nat} {a : Act} {w : World} (hH : headB md l.toArray n = true) (hin : i < n) (hnl : n < l.toArray.size) (h : wpOp P (l.take n).toArray Q i K a w) : wpOp P l.toArray Q i K a w := by
  unfold wpOp at h ⊢
  rw [take_get hin] at h
  obtain ⟨o, ho⟩ : ∃ o, l.toArray[i]? = some o := ⟨_, Array.getElem?_eq_getElem (by omega)⟩
  rw [ho] at h ⊢
  have hg := (headB_after hH hin ho).2
  have hw : Region.wanted o (yielded (l.take n).toArray a.tmps) = Region.wanted o (yielded l.toArray a.tmps) := by
    unfold Region.wanted
    split
    · rfl
    · rename_i j want hj
      unfold yielded
      rw [take_get (hg j want hj)]
  simp only [hw] at h
  exact h

theorem sim {l : List Oper} {C : World → Prop} {Lq : Act → Prop} {Q : Exit → Act → World → Prop} (hH : headB md l.toArray n = true) (hT : tailB md l.toArray n = true) (hS : Region.seqB md l.toArray (l.length - n) n (done n (l.length - n)) = true)
    (hQ : ∀ a w, C w → Lq a → wpList P l.toArray Q (l.drop n) a w) :
    ∀ (f : Nat) (listed listed' : Array Bool) (a : Act) (w : World), Rel md l.toArray n listed listed' → left listed' = f → C w → wpAnyQ P md (l.take n).toArray C Lq f listed' a → wpAny P md l.toArray Q (f + (l.length - n)) listed a w
  | 0, listed, listed', a, w, r, hf, hC, h => by
    have hle := r.le
    have hnl : n < l.length := by simpa using hle
    have hd := done_of (g := l.length - n) r (by simp; omega) hf
    have := wpAny_of_seq (P := P) (md := md) (ops := l.toArray) (Q' := Q) (l.drop n) n listed a w (fun j => by simp [List.getElem?_drop]) (by rw [hd, List.length_drop]; exact hS) (hQ a w hC h.2)
    rw [List.length_drop] at this
    rw [Nat.zero_add]
    exact this
  | f + 1, listed, listed', a, w, r, hf, hC, h => by
    have hs := r.size
    have hs' := r.size'
    have hle := r.le
    have hpos : 0 < left listed' := by omega
    rw [show f + 1 + (l.length - n) = (f + (l.length - n)) + 1 by omega]
    obtain ⟨k, hk, hkf⟩ := left_pos hpos
    rw [hs'] at hk
    refine ⟨fun h0 => absurd h0 (some_ready hH r k hk ?_), fun i hi => ?_⟩
    · rw [getD_any (by omega) true false, r.head k hk, getD_any (by omega) false true]
      exact hkf
    · obtain ⟨hin, hi'⟩ := head_ready hH hT r hpos hi
      have h1 := h.2 i hi'
      refine wpOp_of hH hin hle (wpOp_of_qOp hC (fun a' w' hC' h2 => ?_) h1)
      have hun := (mem_ready.1 hi').1
      have hl := left_set (l := listed') (by omega) hun
      exact sim hH hT hS hQ f _ _ a' w' (r.set hin hi) (by omega) hC' h2

theorem lit {w : World} {L : List Obj} {d : Nat} {id : Nat} {Q : Exit → Act → World → Prop} {a : Act} {l : List Oper} (n : Nat) (hm : P.follows .mixedOrders = true) (hn : n < l.length)
    (hH : headB .any l.toArray n = true) (hT : tailB .any l.toArray n = true) (hS : Region.seqB .any l.toArray (l.length - n) n (done n (l.length - n)) = true) (hB : Region.lexB .any (l.take n).toArray = true)
    (h : wpQuiet P (l.take n).toArray (Grow.Cls w L) (fun a' => ∀ m e, wpList P l.toArray Q (l.drop n) a' (w.ext (L ++ m) e)) (l.take n) a) : (Code.region id l.toArray true).wp P Q a (w.ext L d) := by
  have hlen : (l.take n).length = n := by simp; omega
  have hlex : Region.lexFrom .any (l.take n).toArray (l.take n).length 0 (Array.replicate (l.take n).toArray.size false) = true := by
    simp only [Region.lexB, Bool.and_eq_true] at hB
    simpa using hB.2
  have hs : Region.noSelect (l.take n).toArray = true := by
    simp only [Region.lexB, Bool.and_eq_true] at hB
    exact hB.1
  have hq := wpAnyQ_lex (P := P) (C := Grow.Cls w L) (md := .any) hs (l.take n) 0 (Array.replicate (l.take n).toArray.size false) a (by simp) hlex h
  refine wp_region_any hm ?_
  have := sim (P := P) (md := .any) (n := n) (Q := Q) (C := Grow.Cls w L) (Lq := fun a' => ∀ m e, wpList P l.toArray Q (l.drop n) a' (w.ext (L ++ m) e)) hH hT hS (fun a' w' ⟨x, hx⟩ h' => by rw [hx]; exact h' x.n x.e) n (Array.replicate l.length false) (Array.replicate (l.take n).toArray.size false) a
    { w.ext L d with drawn := (w.ext L d).drawn + 1 } ⟨by simp, by simp; omega, by simpa using hn, fun i _ => by rw [getD_replicate_false, getD_replicate_false], fun t _ _ => by rw [getD_replicate_false], fun j o _ hl => by rw [getD_replicate_false] at hl; cases hl⟩ (by simp [left, List.countP_replicate]; omega) ⟨⟨[], d + 1⟩, by rw [List.append_nil]; rfl⟩ (by rw [hlen] at hq; exact hq)
  rw [show n + (l.length - n) = l.toArray.size by simp; omega] at this
  simpa using this
end Tail
end Go
