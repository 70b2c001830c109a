/- A region that draws its order: its head only reads what stands in every world with these blocks (and may come late), its tail stands in one order and makes blocks. -/
import Derived.Test.YtcnligenhiiaaaaDoorGrow
import Derived.StillTail
import Derived.Deep.RegionHeld
namespace Go
namespace Held
variable {P : Program} {ops : Array Oper} {md : Region.Mode}

/-- The tail: behind each operation S holds anew. -/
def seq (P : Program) (ops : Array Oper) (Q : Exit → Act → World → Prop) (S : World → Prop) : List Oper → Act → World → Prop
  | [], a, w => Q .normal a w
  | o :: rest, a, w => ∀ K : Act → World → Prop, Shut (∀ a w, S w → seq P ops Q S rest a w → K a w) → if Region.wanted o (yielded ops a.tmps) = true then o.wp P a w K Q else K (a.put o.dst undef) w
/-- The head: each yields its value in every world that meets S. -/
def reads (P : Program) (ops : Array Oper) (S : World → Prop) (R : Act → Prop) : List Oper → Act → Prop
  | [], a => R a
  | o :: rest, a => ∃ v, YieldsIf P ops S o v a ∧ reads P ops S R rest (a.put o.dst v)

theorem any_of_seq {Q : Exit → Act → World → Prop} {S : World → Prop} : ∀ (l : List Oper) (k : Nat) (listed : Array Bool) (a : Act) (w : World), (∀ j, l[j]? = ops[k + j]?) →
    Region.seqB md ops l.length k listed = true → seq P ops Q S l a w → wpAnyH P md ops Q S l.length listed a w
  | [], _, _, _, _, _, hB, h => ⟨by simpa [Region.seqB] using hB, h⟩
  | o :: l, k, listed, a, w, hl, hB, h => by
    have h0 : ops[k]? = some o := by simpa using (hl 0).symm
    simp only [List.length_cons, Region.seqB, Bool.and_eq_true, decide_eq_true_eq] at hB
    refine ⟨fun h1 => (by rw [hB.1] at h1; cases h1), fun i hi => ?_⟩
    rw [hB.1] at hi
    have hik : i = k := by simpa using hi
    subst hik
    exact wpOp_step h0 fun K hK => h K (fun a' w' hS h' => hK a' w' ⟨hS, any_of_seq l (i + 1) _ a' w' (fun j => by have := hl (j + 1); simpa [Nat.add_assoc, Nat.add_comm 1 j] using this) hB.2 h'⟩)

theorem any_of_reads {Q : Exit → Act → World → Prop} {S : World → Prop} {R : Act → Prop} {g : Nat} {w : World} (hsel : Region.noSelect ops = true) (hQ : ∀ c a (o : Oper) v w, Q (.panic c) (a.put o.dst v) w → Q (.panic c) a w) (hS : S w) :
    ∀ (l : List Oper) (k : Nat) (listed : Array Bool) (a : Act), (∀ j, j < l.length → l[j]? = ops[k + j]?) → Region.lexHead md ops g l.length k listed = true →
    (∀ listed' a', Region.seqB md ops g (k + l.length) listed' = true → R a' → wpAnyH P md ops Q S g listed' a' w) → reads P ops S R l a → wpAnyH P md ops Q S (l.length + g) listed a w
  | [], k, listed, a, _, hB, hE, h => by
    have := hE listed a (by simpa [Region.lexHead] using hB) h
    simpa using this
  | o :: l, k, listed, a, hl, hB, hE, h => by
    have h0 : ops[k]? = some o := by simpa using (hl 0 (by simp)).symm
    simp only [List.length_cons, Region.lexHead, Bool.and_eq_true] at hB
    obtain ⟨⟨hr, hf⟩, hB'⟩ := hB
    obtain ⟨v, hy, h'⟩ := h
    rw [show (o :: l).length + g = (l.length + g) + 1 by simp; omega]
    refine wpAnyH_take h0 hsel hf hr (fun c a w h => hQ c _ _ _ w h) hy hS ?_
    exact any_of_reads hsel hQ hS l (k + 1) _ _ (fun j hj => by have := hl (j + 1) (by simp; omega); simpa [Nat.add_assoc, Nat.add_comm 1 j] using this) hB'
      (fun listed' a' hs hR => hE listed' a' (by rw [show k + (o :: l).length = k + 1 + l.length by simp; omega]; exact hs) hR) h'

/-- Nothing panics here. -/
def Calm (Q : Exit → Act → World → Prop) : Exit → Act → World → Prop
  | .panic _, _, _ => False
  | e, a, w => Q e a w
theorem Calm.imp {Q : Exit → Act → World → Prop} : ∀ e a w, Calm Q e a w → Q e a w
  | .panic _, _, _, h => h.elim
  | .normal, _, _, h => h
  | .exit _, _, _, h => h
  | .goto _, _, _, h => h
  | .ret, _, _, h => h
  | .outgrown, _, _, h => h

theorem lit {w : World} {L : List Obj} {d : Nat} {id : Nat} {Q : Exit → Act → World → Prop} {a : Act} {l : List Oper} (n : Nat) (hm : P.follows .mixedOrders = true) (hn : n ≤ l.length)
    (hB : Region.lexHead .any l.toArray (l.length - n) n 0 (Array.replicate l.toArray.size false) = true) (hsel : Region.noSelect l.toArray = true)
    (h : reads P l.toArray (Grow.Cls w L) (fun a' => seq P l.toArray (Calm Q) (Grow.Cls w L) (l.drop n) a' (w.ext L (d + 1))) (l.take n) a) : (Code.region id l.toArray true).wp P Q a (w.ext L d) := by
  have hlen : (l.take n).length = n := by simp; omega
  have hS : Grow.Cls w L { w.ext L d with drawn := (w.ext L d).drawn + 1 } := ⟨⟨[], d + 1⟩, by rw [List.append_nil]; rfl⟩
  refine Code.wp_mono Calm.imp (wp_region_held (S := Grow.Cls w L) hm ?_)
  have := any_of_reads (P := P) (md := .any) (Q := Calm Q) (g := l.length - n) hsel (fun _ _ _ _ _ h => h) hS (l.take n) 0 (Array.replicate l.toArray.size false) a
    (fun j hj => by have : j < n := by omega
                    simp [this]) (by rw [hlen]; exact hB)
    (fun listed' a' hs hR => by
      rw [hlen, Nat.zero_add] at hs
      have := any_of_seq (P := P) (md := .any) (Q := Calm Q) (S := Grow.Cls w L) (l.drop n) n listed' a' _ (fun j => by simp [List.getElem?_drop]) (by rw [List.length_drop]; exact hs) hR
      rw [List.length_drop] at this
      exact this) h
  rw [hlen, show n + (l.length - n) = l.toArray.size by simp; omega] at this
  exact this
theorem reads_cons {w : World} {L : List Obj} {R : Act → Prop} {o : Oper} {rest : List Oper} {a : Act} {v : Value} (hw : Region.wanted o (yielded ops a.tmps) = true)
    (h : ∀ x : More, (execOp a.eval o).run P (w.ext (L ++ x.n) x.e) = .ok (.value v) (w.ext (L ++ x.n) x.e)) (hr : reads P ops (Grow.Cls w L) R rest (a.put o.dst v)) : reads P ops (Grow.Cls w L) R (o :: rest) a :=
  ⟨v, .inl ⟨hw, fun _ ⟨x, hx⟩ => by rw [hx]; exact h x⟩, hr⟩
theorem seq_cons {w : World} {L : List Obj} {W : World} {Q : Exit → Act → World → Prop} {o : Oper} {rest : List Oper} {a : Act} (hw : Region.wanted o (yielded ops a.tmps) = true)
    (h : ∀ K : Act → World → Prop, Shut (∀ a L' e, L <+: L' → seq P ops Q (Grow.Cls w L) rest a (w.ext L' e) → K a (w.ext L' e)) → o.wp P a W K Q) : seq P ops Q (Grow.Cls w L) (o :: rest) a W := fun K hK => by
  rw [if_pos hw]
  exact h K fun a L' e ⟨n, hn⟩ hs => hK.out a _ ⟨⟨n, e⟩, by rw [hn]⟩ hs
theorem seq_nil {Q : Exit → Act → World → Prop} {S : World → Prop} {a : Act} {W : World} (h : Q .normal a W) : seq P ops (Calm Q) S [] a W := h
/-! ### The same by hand, one move at a time -/
theorem begin_ {w : World} {L : List Obj} {d : Nat} {id : Nat} {Q : Exit → Act → World → Prop} {a : Act} {l : List Oper} (hm : P.follows .mixedOrders = true)
    (h : wpAnyH P .any l.toArray (Calm Q) (Grow.Cls w L) l.length (Array.replicate l.length false) a (w.ext L (d + 1))) : (Code.region id l.toArray true).wp P Q a (w.ext L d) :=
  Code.wp_mono Calm.imp (wp_region_held (S := Grow.Cls w L) hm h)
theorem take {w : World} {L L' : List Obj} {e : Nat} {Q : Exit → Act → World → Prop} {l : List Oper} {listed : Array Bool} {fuel : Nat} {a : Act} {v : Value} (i : Nat) {o : Oper} (hi : l[i]? = some o)
    (hs : Region.noSelect l.toArray = true) (hf : Region.free .any l.toArray listed i = true) (hr : (Region.ready .any l.toArray listed).contains i = true) (hL : L <+: L')
    (hw : Region.wanted o (yielded l.toArray a.tmps) = true) (h : ∀ x : More, (execOp a.eval o).run P (w.ext (L ++ x.n) x.e) = .ok (.value v) (w.ext (L ++ x.n) x.e))
    (hn : wpAnyH P .any l.toArray (Calm Q) (Grow.Cls w L) fuel (listed.setIfInBounds i true) (a.put o.dst v) (w.ext L' e)) : wpAnyH P .any l.toArray (Calm Q) (Grow.Cls w L) (fuel + 1) listed a (w.ext L' e) :=
  wpAnyH_take (by simpa using hi) hs hf hr (fun _ _ _ h => h) (.inl ⟨hw, fun _ ⟨x, hx⟩ => by rw [hx]; exact h x⟩) (by obtain ⟨n, hn⟩ := hL; exact ⟨⟨n, e⟩, by rw [hn]⟩) hn
theorem step {w : World} {L : List Obj} {W : World} {Q : Exit → Act → World → Prop} {l : List Oper} {listed : Array Bool} {fuel : Nat} {a : Act} (i : Nat) {o : Oper} (hi : l[i]? = some o)
    (hw : Region.wanted o (yielded l.toArray a.tmps) = true)
    (h : ∀ K : Act → World → Prop, Shut (∀ a L' e, L <+: L' → wpAnyH P .any l.toArray (Calm Q) (Grow.Cls w L) fuel (listed.setIfInBounds i true) a (w.ext L' e) → K a (w.ext L' e)) → o.wp P a W K (Calm Q)) :
    wpOp P l.toArray (Calm Q) i (fun a' w' => Grow.Cls w L w' ∧ wpAnyH P .any l.toArray (Calm Q) (Grow.Cls w L) fuel (listed.setIfInBounds i true) a' w') a W :=
  wpOp_step (by simpa using hi) fun K hK => by
    rw [if_pos hw]
    exact h K fun a L' e ⟨n, hn⟩ hs => hK a _ ⟨⟨⟨n, e⟩, by rw [hn]⟩, hs⟩
theorem one {w : World} {L : List Obj} {W : World} {Q : Exit → Act → World → Prop} {l : List Oper} {listed : Array Bool} {fuel : Nat} {a : Act} (i : Nat) {o : Oper} (hr : Region.ready .any l.toArray listed = [i]) (hi : l[i]? = some o)
    (hw : Region.wanted o (yielded l.toArray a.tmps) = true)
    (h : ∀ K : Act → World → Prop, Shut (∀ a L' e, L <+: L' → wpAnyH P .any l.toArray (Calm Q) (Grow.Cls w L) fuel (listed.setIfInBounds i true) a (w.ext L' e) → K a (w.ext L' e)) → o.wp P a W K (Calm Q)) :
    wpAnyH P .any l.toArray (Calm Q) (Grow.Cls w L) (fuel + 1) listed a W :=
  wpAnyH_all hr (by simp) fun j hj => by
    obtain rfl : j = i := by simpa using hj
    exact step j hi hw h
theorem two {w : World} {L : List Obj} {W : World} {Q : Exit → Act → World → Prop} {l : List Oper} {listed : Array Bool} {fuel : Nat} {a : Act} (i k : Nat) {o p : Oper} (hr : Region.ready .any l.toArray listed = [i, k]) (hi : l[i]? = some o) (hk : l[k]? = some p)
    (hw : Region.wanted o (yielded l.toArray a.tmps) = true) (hv : Region.wanted p (yielded l.toArray a.tmps) = true)
    (h : ∀ K : Act → World → Prop, Shut (∀ a L' e, L <+: L' → wpAnyH P .any l.toArray (Calm Q) (Grow.Cls w L) fuel (listed.setIfInBounds i true) a (w.ext L' e) → K a (w.ext L' e)) → o.wp P a W K (Calm Q))
    (h' : ∀ K : Act → World → Prop, Shut (∀ a L' e, L <+: L' → wpAnyH P .any l.toArray (Calm Q) (Grow.Cls w L) fuel (listed.setIfInBounds k true) a (w.ext L' e) → K a (w.ext L' e)) → p.wp P a W K (Calm Q)) :
    wpAnyH P .any l.toArray (Calm Q) (Grow.Cls w L) (fuel + 1) listed a W :=
  wpAnyH_all hr (by simp) fun j hj => by
    have : j = i ∨ j = k := by simpa using hj
    rcases this with rfl | rfl
    · exact step j hi hw h
    · exact step j hk hv h'
/-- More blocks stand now: they may be read first as well. -/
theorem narrow {w : World} {L L' : List Obj} {Q : Exit → Act → World → Prop} {l : List Oper} (hL : L <+: L') : ∀ (fuel : Nat) (listed : Array Bool) (a : Act) (W : World),
    wpAnyH P .any l.toArray Q (Grow.Cls w L') fuel listed a W → wpAnyH P .any l.toArray Q (Grow.Cls w L) fuel listed a W
  | 0, _, _, _, h => h
  | fuel + 1, _, _, _, h => ⟨h.1, fun i hi => wpOp_mono (fun a' w' h' => ⟨by
      obtain ⟨n, rfl⟩ := hL
      obtain ⟨⟨x, hx⟩, -⟩ := h'
      exact ⟨⟨n ++ x.n, x.e⟩, by rw [hx, List.append_assoc]⟩, narrow hL fuel _ a' w' h'.2⟩) (h.2 i hi)⟩
theorem end_ {w : World} {L : List Obj} {W : World} {Q : Exit → Act → World → Prop} {l : List Oper} {listed : Array Bool} {a : Act} (hr : Region.ready .any l.toArray listed = []) (h : Q .normal a W) :
    wpAnyH P .any l.toArray (Calm Q) (Grow.Cls w L) 0 listed a W := ⟨hr, h⟩
end Held
end Go
