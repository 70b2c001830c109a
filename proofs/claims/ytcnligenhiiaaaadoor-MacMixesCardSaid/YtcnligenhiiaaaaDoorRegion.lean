/- A region that draws its order: its head only reads and calls what only reads, its tail stands in one order: walked once, the head by the cheap step of a quiet walk. -/
import Derived.StillTailTactics
import Derived.BigQuiet
namespace Go
namespace Region2
variable {P : Program} {ops : Array Oper} {w : World}

theorem still_of_quiet {o : Oper} {a : Act} {K : Act → Prop} (h : o.quiet P a (fun w' => w' = w) K) : o.still P a w K := by
  obtain ⟨v, h1, h2⟩ := h
  have h3 := h1 w rfl
  unfold Oper.quietAt at h3
  unfold Oper.still
  generalize (execOp a.eval o).run P w = r at *
  cases r with
  | ok n w' =>
    cases n <;> simp only [Oper.quietUpon] at h3 <;> simp only [Oper.stillUpon]
    case value u =>
      obtain ⟨e1, e2⟩ := h3
      exact ⟨e1, by rw [e2]; exact h2⟩
    case skip =>
      obtain ⟨e1, e2⟩ := h3
      exact ⟨e1, by rw [← e2]; exact h2⟩
    case enter f args =>
      obtain ⟨e1, hc⟩ := h3
      exact ⟨e1, v, hc, h2⟩
  | halt x w' => simp only [Oper.quietUpon] at h3

theorem list_of_quiet {Q : Act → Prop} : ∀ (l : List Oper) (a : Act), wpQuiet P ops (fun w' => w' = w) Q l a → wpStill P ops w Q l a
  | [], _, h => h
  | o :: rest, a, h => by
    unfold wpQuiet at h
    unfold wpStill
    split at h
    · rename_i hw
      rw [if_pos hw]
      obtain ⟨v, h1, h2⟩ := h
      exact still_of_quiet ⟨v, h1, list_of_quiet rest _ h2⟩
    · rename_i hw
      rw [if_neg hw]
      exact list_of_quiet rest _ h

/-- One operation of such a head: asked in the one world. -/
@[go_sem ↓] theorem quiet_one (W : World) (o : Oper) (a : Act) (K : Act → Prop) : o.quiet P a (fun w' => w' = W) K = ∃ v, o.quietAt P a (fun w' => w' = W) W v ∧ K (a.put o.dst v) := by
  unfold Oper.quiet
  apply propext
  constructor
  · rintro ⟨v, h1, h2⟩
    exact ⟨v, h1 _ rfl, h2⟩
  · rintro ⟨v, h1, h2⟩
    exact ⟨v, fun w' hx => by rw [hx]; exact h1, h2⟩

theorem quiet_tail {id : Nat} {Q : Exit → Act → World → Prop} {a : Act} {l : List Oper} (n : Nat) (hm : P.follows .mixedOrders = true) (hB : Region.lexTailB .any l.toArray n = true)
    (h : wpQuiet P l.toArray (fun w' => w' = w.drew) (fun a' => wpList P l.toArray Q (l.drop n) a' w.drew) (l.take n) a) : (Code.region id l.toArray true).wp P Q a w :=
  wp_region_still_tail n hm hB (list_of_quiet _ _ h)
end Region2
end Go
