/- The law MacParts holds, for every input. The card: the row proved; the table of constants is tied to the program's text. -/
import Derived.Test.YtcnligenhiiaaaaDoorLawMParts
import Derived.Test.YtcnligenhiiaaaaDoorRowKit
import Derived.Test.YtcnligenhiiaaaaDoorCards
import Derived.Test.YtcnligenhiiaaaaDoorTie
import Derived.JoinedOf
import Derived.SevenTiedAt
import Derived.SizedLaws
namespace Go.Proofs.YtcnligenhiiaaaaDoor
open Go.RowKit Go.ChangeShapes Go.WideShapes Go.ChangeMaps Sha2 Words

set_option maxRecDepth 100000 in
theorem mParts_lifted (os : Os) (started : os.Started) (H : Type) (enc : TypeId × Value → H) :
    ReturnsInHanded {} Tryd.checked os 3 .any (fun w args => (Rows.macPartsSpec.pre enc Tryd.prog Tryd.f3 [] false w args ∧ laidMetH Tryd.prog [("oblivion/sha.constants", Rows.laid_oblivion_sha_constants)] w) ∧ sizedMet enc Tryd.prog Tryd.f3 (OpenSpec.ofChange Rows.macPartsSpec) false w args)
      (Rows.macPartsSpec.post enc Tryd.prog Tryd.f3 false true false false) := by
  refine returnsInHanded_of_change_and (C := Tryd.checked) (X := fun w _ => laidMetH Tryd.prog [("oblivion/sha.constants", Rows.laid_oblivion_sha_constants)] w) (fun _ _ _ hh h => h.of_heap hh) own started (by kernel_rfl) Tryd.func3
    (ChangeSpec.witness_at (enc := enc) (C := Tryd.checked) (os := os) (X := fun w _ => laidMetH Tryd.prog [("oblivion/sha.constants", Rows.laid_oblivion_sha_constants)] w) false (laidWorld os) #[.string ⟨#[]⟩, .slice none 0 0] 8 rfl (by kernel_rfl) (by kernel_rfl) (by kernel_rfl) (by kernel_rfl) (by kernel_rfl) (laidWorld_met os _)) ?_
  intro W base args ds gs before hval hW _ hsz hL _
  have hA := hW
  obtain ⟨p, q, hA, -, -, -, -⟩ := hA
  have close := fun hs hc => law_closes (fn := Tryd.f3) (f := 3) (args := args) (fresh := true) (handsOn := false) laidOut (by kernel_rfl) (show Tryd.f3.resultTypes = #[4] by kernel_rfl) Tryd.underlying4 rfl hW hs hc
  rw [Tryd.params3] at hA hval
  obtain ⟨v0, v1, d0, d1, p0, p1, rfl, rfl, -, h0, h1⟩ := trodAll_two hA
  obtain ⟨s0, rfl, rfl, -, hz0⟩ := open_string Tryd.underlying9 (hval 0 9 v0 rfl rfl) h0
  obtain ⟨l0, rfl⟩ : ∃ l, s0 = Bytes.str l := ⟨s0.data.toList, (Bytes.str_of s0).symm⟩
  have hs1 := open_strs Tryd.underlying22 Tryd.underlying9 (by kernel_rfl) (hval 1 22 v1 rfl rfl) h1
  refine close rfl ?_
  have hK := konst_of_laidH hL
  rcases hs1 with ⟨a, c, rfl⟩ | ⟨bk, o, c, xs, rfl, hc, hb, hx⟩
  · exact mparts_none l0 a c W hK
  · exact mparts_holds l0 xs bk o c W hK hx hb hc

theorem mParts_row : Rows.MacPartsSaid :=
  OpenClaim.holds_of_wide 3 Tryd.f3 rfl rfl rfl rfl rfl rfl rfl ⟨rfl, rfl, rfl, rfl, rfl⟩ rfl rfl rfl rfl rfl (by kernel_rfl) Tryd.func3 (by kernel_rfl)
    (of_decide_eq_true (by kernel_rfl)) (by unfold Func.isWrapper; rw [if_neg (of_decide_eq_false (by kernel_rfl))]; exact ⟨rfl, rfl⟩)
    (fun os started H enc _ => mParts_lifted os started H enc)

theorem mParts_card : Rows.MacPartsCardSaid :=
  Claim7.holds_tied_plain_at .later [] [.data] true Rows.macPartsCard.stood.harness false
    mParts_row (fun _ h => by cases h) (by kernel_rfl) (fun _ h => by cases h) macParts_row_tie rfl ⟨rfl, rfl⟩ (by kernel_rfl) rfl
    (fun f fn hf hfn => by
      obtain rfl : f = 3 := Option.some.inj ((show Tryd.prog.funcNamed "oblivion/oblivionlaw03.MacParts" = some 3 by kernel_rfl).symm.trans hf) |>.symm
      obtain rfl : fn = Tryd.f3 := (Option.some.inj (Tryd.func3.symm.trans hfn)).symm
      exact ⟨by kernel_rfl, fun j t ht => by
        rw [Tryd.params3] at ht
        rcases j with _ | j
        · have h3 : 9 = t := by simpa using ht
          subst h3
          exact (show Tryd.prog.wantsStandIn 9 = false by kernel_rfl)
        rcases j with _ | j
        · have h3 : 22 = t := by simpa using ht
          subst h3
          exact (show Tryd.prog.wantsStandIn 22 = false by kernel_rfl)
        simp at ht⟩)
    (by kernel_rfl)
#print axioms mParts_card
end Go.Proofs.YtcnligenhiiaaaaDoor
