/- The law MacMixes holds, for every input. The card: the row proved; the table of constants is tied to the program's text. -/
import Derived.Test.YtcnligenhiiaaaaDoorLawMixes
import Derived.Test.YtcnligenhiiaaaaDoorRowKit
import Derived.Test.YtcnligenhiiaaaaDoorCards
import Derived.Test.YtcnligenhiiaaaaDoorTie
import Derived.JoinedOf
import Derived.SevenTiedAt
import Derived.SizedLaws
namespace Go.Proofs.YtcnligenhiiaaaaDoor
open Go.RowKit Go.ChangeShapes Go.WideShapes Go.ChangeMaps Sha2 Words

set_option maxRecDepth 100000 in
theorem mMixes_lifted (os : Os) (started : os.Started) (H : Type) (enc : TypeId × Value → H) :
    ReturnsInHanded {} Tryd.checked os 5 .any (fun w args => (Rows.macMixesSpec.pre enc Tryd.prog Tryd.f5 [] false w args ∧ laidMetH Tryd.prog [("oblivion/sha.constants", Rows.laid_oblivion_sha_constants)] w) ∧ sizedMet enc Tryd.prog Tryd.f5 (OpenSpec.ofChange Rows.macMixesSpec) false w args)
      (Rows.macMixesSpec.post enc Tryd.prog Tryd.f5 false true false false) := by
  refine returnsInHanded_of_change_and (C := Tryd.checked) (X := fun w _ => laidMetH Tryd.prog [("oblivion/sha.constants", Rows.laid_oblivion_sha_constants)] w) (fun _ _ _ hh h => h.of_heap hh) own started (by kernel_rfl) Tryd.func5
    (ChangeSpec.witness_at (enc := enc) (C := Tryd.checked) (os := os) (X := fun w _ => laidMetH Tryd.prog [("oblivion/sha.constants", Rows.laid_oblivion_sha_constants)] w) false (laidWorld os) #[.string ⟨#[]⟩, .string ⟨#[]⟩] 8 rfl (by kernel_rfl) (by kernel_rfl) (by kernel_rfl) (by kernel_rfl) (by kernel_rfl) (laidWorld_met os _)) ?_
  intro W base args ds gs before hval hW _ hsz hL _
  have hA := hW
  obtain ⟨p, q, hA, -, -, -, -⟩ := hA
  have close := fun hs hc => law_closes (fn := Tryd.f5) (f := 5) (args := args) (fresh := true) (handsOn := false) laidOut (by kernel_rfl) (show Tryd.f5.resultTypes = #[4] by kernel_rfl) Tryd.underlying4 rfl hW hs hc
  rw [Tryd.params5] at hA hval
  obtain ⟨v0, v1, d0, d1, p0, p1, rfl, rfl, -, h0, h1⟩ := trodAll_two hA
  obtain ⟨s0, rfl, rfl, -, hz0⟩ := open_string Tryd.underlying9 (hval 0 9 v0 rfl rfl) h0
  obtain ⟨l0, rfl⟩ : ∃ l, s0 = Bytes.str l := ⟨s0.data.toList, (Bytes.str_of s0).symm⟩
  obtain ⟨s1, rfl, rfl, -, hz1⟩ := open_string Tryd.underlying9 (hval 1 9 v1 rfl rfl) h1
  obtain ⟨l1, rfl⟩ : ∃ l, s1 = Bytes.str l := ⟨s1.data.toList, (Bytes.str_of s1).symm⟩
  refine close rfl ?_
  have hK := konst_of_laidH hL
  exact mmixes_holds l0 l1 W hK

theorem mMixes_row : Rows.MacMixesSaid :=
  OpenClaim.holds_of_wide 5 Tryd.f5 rfl rfl rfl rfl rfl rfl rfl ⟨rfl, rfl, rfl, rfl, rfl⟩ rfl rfl rfl rfl rfl (by kernel_rfl) Tryd.func5 (by kernel_rfl)
    (of_decide_eq_true (by kernel_rfl)) (by unfold Func.isWrapper; rw [if_neg (of_decide_eq_false (by kernel_rfl))]; exact ⟨rfl, rfl⟩)
    (fun os started H enc _ => mMixes_lifted os started H enc)

theorem mMixes_card : Rows.MacMixesCardSaid :=
  Claim7.holds_tied_plain_at .later [] [.data] true Rows.macMixesCard.stood.harness false
    mMixes_row (fun _ h => by cases h) (by kernel_rfl) (fun _ h => by cases h) macMixes_row_tie rfl ⟨rfl, rfl⟩ (by kernel_rfl) rfl
    (fun f fn hf hfn => by
      obtain rfl : f = 5 := Option.some.inj ((show Tryd.prog.funcNamed "oblivion/oblivionlaw03.MacMixes" = some 5 by kernel_rfl).symm.trans hf) |>.symm
      obtain rfl : fn = Tryd.f5 := (Option.some.inj (Tryd.func5.symm.trans hfn)).symm
      exact ⟨by kernel_rfl, fun j t ht => by
        rw [Tryd.params5] at ht
        rcases j with _ | j
        · have h3 : 9 = t := by simpa using ht
          subst h3
          exact (show Tryd.prog.wantsStandIn 9 = false by kernel_rfl)
        rcases j with _ | j
        · have h3 : 9 = t := by simpa using ht
          subst h3
          exact (show Tryd.prog.wantsStandIn 9 = false by kernel_rfl)
        simp at ht⟩)
    (by kernel_rfl)
#print axioms mMixes_card
end Go.Proofs.YtcnligenhiiaaaaDoor
