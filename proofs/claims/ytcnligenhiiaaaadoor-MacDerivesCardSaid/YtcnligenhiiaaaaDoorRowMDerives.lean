/- The law MacDerives holds, for every input. The card: the row proved; the table of constants is tied to the program's text. -/
import Derived.Test.YtcnligenhiiaaaaDoorLawDerives
import Derived.Test.YtcnligenhiiaaaaDoorRowKit
import Derived.Test.YtcnligenhiiaaaaDoorCards
import Derived.Test.YtcnligenhiiaaaaDoorTie
import Derived.JoinedOf
import Derived.SevenTiedAt
import Derived.SizedLaws
namespace Go.Proofs.YtcnligenhiiaaaaDoor
open Go.RowKit Go.ChangeShapes Go.WideShapes Go.ChangeMaps Sha2 Words

set_option maxRecDepth 100000 in
theorem mDerives_lifted (os : Os) (started : os.Started) (H : Type) (enc : TypeId × Value → H) :
    ReturnsInHanded {} Tryd.checked os 8 .any (fun w args => (Rows.macDerivesSpec.pre enc Tryd.prog Tryd.f8 [] false w args ∧ laidMetH Tryd.prog [("oblivion/sha.constants", Rows.laid_oblivion_sha_constants)] w) ∧ sizedMet enc Tryd.prog Tryd.f8 (OpenSpec.ofChange Rows.macDerivesSpec) false w args)
      (Rows.macDerivesSpec.post enc Tryd.prog Tryd.f8 false true false false) := by
  refine returnsInHanded_of_change_and (C := Tryd.checked) (X := fun w _ => laidMetH Tryd.prog [("oblivion/sha.constants", Rows.laid_oblivion_sha_constants)] w) (fun _ _ _ hh h => h.of_heap hh) own started (by kernel_rfl) Tryd.func8
    (ChangeSpec.witness_at (enc := enc) (C := Tryd.checked) (os := os) (X := fun w _ => laidMetH Tryd.prog [("oblivion/sha.constants", Rows.laid_oblivion_sha_constants)] w) false (laidWorld os) #[.agg (row8 (List.replicate 16 0)), .string ⟨#[]⟩, .int .u32 0] 8 rfl (by kernel_rfl) (by kernel_rfl) (by kernel_rfl) (by kernel_rfl) (by kernel_rfl) (laidWorld_met os _)) ?_
  intro W base args ds gs before hval hW _ hsz hL _
  have hA := hW
  obtain ⟨p, q, hA, -, -, -, -⟩ := hA
  have close := fun hs hc => law_closes (fn := Tryd.f8) (f := 8) (args := args) (fresh := true) (handsOn := false) laidOut (by kernel_rfl) (show Tryd.f8.resultTypes = #[4] by kernel_rfl) Tryd.underlying4 rfl hW hs hc
  rw [Tryd.params8] at hA hval
  obtain ⟨v0, v1, v2, d0, d1, d2, p0, p1, p2, rfl, rfl, -, h0, h1, h2⟩ := trodAll_three hA
  obtain ⟨l0, hl0, rfl⟩ := open_row8 Tryd.underlying33 Tryd.underlying5 (by kernel_rfl) (by kernel_rfl) (hval 0 33 v0 rfl rfl) h0
  obtain ⟨s1, rfl, rfl, -, hz1⟩ := open_string Tryd.underlying9 (hval 1 9 v1 rfl rfl) h1
  obtain ⟨l1, rfl⟩ : ∃ l, s1 = Bytes.str l := ⟨s1.data.toList, (Bytes.str_of s1).symm⟩
  obtain ⟨n2, rfl, rfl, -, hw2⟩ := open_int Tryd.underlying38 (hval 2 38 v2 rfl rfl) h2
  simp [Lit.wf, IntKind.min, IntKind.max, IntKind.signed, IntKind.bits] at hw2
  refine close rfl ?_
  have hK := konst_of_laidH hL
  obtain ⟨m, rfl⟩ := Int.eq_ofNat_of_zero_le hw2.1
  exact mderives_holds l0 l1 hl0 m (by omega) W hK

theorem mDerives_row : Rows.MacDerivesSaid :=
  OpenClaim.holds_of_wide 8 Tryd.f8 rfl rfl rfl rfl rfl rfl rfl ⟨rfl, rfl, rfl, rfl, rfl⟩ rfl rfl rfl rfl rfl (by kernel_rfl) Tryd.func8 (by kernel_rfl)
    (of_decide_eq_true (by kernel_rfl)) (by unfold Func.isWrapper; rw [if_neg (of_decide_eq_false (by kernel_rfl))]; exact ⟨rfl, rfl⟩)
    (fun os started H enc _ => mDerives_lifted os started H enc)

theorem mDerives_card : Rows.MacDerivesCardSaid :=
  Claim7.holds_tied_plain_at .later [] [.data] true Rows.macDerivesCard.stood.harness false
    mDerives_row (fun _ h => by cases h) (by kernel_rfl) (fun _ h => by cases h) macDerives_row_tie rfl ⟨rfl, rfl⟩ (by kernel_rfl) rfl
    (fun f fn hf hfn => by
      obtain rfl : f = 8 := Option.some.inj ((show Tryd.prog.funcNamed "oblivion/oblivionlaw03.MacDerives" = some 8 by kernel_rfl).symm.trans hf) |>.symm
      obtain rfl : fn = Tryd.f8 := (Option.some.inj (Tryd.func8.symm.trans hfn)).symm
      exact ⟨by kernel_rfl, fun j t ht => by
        rw [Tryd.params8] at ht
        rcases j with _ | j
        · have h3 : 33 = t := by simpa using ht
          subst h3
          exact (show Tryd.prog.wantsStandIn 33 = false by kernel_rfl)
        rcases j with _ | j
        · have h3 : 9 = t := by simpa using ht
          subst h3
          exact (show Tryd.prog.wantsStandIn 9 = false by kernel_rfl)
        rcases j with _ | j
        · have h3 : 38 = t := by simpa using ht
          subst h3
          exact (show Tryd.prog.wantsStandIn 38 = false by kernel_rfl)
        simp at ht⟩)
    (by kernel_rfl)
#print axioms mDerives_card
end Go.Proofs.YtcnligenhiiaaaaDoor
