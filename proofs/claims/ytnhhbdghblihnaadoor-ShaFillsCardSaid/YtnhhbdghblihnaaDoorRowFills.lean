/- The law ShaFills holds: for every number, what is filled up makes whole blocks. The card: the row proved, the table of constants tied to the program's text. -/
import Derived.Test.YtnhhbdghblihnaaDoorLawFills
import Derived.Test.YtnhhbdghblihnaaDoorRowKit
import Derived.Test.YtnhhbdghblihnaaDoorCards
import Derived.Test.YtnhhbdghblihnaaDoorTie
import Derived.JoinedOf
import Derived.SevenTiedAt
namespace Go.Proofs.YtnhhbdghblihnaaDoor
open Go.RowKit Go.ChangeShapes Go.WideShapes Sha2 Words

set_option maxRecDepth 100000 in
theorem fills_lifted (os : Os) (started : os.Started) (H : Type) (enc : TypeId × Value → H) :
    ReturnsInHanded {} Tryd.checked os 5 .any (fun w args => (Rows.shaFillsSpec.pre enc Tryd.prog Tryd.f5 [] false w args ∧ laidMetH Tryd.prog [("oblivion/sha.constants", Rows.laid_oblivion_sha_constants)] w) ∧ sizedMet enc Tryd.prog Tryd.f5 (OpenSpec.ofChange Rows.shaFillsSpec) false w args)
      (Rows.shaFillsSpec.post enc Tryd.prog Tryd.f5 false true false false) := by
  refine returnsInHanded_of_change_and (C := Tryd.checked) (X := fun w _ => laidMetH Tryd.prog [("oblivion/sha.constants", Rows.laid_oblivion_sha_constants)] w) (fun _ _ _ hh h => h.of_heap hh) own started (by kernel_rfl) Tryd.func5
    (ChangeSpec.witness_at (enc := enc) (C := Tryd.checked) (os := os) (X := fun w _ => laidMetH Tryd.prog [("oblivion/sha.constants", Rows.laid_oblivion_sha_constants)] w) false (laidWorld os) #[.int .u16 0] 8 rfl (by kernel_rfl) (by kernel_rfl) (by kernel_rfl) (by kernel_rfl) (by kernel_rfl) (laidWorld_met os _)) ?_
  intro W base args ds gs before hval hW _ _ hL _
  have hA := hW
  obtain ⟨p, q, hA, -, -, -, -⟩ := hA
  have close := fun hs hc => law_closes (fn := Tryd.f5) (f := 5) (args := args) (fresh := true) (handsOn := false) laidOut (by kernel_rfl) (show Tryd.f5.resultTypes = #[4] by kernel_rfl) Tryd.underlying4 rfl hW hs hc
  rw [Tryd.params5] at hA hval
  obtain ⟨v0, d0, rfl, rfl, h0⟩ := trodAll_one hA
  obtain ⟨n, rfl, rfl, -, hwn⟩ := open_int Tryd.underlying38 (hval 0 38 v0 rfl rfl) h0
  refine close rfl ?_
  simp [Lit.wf, IntKind.min, IntKind.max, IntKind.signed, IntKind.bits] at hwn
  obtain ⟨m, rfl⟩ := Int.eq_ofNat_of_zero_le hwn.1
  exact fills_holds m (by omega) W (konst_of_laidH hL)

theorem fills_row : Rows.ShaFillsSaid :=
  OpenClaim.holds_of_wide 5 Tryd.f5 rfl rfl rfl rfl rfl rfl rfl ⟨rfl, rfl, rfl, rfl, rfl⟩ rfl rfl rfl rfl rfl (by kernel_rfl) Tryd.func5 (by kernel_rfl)
    (of_decide_eq_true (by kernel_rfl)) (by unfold Func.isWrapper; rw [if_neg (of_decide_eq_false (by kernel_rfl))]; exact ⟨rfl, rfl⟩)
    (fun os started H enc _ => fills_lifted os started H enc)

theorem fills_card : Rows.ShaFillsCardSaid :=
  Claim7.holds_tied_plain_at .later [] [.data] true Rows.shaFillsCard.stood.harness false
    fills_row (fun _ h => by cases h) (by kernel_rfl) (fun _ h => by cases h) shaFills_row_tie rfl ⟨rfl, rfl⟩ (by kernel_rfl) rfl
    (fun f fn hf hfn => by
      obtain rfl : f = 5 := Option.some.inj ((show Tryd.prog.funcNamed "oblivion/oblivionlaw02.ShaFills" = some 5 by kernel_rfl).symm.trans hf) |>.symm
      obtain rfl : fn = Tryd.f5 := (Option.some.inj (Tryd.func5.symm.trans hfn)).symm
      exact ⟨by kernel_rfl, fun j t ht => by
        rw [Tryd.params5] at ht
        have h3 : t = 38 := by
          rcases j with _ | j
          · simpa using ht.symm
          · simp at ht
        subst h3
        exact (show Tryd.prog.wantsStandIn 38 = false by kernel_rfl)⟩)
    (by kernel_rfl)
#print axioms fills_card
end Go.Proofs.YtnhhbdghblihnaaDoor
