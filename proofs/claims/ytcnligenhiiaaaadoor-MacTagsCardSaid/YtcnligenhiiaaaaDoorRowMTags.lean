/- The law MacTags holds, for every input. The card: the row proved; the table of constants is tied to the program's text. -/
import Derived.Test.YtcnligenhiiaaaaDoorLawTags
import Derived.Test.YtcnligenhiiaaaaDoorRowKit
import Derived.Test.YtcnligenhiiaaaaDoorCards
import Derived.Test.YtcnligenhiiaaaaDoorTie
import Derived.JoinedOf
import Derived.SevenTiedAt
import Derived.SizedLaws
import Derived.Carry
namespace Go.Proofs.YtcnligenhiiaaaaDoor
open Go.RowKit Go.ChangeShapes Go.WideShapes Go.ChangeMaps Sha2 Words

set_option maxRecDepth 100000 in
theorem mTags_lifted (os : Os) (started : os.Started) (H : Type) (enc : TypeId × Value → H) :
    ReturnsInHanded {} Tryd.checked os 7 .any (fun w args => (Rows.macTagsSpec.pre enc Tryd.prog Tryd.f7 [] false w args ∧ laidMetH Tryd.prog [("oblivion/sha.constants", Rows.laid_oblivion_sha_constants)] w) ∧ sizedMet enc Tryd.prog Tryd.f7 (OpenSpec.ofChange Rows.macTagsSpec) false w args)
      (Rows.macTagsSpec.post enc Tryd.prog Tryd.f7 false true false false) := by
  refine returnsInHanded_of_change_and (C := Tryd.checked) (X := fun w _ => laidMetH Tryd.prog [("oblivion/sha.constants", Rows.laid_oblivion_sha_constants)] w) (fun _ _ _ hh h => h.of_heap hh) own started (by kernel_rfl) Tryd.func7
    (ChangeSpec.witness_at (enc := enc) (C := Tryd.checked) (os := os) (X := fun w _ => laidMetH Tryd.prog [("oblivion/sha.constants", Rows.laid_oblivion_sha_constants)] w) false (laidWorld os) #[.string ⟨#[]⟩, .string ⟨#[]⟩, .string ⟨#[]⟩, .agg (row8 (List.replicate 16 0)), .int .u64 0] 8 rfl (by kernel_rfl) (by kernel_rfl) (by kernel_rfl) (by kernel_rfl) (by kernel_rfl) (laidWorld_met os _)) ?_
  intro W base args ds gs before hval hW _ hsz hL _
  have hA := hW
  obtain ⟨p, q, hA, -, -, -, -⟩ := hA
  have close := fun hs hc => law_closes (fn := Tryd.f7) (f := 7) (args := args) (fresh := true) (handsOn := false) laidOut (by kernel_rfl) (show Tryd.f7.resultTypes = #[4] by kernel_rfl) Tryd.underlying4 rfl hW hs hc
  rw [Tryd.params7] at hA hval
  obtain ⟨v0, vs0, d0, ds0, p0, q0, ha0, rfl, -, h0, hr0⟩ := trodAll_cons hA
  obtain ⟨v1, vs1, d1, ds1, p1, q1, ha1, rfl, -, h1, hr1⟩ := trodAll_cons hr0
  obtain ⟨v2, vs2, d2, ds2, p2, q2, ha2, rfl, -, h2, hr2⟩ := trodAll_cons hr1
  obtain ⟨v3, vs3, d3, ds3, p3, q3, ha3, rfl, -, h3, hr3⟩ := trodAll_cons hr2
  obtain ⟨v4, vs4, d4, ds4, p4, q4, ha4, rfl, -, h4, hr4⟩ := trodAll_cons hr3
  obtain ⟨hnil, rfl, -⟩ := trodAll_nil hr4
  have hargs : args = #[v0, v1, v2, v3, v4] := by
    apply Array.toList_inj.1
    rw [ha0, ha1, ha2, ha3, ha4, hnil]
  subst hargs
  obtain ⟨s0, rfl, rfl, -, hz0⟩ := open_string Tryd.underlying9 (hval 0 9 v0 rfl rfl) h0
  obtain ⟨l0, rfl⟩ : ∃ l, s0 = Bytes.str l := ⟨s0.data.toList, (Bytes.str_of s0).symm⟩
  obtain ⟨s1, rfl, rfl, -, hz1⟩ := open_string Tryd.underlying9 (hval 1 9 v1 rfl rfl) h1
  obtain ⟨l1, rfl⟩ : ∃ l, s1 = Bytes.str l := ⟨s1.data.toList, (Bytes.str_of s1).symm⟩
  obtain ⟨s2, rfl, rfl, -, hz2⟩ := open_string Tryd.underlying9 (hval 2 9 v2 rfl rfl) h2
  obtain ⟨l2, rfl⟩ : ∃ l, s2 = Bytes.str l := ⟨s2.data.toList, (Bytes.str_of s2).symm⟩
  obtain ⟨l3, hl3, rfl⟩ := open_row8 Tryd.underlying33 Tryd.underlying5 (by kernel_rfl) (by kernel_rfl) (hval 3 33 v3 rfl rfl) h3
  obtain ⟨n4, rfl, rfl, -, hw4⟩ := open_int Tryd.underlying34 (hval 4 34 v4 rfl rfl) h4
  simp [Lit.wf, IntKind.min, IntKind.max, IntKind.signed, IntKind.bits] at hw4
  refine close rfl ?_
  have hK := konst_of_laidH hL
  obtain ⟨m, rfl⟩ := Int.eq_ofNat_of_zero_le hw4.1
  exact mtags_holds l0 l1 l2 l3 hl3 m (by omega) W hK

theorem mTags_row : Rows.MacTagsSaid :=
  OpenClaim.holds_of_wide 7 Tryd.f7 rfl rfl rfl rfl rfl rfl rfl ⟨rfl, rfl, rfl, rfl, rfl⟩ rfl rfl rfl rfl rfl (by kernel_rfl) Tryd.func7 (by kernel_rfl)
    (of_decide_eq_true (by kernel_rfl)) (by unfold Func.isWrapper; rw [if_neg (of_decide_eq_false (by kernel_rfl))]; exact ⟨rfl, rfl⟩)
    (fun os started H enc _ => mTags_lifted os started H enc)

theorem mTags_card : Rows.MacTagsCardSaid :=
  Claim7.holds_tied_plain_at .later [] [.data] true Rows.macTagsCard.stood.harness false
    mTags_row (fun _ h => by cases h) (by kernel_rfl) (fun _ h => by cases h) macTags_row_tie rfl ⟨rfl, rfl⟩ (by kernel_rfl) rfl
    (fun f fn hf hfn => by
      obtain rfl : f = 7 := Option.some.inj ((show Tryd.prog.funcNamed "oblivion/oblivionlaw03.MacTags" = some 7 by kernel_rfl).symm.trans hf) |>.symm
      obtain rfl : fn = Tryd.f7 := (Option.some.inj (Tryd.func7.symm.trans hfn)).symm
      exact ⟨by kernel_rfl, fun j t ht => by
        rw [Tryd.params7] at ht
        rcases j with _ | j
        · have h3 : 9 = t := by simpa using ht
          subst h3
          exact (show Tryd.prog.wantsStandIn 9 = false by kernel_rfl)
        rcases j with _ | j
        · have h3 : 9 = t := by simpa using ht
          subst h3
          exact (show Tryd.prog.wantsStandIn 9 = false by kernel_rfl)
        rcases j with _ | j
        · have h3 : 9 = t := by simpa using ht
          subst h3
          exact (show Tryd.prog.wantsStandIn 9 = false by kernel_rfl)
        rcases j with _ | j
        · have h3 : 33 = t := by simpa using ht
          subst h3
          exact (show Tryd.prog.wantsStandIn 33 = false by kernel_rfl)
        rcases j with _ | j
        · have h3 : 34 = t := by simpa using ht
          subst h3
          exact (show Tryd.prog.wantsStandIn 34 = false by kernel_rfl)
        simp at ht⟩)
    (by kernel_rfl)
#print axioms mTags_card
end Go.Proofs.YtcnligenhiiaaaaDoor
