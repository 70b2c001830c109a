/- oblivionlaw03.MacSame holds. -/
import Derived.Test.YtcnligenhiiaaaaDoorMacShown
import Derived.Test.YtcnligenhiiaaaaDoorMacSame
namespace Go.Proofs.YtcnligenhiiaaaaDoor
open Go.RowKit Sha2 Words Bytes

set_option maxRecDepth 100000 in
theorem msame_holds (a b : List UInt8) (ha : a.length ≤ 140737488351232) (w : World) (hK : Konst w) :
    Calls Tryd.prog 6 #[.string (str a), .string (str b)] w fun e w' => e = .returned (.bool true) ∧ w.grew w' := by
  refine Ext.entered w ?_
  have HK := Kept.mk hK
  clear hK
  have hadd : ∀ W, (Op.stringOp .add (str a) ⟨#[120]⟩).run Tryd.prog W = .ok (.string (str (a ++ [120]))) W := fun W => by
    have := run_string_add_sum (P := Tryd.prog) W (str a) (str [120]) (by rw [str_size, str_size]; simp; omega)
    rwa [str_append] at this
  have heq : ((str a).toList == (str b).toList) = decide (a = b) := by
    rw [str_toList, str_toList, Bool.eq_iff_iff, beq_iff_eq, decide_eq_true_iff]
  have hx : decide (a = a ++ [120]) = false := by
    rw [decide_eq_false_iff_not]
    intro h
    have := congrArg List.length h
    simp at this
  have h1 : ∀ W, Calls Tryd.prog 12 #[.string (str a), .string (str a)] W fun e w' => e = .returned (.bool true) ∧ W.grew w' := fun W =>
    (same_any a a (by omega) W).mono fun e w' h => ⟨by rw [h.1]; simp, h.2⟩
  have h2 : ∀ W, Calls Tryd.prog 12 #[.string (str a), .string (str (a ++ [120]))] W fun e w' => e = .returned (.bool false) ∧ W.grew w' := fun W =>
    (same_any a (a ++ [120]) (by omega) W).mono fun e w' h => ⟨by rw [h.1, hx], h.2⟩
  have HS := Kept.mk h1
  have HX := Kept.mk h2
  clear h1 h2
  clear hx
  go_enter Tryd.func6, Tryd.ntmps6
  go_wp2_with fail
  refine (same_any a b (by omega) _).mono ?_
  rintro e w' ⟨rfl, l1, d1, rfl⟩
  rw [Ext.ext, List.nil_append]
  go_wp2_with fail
  refine (HS.out _).mono ?_
  rintro e w' ⟨rfl, l2, d2, rfl⟩
  rw [Ext.ext]
  go_wp2_with fail
  refine (HX.out _).mono ?_
  rintro e w' ⟨rfl, l3, d3, rfl⟩
  rw [Ext.ext]
  go_wp2_with fail
  refine (mshown_any _ (HK.out.ext _ _)).mono ?_
  rintro e w' ⟨rfl, l4, d4, rfl⟩
  rw [Ext.ext]
  go_wp2_with fail
  go_ret
  exact ⟨rfl, World.grew_ext _ _ _⟩
end Go.Proofs.YtcnligenhiiaaaaDoor
