/- oblivionlaw02.ShaSums holds. -/
import Derived.Test.YtnhhbdghblihnaaDoorShown
import Derived.Test.YtnhhbdghblihnaaDoorRefSum
namespace Go.Proofs.YtnhhbdghblihnaaDoor
open Go.RowKit Sha2 Words Bytes

set_option maxRecDepth 100000 in
theorem sums_holds (s : List UInt8) (w : World) (hK : Konst w) :
    Calls Tryd.prog 3 #[.string (str s)] w fun e w' => e = .returned (.bool true) ∧ w.grew w' := by
  refine Ext.entered w ?_
  have HK := Kept.mk hK
  clear hK
  go_enter Tryd.func3, Tryd.ntmps3
  by_cases hlen : 600 < s.length
  · go_wp2_with fail
    refine (shown_any _ (HK.out.ext _ _)).mono ?_
    rintro e w' ⟨rfl, l1, d1, rfl⟩
    go_wp2_with fail
    go_ret
    exact ⟨rfl, by rw [Ext.ext]; exact World.grew_ext _ _ _⟩
  · go_wp2_with fail
    refine (shown_any _ (HK.out.ext _ _)).mono ?_
    rintro e w' ⟨rfl, l1, d1, rfl⟩
    rw [Ext.ext, List.nil_append]
    go_wp2_with fail
    refine (sum_ext HK.out l1.length 1 1 [s] (Ext.gap_get0 l1 _ []) rfl (Nat.le_refl _) (by omega) (by simp; omega)).mono ?_
    rintro e w' ⟨rfl, l2, d2, rfl⟩
    rw [Ext.ext, show [s].flatten = s by simp]
    go_wp2_with fail
    refine (rsum_any s _ (by omega)).mono ?_
    rintro e w' ⟨rfl, l3, d3, rfl⟩
    rw [Ext.ext]
    have hsl := sum_length s
    go_wp2_with fail
    refine (fill_any s.length (by omega) _).mono ?_
    rintro e w' ⟨rfl, l4, d4, rfl⟩
    rw [Ext.ext]
    go_wp2_with fail
    refine (rfill_any s.length (by omega) _).mono ?_
    rintro e w' ⟨rfl, l5, d5, rfl⟩
    rw [Ext.ext]
    go_wp2_with fail
    go_ret
    exact ⟨by simp, World.grew_ext _ _ _⟩
end Go.Proofs.YtnhhbdghblihnaaDoor
