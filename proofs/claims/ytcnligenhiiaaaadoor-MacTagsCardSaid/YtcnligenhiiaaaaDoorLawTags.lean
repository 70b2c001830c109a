/- oblivionlaw03.MacTags holds. -/
import Derived.Test.YtcnligenhiiaaaaDoorMacShown
import Derived.Test.YtcnligenhiiaaaaDoorRefMac
import Derived.Test.YtcnligenhiiaaaaDoorRefDerive
import Derived.Test.YtcnligenhiiaaaaDoorDerive
import Derived.Test.YtcnligenhiiaaaaDoorHeld
namespace Go.Proofs.YtcnligenhiiaaaaDoor
open Go.RowKit Sha2 Words Bytes

theorem at_pos {L pre suf : List Obj} {X : Obj} {k : Nat} (hL : L = pre ++ X :: suf) (hk : k = pre.length) : L[k]? = some X := by
  subst hL; subst hk
  exact Ext.gap_get0 pre X suf

set_option maxRecDepth 100000 in
theorem mtags_holds (key s label k : List UInt8) (hk : k.length = 16) (n : Nat) (hn : n < 18446744073709551616) (w : World) (hK : Konst w) :
    Calls Tryd.prog 7 #[.string (str key), .string (str s), .string (str label), .agg (row8 k), .int .u64 (n : Int)] w fun e w' => e = .returned (.bool true) ∧ w.grew w' := by
  refine Ext.entered w ?_
  have HK := Kept.mk hK
  clear hK
  go_enter Tryd.func7, Tryd.ntmps7
  by_cases hkey : 300 < key.length
  · go_wp2_with fail
    refine (mshown_any _ (HK.out.ext _ _)).mono ?_
    rintro e w' ⟨rfl, l1, d1, rfl⟩
    go_wp2_with fail
    go_ret
    exact ⟨rfl, by rw [Ext.ext]; exact World.grew_ext _ _ _⟩
  by_cases hs : 600 < s.length
  · go_wp2_with fail
    refine (mshown_any _ (HK.out.ext _ _)).mono ?_
    rintro e w' ⟨rfl, l1, d1, rfl⟩
    go_wp2_with fail
    go_ret
    exact ⟨rfl, by rw [Ext.ext]; exact World.grew_ext _ _ _⟩
  by_cases hl : 300 < label.length
  · go_wp2_with fail
    refine (mshown_any _ (HK.out.ext _ _)).mono ?_
    rintro e w' ⟨rfl, l1, d1, rfl⟩
    go_wp2_with fail
    go_ret
    exact ⟨rfl, by rw [Ext.ext]; exact World.grew_ext _ _ _⟩
  · go_wp2_with fail
    refine (mshown_any _ (HK.out.ext _ _)).mono ?_
    rintro e w' ⟨rfl, l1, d1, rfl⟩
    rw [Ext.ext, List.cons_append, List.nil_append]
    go_wp2_with fail
    have hm := fun L d k hk => mac_ext (w := w) (L := L) (d := d) HK.out key k 1 1 [s] (T := 9) (fr := (0, 0)) hk rfl (Nat.le_refl _) (by omega) (by omega) (by simp; omega)
    have hrm := fun W => rmac_any key s (by omega) (by omega) W
    have hd := fun L e => derive_any k label hk (by omega) n hn _ (HK.out.ext L e)
    have hrd := fun W => rderive_any k label hk (by omega) n hn W
    have hml := mac_length key s
    have hdl := derive_length k label n
    rw [show [s].flatten = s by simp] at hm
    generalize mac key s = r at *
    generalize derive k label n = q at *
    have HM := Kept.mk hm
    have HR := Kept.mk hrm
    have HD := Kept.mk hd
    have HRD := Kept.mk hrd
    clear hm hrm hd hrd
    refine Held.begin_ (by kernel_rfl) ?_
    refine Held.take (v := ?xh1) 0 rfl (by kernel_rfl) (by kernel_rfl) (by kernel_rfl) (by simp) (by rfl) (fun x => ?_) ?_
    rotate_left
    · go_simp
      try rfl
    simp only [Act.put, List.setIfInBounds_toArray, List.set_cons_zero, List.set_cons_succ]
    refine Held.take (v := ?xh2) 1 rfl (by kernel_rfl) (by kernel_rfl) (by kernel_rfl) (by simp) (by rfl) (fun x => ?_) ?_
    rotate_left
    · go_simp
      try rfl
    simp only [Act.put, List.setIfInBounds_toArray, List.set_cons_zero, List.set_cons_succ]
    refine Held.take (v := ?xh3) 4 rfl (by kernel_rfl) (by kernel_rfl) (by kernel_rfl) (by simp) (by rfl) (fun x => ?_) ?_
    rotate_left
    · go_simp
      try rfl
    simp only [Act.put, List.setIfInBounds_toArray, List.set_cons_zero, List.set_cons_succ]
    refine Held.take (v := ?xh4) 5 rfl (by kernel_rfl) (by kernel_rfl) (by kernel_rfl) (by simp) (by rfl) (fun x => ?_) ?_
    rotate_left
    · go_simp
      try rfl
    simp only [Act.put, List.setIfInBounds_toArray, List.set_cons_zero, List.set_cons_succ]
    refine Held.one 2 (by kernel_rfl) rfl (by rfl) (fun K hK => ?_)
    go_simp
    refine hK.out _ _ _ (by simp) ?_
    clear hK K
    refine Held.one 3 (by kernel_rfl) rfl (by rfl) (fun K hK => ?_)
    go_wp2_with (go_at_call 10; refine (HM.out _ _ _ (at_pos (pre := Obj.cells (row8 k) 33 :: l1) (suf := []) (by simp) (by simp))).mono ?_; rintro e w' ⟨rfl, l5, d5, rfl⟩; rw [Ext.ext])
    refine hK.out _ _ _ (by simp) ?_
    clear hK K
    refine Held.one 6 (by kernel_rfl) rfl (by rfl) (fun K hK => ?_)
    go_wp2_with (go_at_call 13; refine (HR.out _).mono ?_; rintro e w' ⟨rfl, l6, d6, rfl⟩; rw [Ext.ext])
    refine hK.out _ _ _ (by simp) ?_
    clear hK K
    refine Held.one 7 (by kernel_rfl) rfl (by rfl) (fun K hK => ?_)
    go_simp
    refine hK.out _ _ _ (by simp) ?_
    clear hK K
    refine Held.one 8 (by kernel_rfl) rfl (by rfl) (fun K hK => ?_)
    go_simp
    refine hK.out _ _ _ (by simp) ?_
    clear hK K
    refine Held.take (v := ?xh5) 9 rfl (by kernel_rfl) (by kernel_rfl) (by kernel_rfl) (by simp) (by rfl) (fun x => ?_) ?_
    rotate_left
    · go_simp
      try rfl
    simp only [Act.put, List.setIfInBounds_toArray, List.set_cons_zero, List.set_cons_succ]
    refine Held.take (v := ?xh6) 10 rfl (by kernel_rfl) (by kernel_rfl) (by kernel_rfl) (by simp) (by rfl) (fun x => ?_) ?_
    rotate_left
    · go_simp
      try rfl
    simp only [Act.put, List.setIfInBounds_toArray, List.set_cons_zero, List.set_cons_succ]
    refine Held.take (v := ?xh7) 11 rfl (by kernel_rfl) (by kernel_rfl) (by kernel_rfl) (by simp) (by rfl) (fun x => ?_) ?_
    rotate_left
    · go_simp
      try rfl
    simp only [Act.put, List.setIfInBounds_toArray, List.set_cons_zero, List.set_cons_succ]
    refine Held.take (v := ?xh8) 13 rfl (by kernel_rfl) (by kernel_rfl) (by kernel_rfl) (by simp) (by rfl) (fun x => ?_) ?_
    rotate_left
    · go_simp
      try rfl
    simp only [Act.put, List.setIfInBounds_toArray, List.set_cons_zero, List.set_cons_succ]
    refine Held.take (v := ?xh9) 14 rfl (by kernel_rfl) (by kernel_rfl) (by kernel_rfl) (by simp) (by rfl) (fun x => ?_) ?_
    rotate_left
    · go_simp
      try rfl
    simp only [Act.put, List.setIfInBounds_toArray, List.set_cons_zero, List.set_cons_succ]
    refine Held.take (v := ?xh10) 15 rfl (by kernel_rfl) (by kernel_rfl) (by kernel_rfl) (by simp) (by rfl) (fun x => ?_) ?_
    rotate_left
    · go_simp
      try rfl
    simp only [Act.put, List.setIfInBounds_toArray, List.set_cons_zero, List.set_cons_succ]
    refine Held.one 12 (by kernel_rfl) rfl (by rfl) (fun K hK => ?_)
    go_wp2_with (go_at_call 14; refine (HD.out _ _).mono ?_; rintro e w' ⟨rfl, l7, d7, rfl⟩; rw [Ext.ext])
    refine hK.out _ _ _ (by simp) ?_
    clear hK K
    refine Held.one 16 (by kernel_rfl) rfl (by rfl) (fun K hK => ?_)
    go_wp2_with (go_at_call 15; refine (HRD.out _).mono ?_; rintro e w' ⟨rfl, l8, d8, rfl⟩; rw [Ext.ext])
    refine hK.out _ _ _ (by simp) ?_
    clear hK K
    refine Held.one 17 (by kernel_rfl) rfl (by rfl) (fun K hK => ?_)
    go_simp
    refine hK.out _ _ _ (by simp) ?_
    clear hK K
    refine Held.one 18 (by kernel_rfl) rfl (by rfl) (fun K hK => ?_)
    go_simp
    refine hK.out _ _ _ (by simp) ?_
    clear hK K
    refine Held.one 19 (by kernel_rfl) rfl (by rfl) (fun K hK => ?_)
    go_simp
    refine hK.out _ _ _ (by simp) ?_
    clear hK K
    refine Held.end_ (by kernel_rfl) ?_
    go_wp2_with fail
    go_ret
    exact ⟨rfl, World.grew_ext _ _ _⟩
end Go.Proofs.YtcnligenhiiaaaaDoor
