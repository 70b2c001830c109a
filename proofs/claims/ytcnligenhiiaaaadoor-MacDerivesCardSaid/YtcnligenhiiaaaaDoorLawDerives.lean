/- oblivionlaw03.MacDerives holds. -/
import Derived.Test.YtcnligenhiiaaaaDoorMacShown
import Derived.Test.YtcnligenhiiaaaaDoorDerive
import Derived.Test.YtcnligenhiiaaaaDoorHeld
namespace Go.Proofs.YtcnligenhiiaaaaDoor
open Go.RowKit Sha2 Words Bytes

theorem at_long {L pre suf : List Obj} {X : Obj} {k : Nat} (hL : L = pre ++ X :: suf) (hk : k = pre.length) : L[k]? = some X := by
  subst hL; subst hk
  exact Ext.gap_get0 pre X suf
theorem conv_u32 (n : Nat) (W : World) : (convert 38 5 (.int .u32 (n : Int))).run Tryd.prog W = .ok (b8 (UInt8.ofNat n)) W := by
  simp [b8, convert, run_underlying Tryd.underlying38, run_underlying Tryd.underlying5, Conv.intToInt, IntKind.wrap, IntKind.bits, IntKind.signed]

set_option maxRecDepth 100000 in
theorem mderives_holds (k label : List UInt8) (hk : k.length = 16) (n : Nat) (hn : n < 4294967296) (w : World) (hK : Konst w) :
    Calls Tryd.prog 8 #[.agg (row8 k), .string (str label), .int .u32 (n : Int)] w fun e w' => e = .returned (.bool true) ∧ w.grew w' := by
  refine Ext.entered w ?_
  have HK := Kept.mk hK
  clear hK
  go_enter Tryd.func8, Tryd.ntmps8
  by_cases hl : 255 < label.length
  · go_wp2_with fail
    refine (mshown_any _ (HK.out.ext _ _)).mono ?_
    rintro e w' ⟨rfl, l1, d1, rfl⟩
    go_wp2_with fail
    go_ret
    exact ⟨rfl, by rw [Ext.ext]; exact World.grew_ext _ _ _⟩
  · go_wp2_with fail
    refine (mshown_any _ (HK.out.ext _ _)).mono ?_
    rintro e w' ⟨rfl, l1, d1, rfl⟩
    rw [Ext.ext, List.cons_append, List.nil_append]
    have hcl := fun W => conv_len (P := Tryd.prog) 3 5 label.length W Tryd.underlying3 Tryd.underlying5
    obtain ⟨c, hc⟩ : ∃ c, c = UInt8.ofNat label.length := ⟨_, rfl⟩
    have hcv := fun W => conv_u32 n W
    have hb : Value.int .u8 (label.length : Int) = b8 c := by
      rw [hc, b8]
      congr 1
      simp
      omega
    rw [← hc] at hcl
    have HD := Kept.mk (show List.take 16 (mac k ((c :: label) ++ le n 8)) = derive k label n by rw [hc, derive]; rfl)
    clear hc
    have hle : le n 8 = [UInt8.ofNat n, UInt8.ofNat (n / 256), UInt8.ofNat (n / 65536), UInt8.ofNat (n / 16777216), 0, 0, 0, 0] := by
      have h4 : n / 4294967296 = 0 := Nat.div_eq_of_lt hn
      have h5 : n / 1099511627776 = 0 := Nat.div_eq_of_lt (by omega)
      have h6 : n / 281474976710656 = 0 := Nat.div_eq_of_lt (by omega)
      have h7 : n / 72057594037927936 = 0 := Nat.div_eq_of_lt (by omega)
      simp [le, List.range_succ, h4, h5, h6, h7]
    have hcells : (#[b8 (UInt8.ofNat n), Value.int .u8 ((n : Int) / 256 % 256), Value.int .u8 ((n : Int) / 65536 % 256), Value.int .u8 ((n : Int) / 16777216), Value.int .u8 0, Value.int .u8 0, Value.int .u8 0, Value.int .u8 0] : Array Value) = row8 (le n 8) := by
      have e1 : Value.int .u8 ((n : Int) / 256 % 256) = b8 (UInt8.ofNat (n / 256)) := by
        rw [b8]; congr 1 <;> simp <;> omega
      have e2 : Value.int .u8 ((n : Int) / 65536 % 256) = b8 (UInt8.ofNat (n / 65536)) := by
        rw [b8]; congr 1 <;> simp <;> omega
      have e3 : Value.int .u8 ((n : Int) / 16777216) = b8 (UInt8.ofNat (n / 16777216)) := by
        rw [b8]; congr 1 <;> simp <;> omega
      rw [hle, e1, e2, e3]
      rfl
    have HCE := Kept.mk hcells
    have hln : (le n 8).length = 8 := le_length n 8
    clear hle hcells
    go_wp2_with fail
    rw [HCE.out]
    generalize le n 8 = q at *
    have hqt : q.take 8 = q := List.take_of_length_le (by omega)
    rw [str_append]
    go_simp
    go_wp2_with fail
    rw [str_append]
    have hkt : k.take 16 = k := List.take_of_length_le (by omega)
    have hm := fun L d j hj => mac_ext (w := w) (L := L) (d := d) HK.out k j 1 1 [(c :: label) ++ q] (T := 9) (fr := (0, 0)) hj rfl (Nat.le_refl _) (by omega) (by omega) (by simp; omega)
    have hrl := mac_length k ((c :: label) ++ q)
    rw [show [(c :: label) ++ q].flatten = (c :: label) ++ q by simp] at hm
    generalize mac k ((c :: label) ++ q) = r at *
    generalize (c :: label) ++ q = u at *
    have hd := fun L e => derive_any k label hk (by omega) n (by omega) _ (HK.out.ext L e)
    have hel := derive_length k label n
    generalize derive k label n = e0 at *
    have HM := Kept.mk hm
    have HDD := Kept.mk hd
    clear hm hd
    refine Held.begin_ (by kernel_rfl) ?_
    refine Held.take (v := ?xh1) 0 rfl (by kernel_rfl) (by kernel_rfl) (by kernel_rfl) (by simp) (by rfl) (fun x => ?_) ?_
    rotate_left
    · go_simp
      try rfl
    simp only [Act.put, List.setIfInBounds_toArray, List.set_cons_zero, List.set_cons_succ]
    refine Held.take (v := ?xh2) 1 rfl (by kernel_rfl) (by kernel_rfl) (by kernel_rfl) (by simp) (by rfl) (fun x => ?_) ?_
    rotate_left
    · go_simp
      try rfl
    simp only [Act.put, List.setIfInBounds_toArray, List.set_cons_zero, List.set_cons_succ]
    refine Held.take (v := ?xh3) 2 rfl (by kernel_rfl) (by kernel_rfl) (by kernel_rfl) (by simp) (by rfl) (fun x => ?_) ?_
    rotate_left
    · go_simp
      try rfl
    simp only [Act.put, List.setIfInBounds_toArray, List.set_cons_zero, List.set_cons_succ]
    refine Held.take (v := ?xh4) 3 rfl (by kernel_rfl) (by kernel_rfl) (by kernel_rfl) (by simp) (by rfl) (fun x => ?_) ?_
    rotate_left
    · go_simp
      try rfl
    simp only [Act.put, List.setIfInBounds_toArray, List.set_cons_zero, List.set_cons_succ]
    refine Held.take (v := ?xh5) 5 rfl (by kernel_rfl) (by kernel_rfl) (by kernel_rfl) (by simp) (by rfl) (fun x => ?_) ?_
    rotate_left
    · go_simp
      try rfl
    simp only [Act.put, List.setIfInBounds_toArray, List.set_cons_zero, List.set_cons_succ]
    refine Held.take (v := ?xh6) 6 rfl (by kernel_rfl) (by kernel_rfl) (by kernel_rfl) (by simp) (by rfl) (fun x => ?_) ?_
    rotate_left
    · go_simp
      try rfl
    simp only [Act.put, List.setIfInBounds_toArray, List.set_cons_zero, List.set_cons_succ]
    refine Held.take (v := ?xh7) 7 rfl (by kernel_rfl) (by kernel_rfl) (by kernel_rfl) (by simp) (by rfl) (fun x => ?_) ?_
    rotate_left
    · go_simp
      try rfl
    simp only [Act.put, List.setIfInBounds_toArray, List.set_cons_zero, List.set_cons_succ]
    refine Held.two 4 8 (by kernel_rfl) rfl rfl (by rfl) (by rfl) (fun K hK => ?_) (fun K hK => ?_)
    · go_wp2_with (go_at_call 14; refine (HDD.out _ _).mono ?_; rintro e w' ⟨rfl, l5, d5, rfl⟩; rw [Ext.ext])
      refine hK.out _ _ _ (by simp) ?_
      clear hK K
      refine Held.one 8 (by kernel_rfl) rfl (by rfl) (fun K hK => ?_)
      go_simp
      refine hK.out _ _ _ (by simp) ?_
      clear hK K
      refine Held.one 9 (by kernel_rfl) rfl (by rfl) (fun K hK => ?_)
      go_wp2_with (go_at_call 10; refine (HM.out _ _ _ (at_long (pre := Obj.cells (row8 k) 33 :: (l1 ++ Obj.cells #[b8 c] 5 :: Obj.cells (row8 q) 5 :: l5)) (suf := []) (by simp) (by simp <;> omega))).mono ?_; rintro e w' ⟨rfl, l6, d6, rfl⟩; rw [Ext.ext])
      refine hK.out _ _ _ (by simp) ?_
      clear hK K
      refine Held.one 10 (by kernel_rfl) rfl (by rfl) (fun K hK => ?_)
      go_wp2_with (go_at_call 16; refine (short_any r hrl _).mono ?_; rintro e w' ⟨rfl, l7, d7, rfl⟩; rw [Ext.ext, HD.out])
      refine hK.out _ _ _ (by simp) ?_
      clear hK K
      refine Held.one 11 (by kernel_rfl) rfl (by rfl) (fun K hK => ?_)
      go_simp
      refine hK.out _ _ _ (by simp) ?_
      clear hK K
      refine Held.one 12 (by kernel_rfl) rfl (by rfl) (fun K hK => ?_)
      go_simp
      refine hK.out _ _ _ (by simp) ?_
      clear hK K
      refine Held.end_ (by kernel_rfl) ?_
      go_wp2_with fail
      go_ret
      exact ⟨rfl, World.grew_ext _ _ _⟩
    · go_simp
      refine hK.out _ _ _ (by simp) ?_
      clear hK K
      refine Held.one 4 (by kernel_rfl) rfl (by rfl) (fun K hK => ?_)
      go_wp2_with (go_at_call 14; refine (HDD.out _ _).mono ?_; rintro e w' ⟨rfl, l5, d5, rfl⟩; rw [Ext.ext])
      refine hK.out _ _ _ (by simp) ?_
      clear hK K
      refine Held.one 9 (by kernel_rfl) rfl (by rfl) (fun K hK => ?_)
      go_wp2_with (go_at_call 10; refine (HM.out _ _ _ (at_long (pre := Obj.cells (row8 k) 33 :: (l1 ++ [Obj.cells #[b8 c] 5, Obj.cells (row8 q) 5])) (suf := l5) (by simp) (by simp <;> omega))).mono ?_; rintro e w' ⟨rfl, l6, d6, rfl⟩; rw [Ext.ext])
      refine hK.out _ _ _ (by simp) ?_
      clear hK K
      refine Held.one 10 (by kernel_rfl) rfl (by rfl) (fun K hK => ?_)
      go_wp2_with (go_at_call 16; refine (short_any r hrl _).mono ?_; rintro e w' ⟨rfl, l7, d7, rfl⟩; rw [Ext.ext, HD.out])
      refine hK.out _ _ _ (by simp) ?_
      clear hK K
      refine Held.one 11 (by kernel_rfl) rfl (by rfl) (fun K hK => ?_)
      go_simp
      refine hK.out _ _ _ (by simp) ?_
      clear hK K
      refine Held.one 12 (by kernel_rfl) rfl (by rfl) (fun K hK => ?_)
      go_simp
      refine hK.out _ _ _ (by simp) ?_
      clear hK K
      refine Held.end_ (by kernel_rfl) ?_
      go_wp2_with fail
      go_ret
      exact ⟨rfl, World.grew_ext _ _ _⟩
end Go.Proofs.YtcnligenhiiaaaaDoor
