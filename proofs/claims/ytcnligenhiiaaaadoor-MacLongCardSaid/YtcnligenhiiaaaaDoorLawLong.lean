/- oblivionlaw03.MacLong holds. -/
import Derived.Test.YtcnligenhiiaaaaDoorMacShown
import Derived.Test.YtcnligenhiiaaaaDoorHeld
namespace Go.Proofs.YtcnligenhiiaaaaDoor
open Go.RowKit Sha2 Words Bytes

theorem at_len {L pre suf : List Obj} {X : Obj} {k : Nat} (hL : L = pre ++ X :: suf) (hk : k = pre.length) : L[k]? = some X := by
  subst hL; subst hk
  exact Ext.gap_get0 pre X suf
theorem mac_long (k s : List UInt8) (h : 64 < k.length) : mac (Sha2.sum k) s = mac k s := by
  have h1 : Sha2.keyOf k = Sha2.sum k := by unfold Sha2.keyOf; rw [if_pos h]
  have h2 : Sha2.keyOf (Sha2.sum k) = Sha2.sum k := by unfold Sha2.keyOf; rw [if_neg (by rw [sum_length]; omega)]
  rw [mac, mac, h1, h2]
theorem mac_zeros (k s : List UInt8) (m : Nat) (h : k.length + m ≤ 64) : mac (k ++ List.replicate m 0) s = mac k s := by
  have h1 : Sha2.keyOf k = k := by unfold Sha2.keyOf; rw [if_neg (by omega)]
  have h2 : Sha2.keyOf (k ++ List.replicate m 0) = k ++ List.replicate m 0 := by unfold Sha2.keyOf; rw [if_neg (by simp; omega)]
  have h3 : ∀ b, mixed (k ++ List.replicate m 0) b = mixed k b := fun b => by
    unfold mixed
    rw [List.append_assoc, List.replicate_append_replicate, List.length_append, List.length_replicate, show m + (64 - (k.length + m)) = 64 - k.length by omega]
  rw [mac, mac, h1, h2, h3, h3]

set_option maxRecDepth 100000 in
theorem mlong_holds (key s : List UInt8) (z : Nat) (hz : z < 256) (w : World) (hK : Konst w) :
    Calls Tryd.prog 4 #[.string (str key), .string (str s), .int .u8 (z : Int)] w fun e w' => e = .returned (.bool true) ∧ w.grew w' := by
  refine Ext.entered w ?_
  have HK := Kept.mk hK
  clear hK
  go_enter Tryd.func4, Tryd.ntmps4
  by_cases hkey : 300 < key.length
  · go_wp2_with fail
    refine (mshown_any _ (HK.out.ext _ _)).mono ?_
    rintro e w' ⟨rfl, l1, d1, rfl⟩
    go_wp2_with fail
    go_ret
    exact ⟨rfl, by rw [Ext.ext]; exact World.grew_ext _ _ _⟩
  by_cases hs : 300 < s.length
  · go_wp2_with fail
    refine (mshown_any _ (HK.out.ext _ _)).mono ?_
    rintro e w' ⟨rfl, l1, d1, rfl⟩
    go_wp2_with fail
    go_ret
    exact ⟨rfl, by rw [Ext.ext]; exact World.grew_ext _ _ _⟩
  · go_wp2_with fail
    refine (mshown_any _ (HK.out.ext _ _)).mono ?_
    rintro e w' ⟨rfl, l1, d1, rfl⟩
    rw [Ext.ext, List.nil_append]
    go_wp2_with fail
    refine (mac_ext HK.out key l1.length 1 1 [s] (by exact Ext.gap_get0 l1 _ []) rfl (Nat.le_refl _) (by omega) (by omega) (by simp; omega)).mono ?_
    rintro e w' ⟨rfl, l2, d2, rfl⟩
    rw [Ext.ext, show [s].flatten = s by simp]
    generalize (l1 ++ [Obj.cells #[Value.string (str s)] 9]) ++ l2 = gap
    have hml := mac_length key s
    by_cases hl : 64 < key.length
    · go_wp2_with fail
      refine (sum_ext HK.out (gap.length + 1) 1 1 [key] (by exact Ext.gap_get1 gap _ _ []) rfl (Nat.le_refl _) (by omega) (by simp; omega)).mono ?_
      rintro e w' ⟨rfl, l3, d3, rfl⟩
      rw [Ext.ext, show [key].flatten = key by simp]
      have hfin := mac_long key s hl
      obtain ⟨q, hq⟩ : ∃ q, q = Sha2.sum key := ⟨_, rfl⟩
      rw [← hq] at hfin ⊢
      have hql : q.length = 32 := by rw [hq]; exact sum_length key
      clear hq
      have HF := Kept.mk hfin
      clear hfin
      have hqt : q.take 32 = q := List.take_of_length_le (by omega)
      generalize mac key s = r at *
      simp only [List.append_assoc, List.cons_append, List.nil_append]
      generalize Obj.cells #[Value.string (str key)] 9 :: l3 = l4
      go_wp2_with fail
      have hm := fun L d k hk => mac_ext (w := w) (L := L) (d := d) HK.out q k 1 1 [s] (T := 9) (fr := (0, 0)) hk rfl (Nat.le_refl _) (by omega) (by omega) (by simp; omega)
      rw [show [s].flatten = s by simp, HF.out] at hm
      have HM := Kept.mk hm
      clear hm
      refine Held.lit 4 (by kernel_rfl) (by decide) (by kernel_rfl) (by kernel_rfl) ?_
      simp only [List.take_succ_cons, List.take_zero, List.drop_succ_cons, List.drop_zero]
      refine Held.reads_cons (v := ?v0) (by rfl) (fun x => ?_) ?_
      rotate_left
      · go_simp
        rfl
      simp only [Act.put, List.setIfInBounds_toArray, List.set_cons_zero, List.set_cons_succ]
      refine Held.reads_cons (v := ?v1) (by rfl) (fun x => ?_) ?_
      rotate_left
      · go_simp
        rfl
      simp only [Act.put, List.setIfInBounds_toArray, List.set_cons_zero, List.set_cons_succ]
      refine Held.reads_cons (v := ?v2) (by rfl) (fun x => ?_) ?_
      rotate_left
      · go_simp
        rfl
      simp only [Act.put, List.setIfInBounds_toArray, List.set_cons_zero, List.set_cons_succ]
      refine Held.reads_cons (v := ?v3) (by rfl) (fun x => ?_) ?_
      rotate_left
      · go_simp
        rfl
      simp only [Act.put, List.setIfInBounds_toArray, List.set_cons_zero, List.set_cons_succ]
      refine Held.seq_cons (by rfl) (fun K hK => ?_)
      go_simp
      refine hK.out _ _ _ (by simp) ?_
      clear hK K
      refine Held.seq_cons (by rfl) (fun K hK => ?_)
      go_wp2_with (go_at_call 10; refine (HM.out _ _ _ (at_len (pre := gap ++ Obj.cells (row8 r) 25 :: (l4 ++ [Obj.cells (row8 q) 25])) (suf := []) (by simp) (by simp <;> omega))).mono ?_; rintro e w' ⟨rfl, l5, d5, rfl⟩; rw [Ext.ext])
      refine hK.out _ _ _ (by simp) ?_
      clear hK K
      refine Held.seq_cons (by rfl) (fun K hK => ?_)
      go_simp
      refine hK.out _ _ _ (by simp) ?_
      clear hK K
      refine Held.seq_cons (by rfl) (fun K hK => ?_)
      go_simp
      refine hK.out _ _ _ (by simp) ?_
      refine Held.seq_nil ?_
      go_wp2_with fail
      go_ret
      exact ⟨rfl, World.grew_ext _ _ _⟩
    · go_wp2_with fail
      obtain ⟨m, hmd⟩ : ∃ m : Nat, m = min z (64 - key.length) := ⟨_, rfl⟩
      have hmin : min (z : Int) (64 - (key.length : Int)) = (m : Int) := by omega
      have hm6 : m ≤ 64 := by omega
      have hmz := mac_zeros key s m (by omega)
      generalize mac key s = r at *
      refine Held.begin_ (by kernel_rfl) ?_
      refine Held.take (v := ?x0) 0 rfl (by kernel_rfl) (by kernel_rfl) (by kernel_rfl) (by simp) (by rfl) (fun x => ?_) ?_
      rotate_left
      · go_simp
        try rfl
      simp only [Act.put, List.setIfInBounds_toArray, List.set_cons_zero, List.set_cons_succ]
      refine Held.take (v := ?x1) 1 rfl (by kernel_rfl) (by kernel_rfl) (by kernel_rfl) (by simp) (by rfl) (fun x => ?_) ?_
      rotate_left
      · go_simp
        try rfl
      simp only [Act.put, List.setIfInBounds_toArray, List.set_cons_zero, List.set_cons_succ]
      refine Held.take (v := ?x2) 2 rfl (by kernel_rfl) (by kernel_rfl) (by kernel_rfl) (by simp) (by rfl) (fun x => ?_) ?_
      rotate_left
      · go_simp
        try rfl
      simp only [Act.put, List.setIfInBounds_toArray, List.set_cons_zero, List.set_cons_succ]
      refine Held.take (v := ?x3) 3 rfl (by kernel_rfl) (by kernel_rfl) (by kernel_rfl) (by simp) (by rfl) (fun x => ?_) ?_
      rotate_left
      · go_simp
        try rfl
      simp only [Act.put, List.setIfInBounds_toArray, List.set_cons_zero, List.set_cons_succ]
      refine Held.take (v := ?x4) 4 rfl (by kernel_rfl) (by kernel_rfl) (by kernel_rfl) (by simp) (by rfl) (fun x => ?_) ?_
      rotate_left
      · go_simp
        try rfl
      simp only [Act.put, List.setIfInBounds_toArray, List.set_cons_zero, List.set_cons_succ]
      refine Held.take (v := ?x5) 5 rfl (by kernel_rfl) (by kernel_rfl) (by kernel_rfl) (by simp) (by rfl) (fun x => ?_) ?_
      rotate_left
      · go_simp
        try rfl
      simp only [Act.put, List.setIfInBounds_toArray, List.set_cons_zero, List.set_cons_succ]
      refine Held.take (v := ?x6) 6 rfl (by kernel_rfl) (by kernel_rfl) (by kernel_rfl) (by simp) (by rfl) (fun x => ?_) ?_
      rotate_left
      · go_simp
        try rfl
      simp only [Act.put, List.setIfInBounds_toArray, List.set_cons_zero, List.set_cons_succ]
      refine Held.take (v := ?x7) 7 rfl (by kernel_rfl) (by kernel_rfl) (by kernel_rfl) (by simp) (by rfl) (fun x => ?_) ?_
      rotate_left
      · go_simp
        try rfl
      simp only [Act.put, List.setIfInBounds_toArray, List.set_cons_zero, List.set_cons_succ]
      refine Held.take (v := ?x8) 11 rfl (by kernel_rfl) (by kernel_rfl) (by kernel_rfl) (by simp) (by rfl) (fun x => ?_) ?_
      rotate_left
      · go_simp
        try rfl
      simp only [Act.put, List.setIfInBounds_toArray, List.set_cons_zero, List.set_cons_succ]
      have hw1 : min (IntKind.i64.wrap z) (IntKind.i64.wrap (64 - (key.length : Int))) = (m : Int) := by
        rw [IntKind.wrap_i64, IntKind.wrap_i64]
        omega
      have hm := fun L d k hk => mac_ext (w := w) (L := L) (d := d) HK.out (key ++ List.replicate m 0) k 1 1 [s] (T := 9) (fr := (0, 0)) hk rfl (Nat.le_refl _) (by omega) (by simp; omega) (by simp; omega)
      rw [show [s].flatten = s by simp, hmz] at hm
      have HM := Kept.mk hm
      clear hm hmz
      have hmk := make_bytes m (by omega)
      have hadd : ∀ W, (Op.stringOp .add (str key) (str (List.replicate m 0))).run Tryd.prog W = .ok (.string (str (key ++ List.replicate m 0))) W := fun W => by
        have := run_string_add_sum (P := Tryd.prog) W (str key) (str (List.replicate m 0)) (by rw [str_size, str_size]; simp; omega)
        rw [this, str_append]
      have hzl : (List.replicate m (0 : UInt8)).length = m := by simp
      generalize List.replicate m (0 : UInt8) = zs at *
      have hzt : zs.take m = zs := List.take_of_length_le (by omega)
      rw [hw1]
      clear hw1 hmd hmin
      refine Held.two 8 12 (by kernel_rfl) rfl rfl (by rfl) (by rfl) (fun K hK => ?_) (fun K hK => ?_)
      · go_simp
        refine hK.out _ _ _ (by simp) ?_
        clear hK K
        refine Held.narrow (L' := gap ++ Obj.cells (row8 r) 25 :: [Obj.cells (row8 zs) 5]) (by simp) _ _ _ _ ?_
        refine Held.take (v := ?x21) 9 rfl (by kernel_rfl) (by kernel_rfl) (by kernel_rfl) (by simp) (by rfl) (fun x => ?_) ?_
        rotate_left
        · go_simp
          try rfl
        simp only [Act.put, List.setIfInBounds_toArray, List.set_cons_zero, List.set_cons_succ]
        refine Held.take (v := ?x22) 10 rfl (by kernel_rfl) (by kernel_rfl) (by kernel_rfl) (by simp) (by rfl) (fun x => ?_) ?_
        rotate_left
        · go_simp
          try rfl
        simp only [Act.put, List.setIfInBounds_toArray, List.set_cons_zero, List.set_cons_succ]
        refine Held.one 12 (by kernel_rfl) rfl (by rfl) (fun K hK => ?_)
        go_simp
        refine hK.out _ _ _ (by simp) ?_
        clear hK K
        refine Held.one 13 (by kernel_rfl) rfl (by rfl) (fun K hK => ?_)
        go_wp2_with (go_at_call 10; refine (HM.out _ _ _ (at_len (pre := gap ++ Obj.cells (row8 r) 25 :: [Obj.cells (row8 zs) 5]) (suf := []) (by simp) (by simp <;> omega))).mono ?_; rintro e w' ⟨rfl, l5, d5, rfl⟩; rw [Ext.ext])
        refine hK.out _ _ _ (by simp) ?_
        clear hK K
        refine Held.one 14 (by kernel_rfl) rfl (by rfl) (fun K hK => ?_)
        go_simp
        refine hK.out _ _ _ (by simp) ?_
        clear hK K
        refine Held.one 15 (by kernel_rfl) rfl (by rfl) (fun K hK => ?_)
        go_simp
        refine hK.out _ _ _ (by simp) ?_
        clear hK K
        refine Held.end_ (by kernel_rfl) ?_
        go_wp2_with fail
        go_ret
        exact ⟨rfl, World.grew_ext _ _ _⟩
      · go_simp
        refine hK.out _ _ _ (by simp) ?_
        clear hK K
        refine Held.one 8 (by kernel_rfl) rfl (by rfl) (fun K hK => ?_)
        go_simp
        refine hK.out _ _ _ (by simp) ?_
        clear hK K
        refine Held.one 9 (by kernel_rfl) rfl (by rfl) (fun K hK => ?_)
        go_simp
        refine hK.out _ _ _ (by simp) ?_
        clear hK K
        refine Held.one 10 (by kernel_rfl) rfl (by rfl) (fun K hK => ?_)
        go_simp
        refine hK.out _ _ _ (by simp) ?_
        clear hK K
        refine Held.one 13 (by kernel_rfl) rfl (by rfl) (fun K hK => ?_)
        go_wp2_with (go_at_call 10; refine (HM.out _ _ _ (at_len (pre := gap ++ [Obj.cells (row8 r) 25]) (suf := [Obj.cells (row8 zs) 5]) (by simp) (by simp <;> omega))).mono ?_; rintro e w' ⟨rfl, l5, d5, rfl⟩; rw [Ext.ext])
        refine hK.out _ _ _ (by simp) ?_
        clear hK K
        refine Held.one 14 (by kernel_rfl) rfl (by rfl) (fun K hK => ?_)
        go_simp
        refine hK.out _ _ _ (by simp) ?_
        clear hK K
        refine Held.one 15 (by kernel_rfl) rfl (by rfl) (fun K hK => ?_)
        go_simp
        refine hK.out _ _ _ (by simp) ?_
        clear hK K
        refine Held.end_ (by kernel_rfl) ?_
        go_wp2_with fail
        go_ret
        exact ⟨rfl, World.grew_ext _ _ _⟩
end Go.Proofs.YtcnligenhiiaaaaDoor
