/- oblivionlaw03.MacMixes holds. -/
import Derived.Test.YtcnligenhiiaaaaDoorMacShown
import Derived.Test.YtcnligenhiiaaaaDoorRefMac
import Derived.Test.YtcnligenhiiaaaaDoorOwn2
import Derived.Test.YtcnligenhiiaaaaDoorHeld
namespace Go.Proofs.YtcnligenhiiaaaaDoor
open Go.RowKit Sha2 Words Bytes

theorem at_two {L pre suf : List Obj} {X : Obj} {k : Nat} (hL : L = pre ++ X :: suf) (hk : k = pre.length) : L[k]? = some X := by
  subst hL; subst hk
  exact Ext.gap_get0 pre X suf

set_option maxHeartbeats 1000000 in
set_option maxRecDepth 100000 in
theorem mmixes_holds (key s : List UInt8) (w : World) (hK : Konst w) :
    Calls Tryd.prog 5 #[.string (str key), .string (str s)] w fun e w' => e = .returned (.bool true) ∧ w.grew w' := by
  refine Ext.entered w ?_
  have HK := Kept.mk hK
  clear hK
  obtain ⟨i8, hi8, hz0, hz1, hz2⟩ := info_parts info_u8
  have HI := Kept.mk (And.intro hi8 (And.intro hz0 (And.intro hz1 hz2)))
  clear hi8 hz0 hz1 hz2
  go_enter Tryd.func5, Tryd.ntmps5
  by_cases hkey : 64 < key.length
  · go_wp2_with fail
    refine (mshown_any _ (HK.out.ext _ _)).mono ?_
    rintro e w' ⟨rfl, l1, d1, rfl⟩
    go_wp2_with fail
    go_ret
    exact ⟨rfl, by rw [Ext.ext]; exact World.grew_ext _ _ _⟩
  by_cases hs : 300 < s.length
  · go_wp2_with fail
    refine (mshown_any _ (HK.out.ext _ _)).mono ?_
    rintro e w' ⟨rfl, l1, d1, rfl⟩
    go_wp2_with fail
    go_ret
    exact ⟨rfl, by rw [Ext.ext]; exact World.grew_ext _ _ _⟩
  · go_wp2_with fail
    refine (mshown_any _ (HK.out.ext _ _)).mono ?_
    rintro e w' ⟨rfl, l1, d1, rfl⟩
    rw [Ext.ext, List.nil_append]
    go_wp2_with fail
    have hb1 : decide (64 < (key.length : Int)) = false := by rw [decide_eq_false_iff_not]; omega
    have hb2 : decide (300 < (s.length : Int)) = false := by rw [decide_eq_false_iff_not]; omega
    rw [hb1, hb2, Bool.or_false]
    clear hb1 hb2
    go_loopw [5, 6, 7] (fun va vb i wr => ∃ (j : Nat) (l : List Obj) (d : Nat), j ≤ 64 ∧ Sl w 0 l 5 1 va j (((mixed key 54).take j).map b8) ∧ Sl w 0 l 5 1 vb j (((mixed key 92).take j).map b8) ∧ Sl.Apart va vb ∧ i = .int .i64 j ∧ wr = w.ext l d) (fun _ _ i _ => 64 - (intOf i).toNat)
    case atStart => exact ⟨0, _, _, by omega, Sl.full (n := 0) l1.length #[] 5 (0, 0) rfl (by decide) (by exact Ext.gap_get0 l1 _ _), Sl.full (n := 0) (l1.length + 1) #[] 5 (0, 0) rfl (by decide) (by exact Ext.gap_get1 l1 _ _ _), fun b h1 h2 => by simp only [Value.ownBlock, Option.some.injEq] at h1 h2; omega, rfl, rfl⟩
    case round =>
      obtain ⟨j, l, d, hj, ha, hb, hap, rfl, rfl⟩ := hrel
      obtain ⟨a1, c1, rfl⟩ := ha.slice
      obtain ⟨a2, c2, rfl⟩ := hb.slice
      have HA := Kept.mk ha
      have HB := Kept.mk hb
      have HP := Kept.mk hap
      clear ha hb hap
      by_cases hlt : j < 64
      · have HTA := Kept.mk (mixed_take key 54 j hlt)
        have HTB := Kept.mk (mixed_take key 92 j hlt)
        by_cases hjk : j < key.length
        · have hx : Ext.byteAt (str key) j = key.getD j 0 := by unfold Ext.byteAt; rw [str_data]
          generalize key.getD j 0 = x at *
          have hx54 := xor_b8 5 x 54
          have hx92 := xor_b8 5 x 92
          rw [show b8 54 = Value.int .u8 54 from rfl] at hx54
          rw [show b8 92 = Value.int .u8 92 from rfl] at hx92
          go_wp2_with (first | (at_builtin; refine Sl.push2 (l0 := []) (l := l ++ [Obj.cells #[b8 (x ^^^ 54)] 5]) (d := d) rfl _ _ 29 rfl rfl 5 i8 (.int .u8 0) 1 1 Tryd.underlying29 HI.out.1 HI.out.2.1 HI.out.2.2.1 HI.out.2.2.2 rfl Nat.one_pos _ j _ rfl (HA.out.more _) (HB.out.more _) HP.out _ 1 1 [b8 (x ^^^ 54)] rfl rfl ?h1 ?h2 ?h3 ?h4 ?h5 ?h6) | fail)
          case h2 => simp [b8_one]
          case h3 => decide
          case h4 => unfold maxLen; omega
          case h5 => omega
          case h1 => exact Sl.newest (cur := #[b8 (x ^^^ 54)]) rfl
          intro v1 l2 d2 hA hB hP
          have HA := Kept.mk hA
          have HB := Kept.mk hB
          have HP := Kept.mk hP.symm
          clear hA hB hP
          go_wp2_with (first | (at_builtin; refine Sl.push2 (l0 := []) (l := l2 ++ [Obj.cells #[b8 (x ^^^ 92)] 5]) (d := d2) rfl _ _ 29 rfl rfl 5 i8 (.int .u8 0) 1 1 Tryd.underlying29 HI.out.1 HI.out.2.1 HI.out.2.2.1 HI.out.2.2.2 rfl Nat.one_pos _ j _ rfl (HB.out.more _) (HA.out.more _) HP.out _ 1 1 [b8 (x ^^^ 92)] rfl rfl ?hq1 ?hq2 ?hq3 ?hq4 ?hq5 ?hq6) | fail)
          case hq2 => simp [b8_one]
          case hq3 => decide
          case hq4 => unfold maxLen; omega
          case hq5 => omega
          case hq1 => exact Sl.newest (cur := #[b8 (x ^^^ 92)]) rfl
          intro v2 l3 d3 hB hA hP
          go_wp2_with fail
          go_roundw
          case rel =>
            refine ⟨j + 1, l3, d3, by omega, ?_, ?_, hP.symm, by go_num, rfl⟩
            · rw [HTA.out, List.map_append]
              simpa using hA
            · rw [HTB.out, List.map_append]
              simpa using hB
          case measure => simp [intOf]; omega
        · have hx : key.getD j 0 = 0 := by rw [List.getD_eq_getElem?_getD, List.getElem?_eq_none (by omega)]; rfl
          rw [hx, UInt8.zero_xor] at HTA HTB
          have hx54 : Go.bits .xor .u8 0 54 = 54 := by decide
          have hx92 : Go.bits .xor .u8 0 92 = 92 := by decide
          go_wp2_with (first | (at_builtin; refine Sl.push2 (l0 := []) (l := l ++ [Obj.cells #[Value.int .u8 54] 5]) (d := d) rfl _ _ 29 rfl rfl 5 i8 (.int .u8 0) 1 1 Tryd.underlying29 HI.out.1 HI.out.2.1 HI.out.2.2.1 HI.out.2.2.2 rfl Nat.one_pos _ j _ rfl (HA.out.more _) (HB.out.more _) HP.out _ 1 1 [Value.int .u8 54] rfl rfl ?k1 ?k2 ?k3 ?k4 ?k5 ?k6) | fail)
          case k2 => simp [Value.oneCell']
          case k3 => decide
          case k4 => unfold maxLen; omega
          case k5 => omega
          case k1 => exact Sl.newest (cur := #[Value.int .u8 54]) rfl
          intro v1 l2 d2 hA hB hP
          have HA := Kept.mk hA
          have HB := Kept.mk hB
          have HP := Kept.mk hP.symm
          clear hA hB hP
          go_wp2_with (first | (at_builtin; refine Sl.push2 (l0 := []) (l := l2 ++ [Obj.cells #[Value.int .u8 92] 5]) (d := d2) rfl _ _ 29 rfl rfl 5 i8 (.int .u8 0) 1 1 Tryd.underlying29 HI.out.1 HI.out.2.1 HI.out.2.2.1 HI.out.2.2.2 rfl Nat.one_pos _ j _ rfl (HB.out.more _) (HA.out.more _) HP.out _ 1 1 [Value.int .u8 92] rfl rfl ?kq1 ?kq2 ?kq3 ?kq4 ?kq5 ?kq6) | fail)
          case kq2 => simp [Value.oneCell']
          case kq3 => decide
          case kq4 => unfold maxLen; omega
          case kq5 => omega
          case kq1 => exact Sl.newest (cur := #[Value.int .u8 92]) rfl
          intro v2 l3 d3 hB hA hP
          go_wp2_with fail
          go_roundw
          case rel =>
            refine ⟨j + 1, l3, d3, by omega, ?_, ?_, hP.symm, by go_num, rfl⟩
            · rw [HTA.out, List.map_append, show List.map b8 [(54 : UInt8)] = [Value.int .u8 54] from rfl, List.map_take]
              exact hA
            · rw [HTB.out, List.map_append, show List.map b8 [(92 : UInt8)] = [Value.int .u8 92] from rfl, List.map_take]
              exact hB
          case measure => simp [intOf]; omega
      · obtain rfl : j = 64 := by omega
        have hf1 : (mixed key 54).take 64 = mixed key 54 := List.take_of_length_le (by rw [mixed_length key 54 (by omega)]; omega)
        have hf2 : (mixed key 92).take 64 = mixed key 92 := List.take_of_length_le (by rw [mixed_length key 92 (by omega)]; omega)
        rw [hf1] at HA
        rw [hf2] at HB
        clear hf1 hf2
        have hmk : mac key s = Sha2.sum (mixed key 92 ++ Sha2.sum (mixed key 54 ++ s)) := by
          have : Sha2.keyOf key = key := by unfold Sha2.keyOf; rw [if_neg (by omega)]
          rw [mac, this]
        have hla := mixed_length key 54 (by omega)
        have hlb := mixed_length key 92 (by omega)
        have HMK := Kept.mk hmk
        clear hmk
        generalize mixed key 54 = pa at *
        generalize mixed key 92 = pb at *
        have hstr := fun P (src dst : Nat) hs hd he => Sl.to_string (P := P) (d := d) src dst pa hs hd he HA.out
        go_wp2_with fail
        refine (sum_ext HK.out l.length 2 2 [pa, s] (by exact Ext.gap_get0 l _ []) rfl (Nat.le_refl _) (by omega) (by simp; omega)).mono ?_
        rintro e w' ⟨rfl, l4, d4, rfl⟩
        rw [Ext.ext, show [pa, s].flatten = pa ++ s by simp]
        clear hstr
        have hsl := sum_length (pa ++ s)
        generalize Sha2.sum (pa ++ s) = q at *
        go_wp2_with fail
        have hm := fun L d j hj => mac_ext (w := w) (L := L) (d := d) HK.out key j 1 1 [s] (T := 9) (fr := (0, 0)) hj rfl (Nat.le_refl _) (by omega) (by omega) (by simp; omega)
        have hs := fun L d j hj => sum_ext (w := w) (L := L) (d := d) HK.out j 2 2 [pb, q] (T := 9) (fr := (0, 0)) hj rfl (Nat.le_refl _) (by omega) (by simp; omega)
        have hrl := mac_length key s
        rw [show [s].flatten = s by simp, HMK.out] at hm
        rw [show [pb, q].flatten = pb ++ q by simp] at hs
        rw [HMK.out] at hrl
        generalize Sha2.sum (pb ++ q) = r at *
        have HM := Kept.mk hm
        have HS := Kept.mk hs
        have hqt : q.take 32 = q := List.take_of_length_le (by omega)
        clear hm hs HMK
        have hstr := fun m e => Sl.to_string (P := Tryd.prog) (L := l ++ m) (d := e) 29 9 pb Tryd.underlying29 Tryd.underlying9 Tryd.underlying5 (HB.out.more m)
        clear HA HB HP
        refine Held.begin_ (by kernel_rfl) ?_
        refine Held.take (v := ?xh1) 0 rfl (by kernel_rfl) (by kernel_rfl) (by kernel_rfl) (by simp) (by rfl) (fun x => ?_) ?_
        rotate_left
        · go_simp
          try rfl
        simp only [Act.put, List.setIfInBounds_toArray, List.set_cons_zero, List.set_cons_succ]
        refine Held.take (v := ?xh2) 1 rfl (by kernel_rfl) (by kernel_rfl) (by kernel_rfl) (by simp) (by rfl) (fun x => ?_) ?_
        rotate_left
        · go_simp
          try rfl
        simp only [Act.put, List.setIfInBounds_toArray, List.set_cons_zero, List.set_cons_succ]
        refine Held.take (v := ?xh3) 4 rfl (by kernel_rfl) (by kernel_rfl) (by kernel_rfl) (by simp) (by rfl) (fun x => ?_) ?_
        rotate_left
        · go_simp
          try rfl
        simp only [Act.put, List.setIfInBounds_toArray, List.set_cons_zero, List.set_cons_succ]
        refine Held.take (v := ?xh4) 5 rfl (by kernel_rfl) (by kernel_rfl) (by kernel_rfl) (by simp) (by rfl) (fun x => ?_) ?_
        rotate_left
        · go_simp
          try rfl
        simp only [Act.put, List.setIfInBounds_toArray, List.set_cons_zero, List.set_cons_succ]
        refine Held.take (v := ?xh5) 6 rfl (by kernel_rfl) (by kernel_rfl) (by kernel_rfl) (by simp) (by rfl) (fun x => ?_) ?_
        rotate_left
        · go_simp
          try rfl
        simp only [Act.put, List.setIfInBounds_toArray, List.set_cons_zero, List.set_cons_succ]
        refine Held.take (v := ?xh6) 7 rfl (by kernel_rfl) (by kernel_rfl) (by kernel_rfl) (by simp) (by rfl) (fun x => ?_) ?_
        rotate_left
        · go_simp
          try rfl
        simp only [Act.put, List.setIfInBounds_toArray, List.set_cons_zero, List.set_cons_succ]
        clear hstr
        refine Held.two 2 8 (by kernel_rfl) rfl rfl (by rfl) (by rfl) (fun K hK => ?_) (fun K hK => ?_)
        · go_simp
          refine hK.out _ _ _ (by simp) ?_
          clear hK K
          refine Held.two 3 8 (by kernel_rfl) rfl rfl (by rfl) (by rfl) (fun K hK => ?_) (fun K hK => ?_)
          · go_wp2_with (go_at_call 10; refine (HM.out _ _ _ (at_two (pre := l ++ Obj.cells #[Value.string (str pa), Value.string (str s)] 9 :: (l4 ++ [Obj.cells (row8 q) 25])) (suf := []) (by simp) (by simp <;> omega))).mono ?_; rintro e w' ⟨rfl, l5, d5, rfl⟩; rw [Ext.ext])
            refine hK.out _ _ _ (by simp) ?_
            clear hK K
            refine Held.one 8 (by kernel_rfl) rfl (by rfl) (fun K hK => ?_)
            go_simp
            refine hK.out _ _ _ (by simp) ?_
            clear hK K
            refine Held.one 9 (by kernel_rfl) rfl (by rfl) (fun K hK => ?_)
            go_wp2_with (go_at_call 11; refine (HS.out _ _ _ (at_two (pre := l ++ Obj.cells #[Value.string (str pa), Value.string (str s)] 9 :: (l4 ++ Obj.cells (row8 q) 25 :: Obj.cells #[Value.string (str s)] 9 :: l5)) (suf := []) (by simp) (by simp <;> omega))).mono ?_; rintro e w' ⟨rfl, l6, d6, rfl⟩; rw [Ext.ext])
            refine hK.out _ _ _ (by simp) ?_
            clear hK K
            refine Held.one 10 (by kernel_rfl) rfl (by rfl) (fun K hK => ?_)
            go_simp
            refine hK.out _ _ _ (by simp) ?_
            clear hK K
            refine Held.one 11 (by kernel_rfl) rfl (by rfl) (fun K hK => ?_)
            go_simp
            refine hK.out _ _ _ (by simp) ?_
            clear hK K
            refine Held.end_ (by kernel_rfl) ?_
            go_wp2_with fail
            go_ret
            exact ⟨rfl, World.grew_ext _ _ _⟩
          · go_simp
            refine hK.out _ _ _ (by simp) ?_
            clear hK K
            refine Held.one 3 (by kernel_rfl) rfl (by rfl) (fun K hK => ?_)
            go_wp2_with (go_at_call 10; refine (HM.out _ _ _ (at_two (pre := l ++ Obj.cells #[Value.string (str pa), Value.string (str s)] 9 :: (l4 ++ [Obj.cells (row8 q) 25])) (suf := [Obj.cells #[Value.string (str pb), Value.string (str q)] 9]) (by simp) (by simp <;> omega))).mono ?_; rintro e w' ⟨rfl, l5, d5, rfl⟩; rw [Ext.ext])
            refine hK.out _ _ _ (by simp) ?_
            clear hK K
            refine Held.one 9 (by kernel_rfl) rfl (by rfl) (fun K hK => ?_)
            go_wp2_with (go_at_call 11; refine (HS.out _ _ _ (at_two (pre := l ++ Obj.cells #[Value.string (str pa), Value.string (str s)] 9 :: (l4 ++ [Obj.cells (row8 q) 25, Obj.cells #[Value.string (str s)] 9])) (suf := l5) (by simp) (by simp <;> omega))).mono ?_; rintro e w' ⟨rfl, l6, d6, rfl⟩; rw [Ext.ext])
            refine hK.out _ _ _ (by simp) ?_
            clear hK K
            refine Held.one 10 (by kernel_rfl) rfl (by rfl) (fun K hK => ?_)
            go_simp
            refine hK.out _ _ _ (by simp) ?_
            clear hK K
            refine Held.one 11 (by kernel_rfl) rfl (by rfl) (fun K hK => ?_)
            go_simp
            refine hK.out _ _ _ (by simp) ?_
            clear hK K
            refine Held.end_ (by kernel_rfl) ?_
            go_wp2_with fail
            go_ret
            exact ⟨rfl, World.grew_ext _ _ _⟩
        · go_simp
          refine hK.out _ _ _ (by simp) ?_
          clear hK K
          refine Held.one 2 (by kernel_rfl) rfl (by rfl) (fun K hK => ?_)
          go_simp
          refine hK.out _ _ _ (by simp) ?_
          clear hK K
          refine Held.one 3 (by kernel_rfl) rfl (by rfl) (fun K hK => ?_)
          go_wp2_with (go_at_call 10; refine (HM.out _ _ _ (at_two (pre := l ++ Obj.cells #[Value.string (str pa), Value.string (str s)] 9 :: (l4 ++ [Obj.cells (row8 q) 25, Obj.cells #[Value.string (str pb), Value.string (str q)] 9])) (suf := []) (by simp) (by simp <;> omega))).mono ?_; rintro e w' ⟨rfl, l5, d5, rfl⟩; rw [Ext.ext])
          refine hK.out _ _ _ (by simp) ?_
          clear hK K
          refine Held.one 9 (by kernel_rfl) rfl (by rfl) (fun K hK => ?_)
          go_wp2_with (go_at_call 11; refine (HS.out _ _ _ (at_two (pre := l ++ Obj.cells #[Value.string (str pa), Value.string (str s)] 9 :: (l4 ++ [Obj.cells (row8 q) 25])) (suf := Obj.cells #[Value.string (str s)] 9 :: l5) (by simp) (by simp <;> omega))).mono ?_; rintro e w' ⟨rfl, l6, d6, rfl⟩; rw [Ext.ext])
          refine hK.out _ _ _ (by simp) ?_
          clear hK K
          refine Held.one 10 (by kernel_rfl) rfl (by rfl) (fun K hK => ?_)
          go_simp
          refine hK.out _ _ _ (by simp) ?_
          clear hK K
          refine Held.one 11 (by kernel_rfl) rfl (by rfl) (fun K hK => ?_)
          go_simp
          refine hK.out _ _ _ (by simp) ?_
          clear hK K
          refine Held.end_ (by kernel_rfl) ?_
          go_wp2_with fail
          go_ret
          exact ⟨rfl, World.grew_ext _ _ _⟩
end Go.Proofs.YtcnligenhiiaaaaDoor
