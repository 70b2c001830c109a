/- oblivionref03.mixed, Mac, Short: the document's tag. -/
import Derived.Test.YtcnligenhiiaaaaDoorMacSpec
import Derived.Test.YtcnligenhiiaaaaDoorRefSum
import Derived.Test.YtcnligenhiiaaaaDoorShort
import Derived.Test.YtcnligenhiiaaaaDoorTail
namespace Go.Proofs.YtcnligenhiiaaaaDoor
open Go.RowKit Sha2 Words Bytes

@[go_sem] theorem xor_b8 (t : TypeId) (a b : UInt8) : binOp .xor t (b8 a) (b8 b) = pure (b8 (a ^^^ b)) := by
  have ha : BitVec.ofInt 8 (a.toNat : Int) = a.toBitVec := by
    apply BitVec.eq_of_toNat_eq; simp
  have hb : BitVec.ofInt 8 (b.toNat : Int) = b.toBitVec := by
    apply BitVec.eq_of_toNat_eq; simp
  have hx : Op.intBits .xor .u8 (a.toNat : Int) (b.toNat : Int) = pure (.int .u8 (IntKind.u8.wrap ((BitVec.ofInt 8 (a.toNat : Int) ^^^ BitVec.ofInt 8 (b.toNat : Int)).toNat : Int))) := rfl
  simp only [b8, binOp_xor]
  rw [hx, ha, hb]
  have hl := (a.toBitVec ^^^ b.toBitVec).isLt
  have hw : IntKind.u8.wrap ((a.toBitVec ^^^ b.toBitVec).toNat : Int) = ((a.toBitVec ^^^ b.toBitVec).toNat : Int) := by
    have := Int.emod_eq_of_lt (a := ((a.toBitVec ^^^ b.toBitVec).toNat : Int)) (b := 2 ^ 8) (by omega) (by omega)
    simpa only [IntKind.wrap, IntKind.bits, IntKind.signed, Bool.false_and, Bool.false_eq_true, if_false] using this
  rw [hw]
  rfl

set_option maxHeartbeats 1000000 in
set_option maxRecDepth 100000 in
theorem rmixed_any (k : List UInt8) (b : UInt8) (hk : k.length ≤ 64) (w : World) :
    Calls Tryd.prog 24 #[.string (str k), b8 b] w fun e w' => e = .returned (.string (str (mixed k b))) ∧ w.grew w' := by
  refine Ext.entered w ?_
  obtain ⟨i8, hi8, hz0, hz1, hz2⟩ := info_parts info_u8
  have HI := Kept.mk (And.intro hi8 (And.intro hz0 (And.intro hz1 hz2)))
  clear hi8 hz0 hz1 hz2
  go_enter Tryd.func24, Tryd.ntmps24
  go_wp2_with fail
  go_loopw [5, 6] (fun o i wr => ∃ (j : Nat) (l : List Obj) (d : Nat), j ≤ 64 ∧ Sl w 0 l 5 1 o j (((mixed k b).take j).map b8) ∧ i = .int .i64 j ∧ wr = w.ext l d) (fun _ i _ => 64 - (intOf i).toNat)
  case atStart => exact ⟨0, _, _, by omega, Sl.full (n := 0) 0 #[] _ _ rfl (by decide) rfl, rfl, rfl⟩
  case round =>
    obtain ⟨j, l, d, hj, hsl, rfl, rfl⟩ := hrel
    obtain ⟨a, c, rfl⟩ := hsl.slice
    have HSL := Kept.mk hsl
    clear hsl
    by_cases hlt : j < 64
    · have HT := Kept.mk (mixed_take k b j hlt)
      by_cases hjk : j < k.length
      · have hx : Ext.byteAt (str k) j = k.getD j 0 := by unfold Ext.byteAt; rw [str_data]
        generalize k.getD j 0 = x at *
        go_wp2_with (first | (at_builtin; refine Sl.push (l0 := []) (l := l ++ [Obj.cells #[b8 (x ^^^ b)] 5]) (d := d) rfl _ _ 29 rfl rfl 5 i8 (.int .u8 0) 1 1 Tryd.underlying29 HI.out.1 HI.out.2.1 HI.out.2.2.1 HI.out.2.2.2 rfl Nat.one_pos _ j _ rfl (HSL.out.more _) _ 1 1 [b8 (x ^^^ b)] rfl rfl ?h1 ?h2 ?h3 ?h4 ?h5 ?h6) | fail)
        case h2 => simp [b8_one]
        case h3 => decide
        case h4 => unfold maxLen; omega
        case h5 => omega
        case h1 => exact Sl.newest (cur := #[b8 (x ^^^ b)]) rfl
        intro v' l' d' hsl'
        go_wp2_with fail
        go_roundw
        case rel =>
          refine ⟨j + 1, l', d', by omega, ?_, by go_num, rfl⟩
          rw [HT.out, List.map_append]
          simpa using hsl'
        case measure => simp [intOf]; omega
      · have hx : k.getD j 0 = 0 := by rw [List.getD_eq_getElem?_getD, List.getElem?_eq_none (by omega)]; rfl
        rw [hx, UInt8.zero_xor] at HT
        go_wp2_with (first | (at_builtin; refine Sl.push (l0 := []) (l := l ++ [Obj.cells #[b8 b] 5]) (d := d) rfl _ _ 29 rfl rfl 5 i8 (.int .u8 0) 1 1 Tryd.underlying29 HI.out.1 HI.out.2.1 HI.out.2.2.1 HI.out.2.2.2 rfl Nat.one_pos _ j _ rfl (HSL.out.more _) _ 1 1 [b8 b] rfl rfl ?k1 ?k2 ?k3 ?k4 ?k5 ?k6) | fail)
        case k2 => simp [b8_one]
        case k3 => decide
        case k4 => unfold maxLen; omega
        case k5 => omega
        case k1 => exact Sl.newest (cur := #[b8 b]) rfl
        intro v' l' d' hsl'
        go_wp2_with fail
        go_roundw
        case rel =>
          refine ⟨j + 1, l', d', by omega, ?_, by go_num, rfl⟩
          rw [HT.out, List.map_append]
          simpa using hsl'
        case measure => simp [intOf]; omega
    · obtain rfl : j = 64 := by omega
      have hf : (mixed k b).take 64 = mixed k b := List.take_of_length_le (by rw [mixed_length k b hk]; omega)
      rw [hf] at HSL
      have hstr := fun P (src dst : Nat) hs hd he => Sl.to_string (P := P) (d := d) src dst (mixed k b) hs hd he HSL.out
      clear hf
      go_wp2_with fail
      go_ret
      exact ⟨rfl, World.grew_ext _ _ _⟩

set_option maxHeartbeats 1000000 in
set_option maxRecDepth 100000 in
theorem rmac_any (k s : List UInt8) (hk : k.length < 1000000) (hs : s.length < 1000000) (w : World) :
    Calls Tryd.prog 13 #[.string (str k), .string (str s)] w fun e w' => e = .returned (.agg (row8 (mac k s))) ∧ w.grew w' := by
  refine Ext.entered w ?_
  go_enter Tryd.func13, Tryd.ntmps13
  by_cases hlen : 64 < k.length
  · go_wp2_with fail
    refine (rsum_any k _ (by omega)).mono ?_
    rintro e w' ⟨rfl, l1, d1, rfl⟩
    rw [Ext.ext]
    have hko : Sha2.keyOf k = Sha2.sum k := by unfold Sha2.keyOf; rw [if_pos hlen]
    obtain ⟨q, hq⟩ : ∃ q, q = Sha2.sum k := ⟨_, rfl⟩
    rw [← hq]
    have hql : q.length = 32 := by rw [hq]; exact sum_length k
    rw [← hq] at hko
    have HKO := Kept.mk hko
    clear hq hko
    simp only [List.cons_append, List.nil_append]
    have htk : q.take 32 = q := List.take_of_length_le (by omega)
    go_wp2_with fail
    have hq64 : q.length ≤ 64 := by omega
    generalize l1 ++ [Obj.cells (row8 q) 25] = l0
    refine (rmixed_any q 54 hq64 _).mono ?_
    rintro e w' ⟨rfl, l2, d2, rfl⟩
    rw [Ext.ext]
    have hadd1 : ∀ W, (Op.stringOp .add (str (mixed q 54)) (str s)).run Tryd.prog W = .ok (.string (str (mixed q 54 ++ s))) W := fun W => by
      rw [run_string_add_sum _ _ _ (by rw [str_size, str_size, mixed_length _ _ hq64]; omega), str_append]
    have hl1 := mixed_length q 54 hq64
    generalize hm1 : mixed q 54 = m1 at *
    have HM1 := Kept.mk hm1
    clear hm1
    go_wp2_with fail
    refine (rsum_any (m1 ++ s) _ (by rw [List.length_append]; omega)).mono ?_
    rintro e w' ⟨rfl, l3, d3, rfl⟩
    rw [Ext.ext]
    obtain ⟨r, hr⟩ : ∃ r, r = Sha2.sum (m1 ++ s) := ⟨_, rfl⟩
    rw [← hr]
    have hrl : r.length = 32 := by rw [hr]; exact sum_length _
    have HR := Kept.mk hr
    clear hr
    simp only [List.cons_append]
    generalize l0 ++ l2 ++ l3 = gap
    have hrt : r.take 32 = r := List.take_of_length_le (by omega)
    have hadd2 : ∀ W, (Op.stringOp .add (str (mixed q 92)) (str r)).run Tryd.prog W = .ok (.string (str (mixed q 92 ++ r))) W := fun W => by
      rw [run_string_add_sum _ _ _ (by rw [str_size, str_size, mixed_length _ _ hq64]; omega), str_append]
    have hl2 := mixed_length q 92 hq64
    have hfin : mac k s = Sha2.sum (mixed q 92 ++ r) := by rw [mac, HKO.out, HR.out, HM1.out]
    have HF := Kept.mk hfin
    clear hfin
    have cm := fun W => rmixed_any q 92 hq64 W
    have CM := Kept.mk cm
    clear cm
    generalize mixed q 92 = m2 at *
    go_wp2_with fail
    refine Tail.lit 6 (by kernel_rfl) (by decide) (by kernel_rfl) (by kernel_rfl) (by kernel_rfl) (by kernel_rfl) ?_
    simp only [List.take_succ_cons, List.take_zero, List.drop_succ_cons, List.drop_zero]
    repeat (first | go_big_quiet_skip | (go_big_quiet_want; go_big_quiet_op; go_big_quiet_on))
    go_big_quiet_want
    go_big_quiet_op
    refine ⟨_, fun x => Grow.calls_at (n := x.n) (by simp) (CM.out _), ?_⟩
    go_big_quiet_on
    repeat (first | go_big_quiet_skip | (go_big_quiet_want; go_big_quiet_op; go_big_quiet_on))
    go_big_quiet_want
    go_big_quiet_op
    refine ⟨_, fun x => Grow.calls_at (n := x.n) (by simp) (rsum_any (m2 ++ r) _ (by rw [List.length_append]; omega)), ?_⟩
    go_big_quiet_on
    repeat (first | go_big_quiet_skip | (go_big_quiet_want; go_big_quiet_op; go_big_quiet_on))
    refine wpQuiet_nil ?_
    intro n e
    have hfl : (Sha2.sum (m2 ++ r)).length = 32 := sum_length _
    go_wp2_with fail
    refine bodyPost_ret (v := .agg (row8 (Sha2.sum (m2 ++ r)))) ?_ rfl ?_
    · exact Ext.result_row (k := 0) rfl _ rfl _ _ _ rfl (by simp) (by simp only [row8_size, hfl]; simp)
    · exact ⟨by rw [HF.out], World.grew_ext _ _ _⟩
  · have hko : Sha2.keyOf k = k := by unfold Sha2.keyOf; rw [if_neg hlen]
    have HKO := Kept.mk hko
    clear hko
    have hk64 : k.length ≤ 64 := by omega
    go_wp2_with fail
    refine (rmixed_any k 54 hk64 _).mono ?_
    rintro e w' ⟨rfl, l2, d2, rfl⟩
    rw [Ext.ext]
    have hadd1 : ∀ W, (Op.stringOp .add (str (mixed k 54)) (str s)).run Tryd.prog W = .ok (.string (str (mixed k 54 ++ s))) W := fun W => by
      rw [run_string_add_sum _ _ _ (by rw [str_size, str_size, mixed_length _ _ hk64]; omega), str_append]
    have hl1 := mixed_length k 54 hk64
    generalize hm1 : mixed k 54 = m1 at *
    have HM1 := Kept.mk hm1
    clear hm1
    go_wp2_with fail
    refine (rsum_any (m1 ++ s) _ (by rw [List.length_append]; omega)).mono ?_
    rintro e w' ⟨rfl, l3, d3, rfl⟩
    rw [Ext.ext]
    obtain ⟨r, hr⟩ : ∃ r, r = Sha2.sum (m1 ++ s) := ⟨_, rfl⟩
    rw [← hr]
    have hrl : r.length = 32 := by rw [hr]; exact sum_length _
    have HR := Kept.mk hr
    clear hr
    simp only [List.cons_append]
    generalize l2 ++ l3 = gap
    have hrt : r.take 32 = r := List.take_of_length_le (by omega)
    have hadd2 : ∀ W, (Op.stringOp .add (str (mixed k 92)) (str r)).run Tryd.prog W = .ok (.string (str (mixed k 92 ++ r))) W := fun W => by
      rw [run_string_add_sum _ _ _ (by rw [str_size, str_size, mixed_length _ _ hk64]; omega), str_append]
    have hl2 := mixed_length k 92 hk64
    have hfin : mac k s = Sha2.sum (mixed k 92 ++ r) := by rw [mac, HKO.out, HR.out, HM1.out]
    have HF := Kept.mk hfin
    clear hfin
    have cm := fun W => rmixed_any k 92 hk64 W
    have CM := Kept.mk cm
    clear cm
    generalize mixed k 92 = m2 at *
    go_wp2_with fail
    refine Tail.lit 6 (by kernel_rfl) (by decide) (by kernel_rfl) (by kernel_rfl) (by kernel_rfl) (by kernel_rfl) ?_
    simp only [List.take_succ_cons, List.take_zero, List.drop_succ_cons, List.drop_zero]
    repeat (first | go_big_quiet_skip | (go_big_quiet_want; go_big_quiet_op; go_big_quiet_on))
    go_big_quiet_want
    go_big_quiet_op
    refine ⟨_, fun x => Grow.calls_at (n := x.n) (by simp) (CM.out _), ?_⟩
    go_big_quiet_on
    repeat (first | go_big_quiet_skip | (go_big_quiet_want; go_big_quiet_op; go_big_quiet_on))
    go_big_quiet_want
    go_big_quiet_op
    refine ⟨_, fun x => Grow.calls_at (n := x.n) (by simp) (rsum_any (m2 ++ r) _ (by rw [List.length_append]; omega)), ?_⟩
    go_big_quiet_on
    repeat (first | go_big_quiet_skip | (go_big_quiet_want; go_big_quiet_op; go_big_quiet_on))
    refine wpQuiet_nil ?_
    intro n e
    have hfl : (Sha2.sum (m2 ++ r)).length = 32 := sum_length _
    go_wp2_with fail
    refine bodyPost_ret (v := .agg (row8 (Sha2.sum (m2 ++ r)))) ?_ rfl ?_
    · exact Ext.result_row (k := 0) rfl _ rfl _ _ _ rfl (by simp) (by simp only [row8_size, hfl]; simp)
    · exact ⟨by rw [HF.out], World.grew_ext _ _ _⟩
end Go.Proofs.YtcnligenhiiaaaaDoor
