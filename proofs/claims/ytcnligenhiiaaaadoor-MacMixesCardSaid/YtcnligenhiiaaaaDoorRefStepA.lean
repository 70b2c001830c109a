/- oblivionref02.Step: what any words, and any block, come to. -/
import Derived.Test.YtcnligenhiiaaaaDoorRefStepB
import Derived.Test.YtcnligenhiiaaaaDoorRefStepC
namespace Go.Proofs.YtcnligenhiiaaaaDoor
open Go.RowKit Sha2 Words

theorem sch_put (m : List W) (hm : m.length = 16) (k : Nat) (h1 : 16 ≤ k) (h2 : k < 64) :
    let p := sch m (k - 16) ++ List.replicate (64 - k) 0
    p.set k (p.getD (k - 16) 0 + s0 (p.getD (k - 15) 0) + p.getD (k - 7) 0 + s1 (p.getD (k - 2) 0)) = sch m (k + 1 - 16) ++ List.replicate (64 - (k + 1)) 0 := by
  have hl := sch_length m (k - 16)
  simp only []
  rw [getD_app_left _ _ _ _ (by omega), getD_app_left _ _ _ _ (by omega), getD_app_left _ _ _ _ (by omega), getD_app_left _ _ _ _ (by omega)]
  rw [show k + 1 - 16 = (k - 16) + 1 by omega, show 64 - k = (64 - (k + 1)) + 1 by omega]
  simp only [sch, List.replicate_succ]
  have e : nxt (sch m (k - 16)) = (sch m (k - 16)).getD (k - 16) 0 + s0 ((sch m (k - 16)).getD (k - 15) 0) + (sch m (k - 16)).getD (k - 7) 0 + s1 ((sch m (k - 16)).getD (k - 2) 0) := by
    unfold nxt
    rw [hl, hm, show 16 + (k - 16) = k by omega]
  rw [← e]
  generalize nxt (sch m (k - 16)) = y
  generalize sch m (k - 16) = q at *
  rw [List.append_assoc, List.set_append_right _ _ (by omega), show k - q.length = 0 by omega]
  rfl

set_option maxHeartbeats 4000000 in
set_option maxRecDepth 100000 in
theorem rstep_any (l : List W) (hl : l.length = 8) (s : ByteArray) (hs : s.size = 64) (w : World) :
    Calls Tryd.prog 36 #[.agg (row64 l), .string s] w fun e w' => e = .returned (.agg (row64 (Sha2.step (.of l) s.data.toList).list)) ∧ w.grew w' := by
  refine Ext.entered w ?_
  have hkn := kws_length
  go_enter Tryd.func36, Tryd.ntmps36
  go_wp2
  go_loopw [6] (fun i wr => ∃ (k d : Nat), k ≤ 64 ∧ i = .int .i64 k ∧ wr = w.ext [.cells (row64 l) 71, .cells zero8w 71, .cells (row64 (ld s.data.toList k ++ List.replicate 48 0)) 77] d) (fun i _ => 64 - (intOf i).toNat)
  case atStart => exact ⟨0, _, by omega, rfl, rfl⟩
  case round =>
    obtain ⟨k, d, hk, rfl, rfl⟩ := hrel
    by_cases hlt : k < 64
    · have hll := ld_length s.data.toList k
      have hx0 : (ld s.data.toList k)[k / 4]? = some ((ld s.data.toList k).getD (k / 4) 0) := getD_of (by omega)
      have hxl := ld_lt s.data.toList k (k / 4) (by omega)
      have hxb : ((ld s.data.toList k).getD (k / 4) 0).toNat < 16777216 := Nat.lt_of_lt_of_le hxl (Nat.le_trans (Nat.pow_le_pow_right (by decide) (show k - 4 * (k / 4) ≤ 3 by omega)) (by decide))
      have hn : ld s.data.toList (k + 1) = (ld s.data.toList k).set (k / 4) ((ld s.data.toList k).getD (k / 4) 0 <<< 8 ||| BitVec.ofNat 32 (Ext.byteAt s k).toNat) := rfl
      generalize (ld s.data.toList k).getD (k / 4) 0 = x at *
      have hmb := mb64_eq x (Ext.byteAt s k) hxb
      have hx : (ld s.data.toList k ++ List.replicate 48 0)[k / 4]? = some x := by rw [List.getElem?_append_left (by omega)]; exact hx0
      have hset : (ld s.data.toList k ++ List.replicate 48 0).set (k / 4) (x <<< 8 ||| BitVec.ofNat 32 (Ext.byteAt s k).toNat) = ld s.data.toList (k + 1) ++ List.replicate 48 0 := by
        rw [hn, List.set_append_left _ _ (by omega)]
      have HS := Kept.mk hset
      clear hset hn hx0 hxl hxb hll
      generalize ld s.data.toList k ++ List.replicate 48 0 = p at *
      have hb : k < s.size := by omega
      have hb4 : k / 4 < 64 := by omega
      go_wp2
      refine Region2.quiet_tail 13 (by kernel_rfl) (by kernel_rfl) ?_
      simp only [List.take_succ_cons, List.take_zero, List.drop_succ_cons, List.drop_zero, Ext.drew]
      repeat (first | go_big_quiet_skip | (go_big_quiet_want; go_big_quiet_op; go_big_quiet_on))
      refine wpQuiet_nil ?_
      go_wp2
      go_roundw
      case rel => exact ⟨k + 1, d + 1, by omega, by go_num, by rw [← HS.out]⟩
      case measure => simp [intOf]; omega
    · obtain rfl : k = 64 := by omega
      have hml := ld_length s.data.toList 64
      generalize hm : ld s.data.toList 64 = m at *
      have HM := Kept.mk hm
      clear hm
      clear hk hlt
      go_wp2
      go_loopw [7] (fun i wr => ∃ (k d : Nat), k ≤ 64 ∧ 16 ≤ k ∧ i = .int .i64 k ∧ wr = w.ext [.cells (row64 l) 71, .cells zero8w 71, .cells (row64 (sch m (k - 16) ++ List.replicate (64 - k) 0)) 77] d) (fun i _ => 64 - (intOf i).toNat)
      case atStart => exact ⟨16, _, by omega, by omega, rfl, rfl⟩
      case round =>
        obtain ⟨k, d, hk, hk16, rfl, rfl⟩ := hrel
        by_cases hlt : k < 64
        · have hp : (sch m (k - 16) ++ List.replicate (64 - k) 0).length = 64 := by rw [List.length_append, sch_length, List.length_replicate]; omega
          have hput := sch_put m hml k hk16 hlt
          refine ref_round1 w l (sch m (k - 16) ++ List.replicate (64 - k) 0) d k hlt hk16 hp ?_
          intro d' W'
          intros
          rename_i hW
          subst hW
          go_wp2
          go_roundw
          case rel => exact ⟨k + 1, d', by omega, by omega, by go_num, by rw [← hput]⟩
          case measure => simp [intOf]; omega
        · obtain rfl : k = 64 := by omega
          clear hk hk16 hlt
          have hpl : (sch m (64 - 16) ++ List.replicate (64 - 64) 0).length = 64 := by rw [List.length_append, sch_length, List.length_replicate]; omega
          have hpe : sch m (64 - 16) ++ List.replicate (64 - 64) 0 = sch m 48 := by simp
          rw [hpe] at hpl ⊢
          clear hpe
          generalize hp : sch m 48 = p at *
          have HP := Kept.mk hp
          clear hp
          go_wp2_with fail
          refine (k_any _).mono ?_
          rintro e w' ⟨rfl, dk, hw'⟩
          rw [Ext.ext] at hw'
          simp only [List.cons_append, List.nil_append] at hw'
          subst hw'
          go_wp2
          go_loopw [12] (fun i wr => ∃ (k d : Nat), k ≤ 64 ∧ i = .int .i64 k ∧ wr = w.ext [.cells (row64 l) 71, .cells zero8w 71, .cells (row64 p) 77, .cells (row64 (rnds (.of l) p k).list) 71, .cells (row64 kws) 77, .cells (row64 kws) 77] d) (fun i _ => 64 - (intOf i).toNat)
          case atStart => exact ⟨0, dk, by omega, rfl, by simp only [rnds, list_of l hl]⟩
          case round =>
            obtain ⟨k, d, hk, rfl, rfl⟩ := hrel
            by_cases hlt : k < 64
            · obtain ⟨r, hr⟩ : ∃ r, r = rnds (.of l) p k := ⟨_, rfl⟩
              rw [← hr]
              obtain ⟨va, vb, vc, vd, ve, vf, vg, vh⟩ := r
              simp only [list_mk]
              refine ref_round2 w l p d k va vb vc vd ve vf vg vh hlt hpl ?_
              intro d' W'
              intros
              rename_i hW
              subst hW
              have e : rnds (.of l) p (k + 1) = rnd ⟨va, vb, vc, vd, ve, vf, vg, vh⟩ (kw k) (p.getD k 0) := by
                simp only [rnds, ← hr]
              go_wp2
              go_roundw
              case rel => exact ⟨k + 1, d', by omega, by go_num, by rw [e]⟩
              case measure => simp [intOf]; omega
            · obtain rfl : k = 64 := by omega
              clear hk hlt
              obtain ⟨v, hv⟩ : ∃ v, v = rnds (.of l) p 64 := ⟨_, rfl⟩
              rw [← hv]
              have hvl : v.list.length = 8 := v.list_length
              have HV := Kept.mk hv
              clear hv
              obtain ⟨q, hq⟩ : ∃ q, q = v.list := ⟨_, rfl⟩
              rw [← hq] at hvl ⊢
              have HQ := Kept.mk hq
              clear hq
              go_wp2
              go_loopw [17] (fun i wr => ∃ (k d : Nat), k ≤ 8 ∧ i = .int .i64 k ∧ wr = w.ext [.cells (row64 l) 71, .cells zero8w 71, .cells (row64 p) 77, .cells (row64 (addN q l k)) 71, .cells (row64 kws) 77, .cells (row64 kws) 77] d) (fun i _ => 8 - (intOf i).toNat)
              case atStart => exact ⟨0, d, by omega, rfl, rfl⟩
              case round =>
                obtain ⟨k, d, hk, rfl, rfl⟩ := hrel
                by_cases hlt : k < 8
                · obtain ⟨x, hx⟩ : ∃ x, (addN q l k)[k]? = some x := ⟨_, getD_of (by rw [addN_length]; omega)⟩
                  obtain ⟨y, hy⟩ : ∃ y, l[k]? = some y := ⟨_, getD_of (by omega)⟩
                  clear hl hvl
                  go_wp2
                  refine Region2.quiet_tail 10 (by kernel_rfl) (by kernel_rfl) ?_
                  simp only [List.take_succ_cons, List.take_zero, List.drop_succ_cons, List.drop_zero, Ext.drew]
                  repeat (first | go_big_quiet_skip | (go_big_quiet_want; go_big_quiet_op; go_big_quiet_on))
                  refine wpQuiet_nil ?_
                  go_wp2
                  go_roundw
                  case rel =>
                    refine ⟨k + 1, d + 1, by omega, by go_num, ?_⟩
                    have e : addN q l (k + 1) = (addN q l k).set k (x + y) := by
                      simp only [addN, List.getD_eq_getElem?_getD, hx, hy, Option.getD_some]
                    rw [e]
                  case measure => simp [intOf]; omega
                · obtain rfl : k = 8 := by omega
                  have hal : (addN q l 8).length = 8 := by rw [addN_length]; exact hvl
                  go_wp2
                  refine bodyPost_ret (v := .agg (row64 (addN q l 8))) ?_ rfl ?_
                  · exact Ext.result_row (k := 1) rfl _ rfl _ _ _ rfl (by simp) (by simp [row64_size, hal])
                  · refine ⟨?_, World.grew_ext _ _ _⟩
                    rw [HQ.out, addN_add _ _ hl, HV.out, ← HP.out, ← HM.out]
                    rfl
end Go.Proofs.YtcnligenhiiaaaaDoor
