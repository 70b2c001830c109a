/- sha.Step: the walk up to its loops. -/
import Derived.Test.YtcnligenhiiaaaaDoorShaStepB
import Derived.Deep.QuietTactic
import Derived.BigQuiet
namespace Go.Proofs.YtcnligenhiiaaaaDoor
open Go.RowKit Sha2 Words



set_option maxHeartbeats 4000000 in
set_option maxRecDepth 100000 in
theorem step_any (l : List W) (hl : l.length = 8) (s : ByteArray) (hs : s.size = 64) (w : World) (hK : Konst w) :
    Calls Tryd.prog 22 #[.agg (row32 l), .string s] w fun e w' => e = .returned (.agg (row32 (Sha2.step (.of l) s.data.toList).list)) ∧ w.grew w' := by
  refine Ext.entered w ?_
  have hkl : ∀ l d, (Ext.loadFrom 69 (.pointer (some ⟨0, 0, none⟩))).run Tryd.prog (w.ext l d) = .ok (.value (.agg (row32 kws))) (w.ext l d) := fun l d => (hK.ext l d).loads
  have HK := Lib.hid hK
  clear hK
  go_enter Tryd.func22, Tryd.ntmps22
  go_wp2
  generalize grownCap _ _ _ _ = cap
  go_loopw [27] (fun i wr => ∃ (k d : Nat), k ≤ 64 ∧ i = .int .i64 k ∧ wr = w.ext [.cells (row32 l) 49, .cells zero8 49, .cells (row32 (ld s.data.toList k)) 68, Ext.byteBlock s cap 5] d) (fun i _ => 64 - (intOf i).toNat)
  case atStart => exact ⟨0, _, by omega, rfl, rfl⟩
  case round =>
    obtain ⟨k, d, hk, rfl, rfl⟩ := hrel
    by_cases hlt : k < 64
    · obtain ⟨x, hx⟩ : ∃ x, (ld s.data.toList k)[k / 4]? = some x := ⟨_, getD_of (by rw [ld_length]; omega)⟩
      have hb : k < s.size := by omega
      have hb4 : k / 4 < 16 := by omega
      go_wp2
      go_roundw
      case rel =>
        refine ⟨k + 1, d, by omega, by go_num, ?_⟩
        have e : ld s.data.toList (k + 1) = (ld s.data.toList k).set (k / 4) (x <<< 8 ||| BitVec.ofNat 32 (Ext.byteAt s k).toNat) := by
          simp only [ld]
          rw [List.getD_eq_getElem?_getD, hx]
          rfl
        rw [e]
      case measure => simp [intOf]; omega
    · obtain rfl : k = 64 := by omega
      have hkn := kws_length
      clear hk hlt
      go_wp2
      go_loopw [46] (fun i wr => ∃ (k d : Nat), k ≤ 64 ∧ i = .int .i64 k ∧ wr = w.ext [.cells (row32 l) 49, .cells zero8 49, .cells (row32 (wrun (.of l) (ld s.data.toList 64) k).1) 68, Ext.byteBlock s cap 5, .cells (row32 (wrun (.of l) (ld s.data.toList 64) k).2.list) 49] d) (fun i _ => 64 - (intOf i).toNat)
      case atStart => exact ⟨0, d, by omega, rfl, by simp only [wrun, list_of l hl]⟩
      case round =>
        obtain ⟨k, d, hk, rfl, rfl⟩ := hrel
        have hql : (wrun (.of l) (ld s.data.toList 64) k).1.length = 16 := by rw [wrun_length, ld_length]
        by_cases hlt : k < 64
        · obtain ⟨r, hr⟩ : ∃ r, r = wrun (.of l) (ld s.data.toList 64) k := ⟨_, rfl⟩
          rw [← hr] at hql ⊢
          obtain ⟨q, ⟨va, vb, vc, vd, ve, vf, vg, vh⟩⟩ := r
          simp only at hql
          simp only [list_mk]
          refine step_round2 w l s cap d k q va vb vc vd ve vf vg vh hlt hql ?_
          intro d' W'
          intros
          rename_i hW
          subst hW
          have e : wrun (.of l) (ld s.data.toList 64) (k + 1) = (win q k, rnd ⟨va, vb, vc, vd, ve, vf, vg, vh⟩ (at0 kws k) ((win q k).getD (k % 16) 0)) := by
            simp only [wrun, ← hr, kws_at k hlt]
          go_wp2
          go_roundw
          case rel => exact ⟨_, _, _, _, _, _, _, _, _, _, _, _, _, _, _, _, _, _, _, _, _, _, _, _, _, _, _, _, _, _, _, _, _, _, _, _, _, _, _, _, _, _, _, _, _, _, _, _, _, _, _, _, _, _, _, _, _, _, _, _, _, _, _, _, _, _, _, _, _, _, _, _, _, _, _, _, _, _, _, _, _, _, _, _, _, _, _, _, _, _, _, _, _, _, _, _, _, _, _, _, _, _, _, _, _, _, _, _, _, _, _, _, _, _, _, _, _, _, _, _, _, _, _, _, _, _, _, _, _, _, _, _, ⟨k + 1, d', by omega, by go_num, by rw [e]⟩, rfl⟩
          case measure => simp [intOf]; omega
        · obtain rfl : k = 64 := by omega
          clear hk hlt hql
          obtain ⟨v, hv⟩ : ∃ v, v = (wrun (.of l) (ld s.data.toList 64) 64).2 := ⟨_, rfl⟩
          rw [← hv]
          have hvl : v.list.length = 8 := v.list_length
          have HV := Lib.hid hv
          clear hv
          obtain ⟨m, hm⟩ : ∃ m, m = v.list := ⟨_, rfl⟩
          rw [← hm] at hvl ⊢
          have HM := Lib.hid hm
          clear hm
          go_wp2
          go_loopw [169] (fun i wr => ∃ (k d : Nat), k ≤ 8 ∧ i = .int .i64 k ∧ wr = w.ext [.cells (row32 l) 49, .cells zero8 49, .cells (row32 (wrun (.of l) (ld s.data.toList 64) 64).1) 68, Ext.byteBlock s cap 5, .cells (row32 (addN m l k)) 49] d) (fun i _ => 8 - (intOf i).toNat)
          case atStart => exact ⟨0, d, by omega, rfl, rfl⟩
          case round =>
            obtain ⟨k, d, hk, rfl, rfl⟩ := hrel
            by_cases hlt : k < 8
            · obtain ⟨x, hx⟩ : ∃ x, (addN m l k)[k]? = some x := ⟨_, getD_of (by rw [addN_length]; omega)⟩
              obtain ⟨y, hy⟩ : ∃ y, l[k]? = some y := ⟨_, getD_of (by omega)⟩
              clear hl hvl
              go_wp2
              refine Region2.quiet_tail 7 (by kernel_rfl) (by kernel_rfl) ?_
              simp only [List.take_succ_cons, List.take_zero, List.drop_succ_cons, List.drop_zero, Ext.drew]
              repeat (first
                | go_big_quiet_skip
                | (go_big_quiet_want; go_big_quiet_op; go_big_quiet_on))
              refine wpQuiet_nil ?_
              go_wp2
              go_roundw
              case rel =>
                refine ⟨k + 1, d + 1, by omega, by go_num, ?_⟩
                have e : addN m l (k + 1) = (addN m l k).set k (x + y) := by
                  simp only [addN, List.getD_eq_getElem?_getD, hx, hy, Option.getD_some]
                rw [e]
              case measure => simp [intOf]; omega
            · obtain rfl : k = 8 := by omega
              have hal : (addN m l 8).length = 8 := by rw [addN_length]; exact hvl
              go_wp2
              refine bodyPost_ret (v := .agg (row32 (addN m l 8))) ?_ rfl ?_
              · exact Ext.result_row (k := 1) rfl _ rfl _ _ _ rfl (by simp) (by simp [row32_size, hal])
              · refine ⟨?_, World.grew_ext _ _ _⟩
                rw [HM.out, addN_add _ _ hl, HV.out, step_wrun]
end Go.Proofs.YtcnligenhiiaaaaDoor
