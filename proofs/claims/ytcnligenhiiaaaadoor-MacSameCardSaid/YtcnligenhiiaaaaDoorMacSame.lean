/- mac.Same: whether two texts are the same. -/
import Derived.Test.YtcnligenhiiaaaaDoorMacWith
namespace Go.Proofs.YtcnligenhiiaaaaDoor
open Go.RowKit Sha2 Words Bytes

set_option maxHeartbeats 1000000 in
set_option maxRecDepth 100000 in
theorem same_any (a b : List UInt8) (ha : a.length ≤ 1000000000000000) (w : World) :
    Calls Tryd.prog 12 #[.string (str a), .string (str b)] w fun e w' => e = .returned (.bool (decide (a = b))) ∧ w.grew w' := by
  refine Ext.entered w ?_
  obtain ⟨n, hn⟩ : ∃ n, n = min a.length b.length := ⟨_, rfl⟩
  have hna : n ≤ a.length := by omega
  have hnb : n ≤ b.length := by omega
  go_enter Tryd.func12, Tryd.ntmps12
  go_wp2_with fail
  rw [show min (a.length : Int) (b.length : Int) = (n : Int) by omega]
  have HN := Kept.mk hn
  clear hn
  go_loopw [5, 12] (fun x i wr => ∃ (j d : Nat), j ≤ n ∧ x = b8 (diffN a b j) ∧ i = .int .i64 j ∧ wr = w.ext [] d) (fun _ i _ => n - (intOf i).toNat)
  case atStart => exact ⟨0, w.drawn, by omega, rfl, rfl, rfl⟩
  case round =>
    obtain ⟨j, d, hj, rfl, rfl, rfl⟩ := hrel
    by_cases hlt : j < n
    · have hd : diffN a b (j + 1) = diffN a b j ||| (Ext.byteAt (str a) j ^^^ Ext.byteAt (str b) j) := by
        unfold Ext.byteAt
        rw [str_data, str_data]
        rfl
      have HD := Kept.mk hd
      clear hd
      generalize diffN a b j = x at *
      have hja : j < a.length := by omega
      have hjb : j < b.length := by omega
      go_wp2_with fail
      go_quiet (fail)
      go_wp2_with fail
      exact ⟨⟨j + 1, d + nq, by omega, by rw [HD.out], by go_num, rfl⟩, by simp [intOf]; omega⟩
    · obtain rfl : j = n := by omega
      have hz := diffN_zero a b j hna hnb
      generalize diffN a b j = x at *
      have hn := HN.out
      by_cases hl : a.length = b.length
      · have hz' : (x == 0) = decide (a = b) := by
          rw [show j = a.length by omega, List.take_length, hl, List.take_length] at hz
          rw [Bool.eq_iff_iff]
          simp [hz]
        clear hz hn
        have hz2 : ((x.toNat : Int) == 0) = decide (a = b) := by
          rw [← hz', Bool.eq_iff_iff, beq_iff_eq, beq_iff_eq]
          constructor
          · intro h; exact UInt8.toNat_inj.1 (by simp; omega)
          · intro h; rw [h]; rfl
        have HZ := Kept.mk hz2
        clear hz2 hz'
        go_wp2_with fail
        go_ret
        exact ⟨by rw [← HZ.out]; rfl, World.grew_ext _ _ _⟩
      · have hne : decide (a = b) = false := by
          rw [decide_eq_false_iff_not]
          intro h
          exact hl (by rw [h])
        have HNE := Kept.mk hne
        clear hne hz hn
        have hl' : (a.length : Int) ≠ (b.length : Int) := by omega
        go_wp2_with fail
        go_ret
        exact ⟨by rw [HNE.out]; rfl, World.grew_ext _ _ _⟩
end Go.Proofs.YtcnligenhiiaaaaDoor
