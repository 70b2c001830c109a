/- oblivionref02.turn, right: turning a word to the right place by place; halving a number again and again. -/
import Derived.Test.YtcnligenhiiaaaaDoorShaRot
import Derived.Lib.Hide
namespace Go.Proofs.YtcnligenhiiaaaaDoor
open Go.RowKit Sha2 Words

theorem rturn_any (x : W) (n : Int) (h : n ∈ turns) (w : World) :
    Calls Tryd.prog 43 #[w64 x, .int .i64 n] w fun e w' => e = .returned (w64 (x.rotateRight n.toNat)) ∧ w' = w := by
  obtain ⟨m, rfl, hm⟩ : ∃ m : Nat, n = m ∧ m < 32 := by
    simp only [turns, List.mem_cons, List.not_mem_nil, or_false] at h
    exact ⟨n.toNat, by omega, by omega⟩
  clear h
  rw [Int.toNat_natCast]
  go_enter Tryd.func43, Tryd.ntmps43
  go_wp2
  go_loop [0, 5] (fun v i => ∃ k : Nat, k ≤ m ∧ i = .int .i64 k ∧ v = .int .u64 ((x.rotateRight k).toNat : Int)) (fun _ i => m - (intOf i).toNat)
  case atStart => exact ⟨0, by omega, rfl, by rw [rot_zero]; rfl⟩
  case round =>
    obtain ⟨k, hk, rfl, rfl⟩ := hrel
    by_cases hlt : k < m
    · have hs := rot_num x k (by omega)
      have hb := (x.rotateRight k).isLt
      have HS := Lib.hid hs
      clear hs
      generalize (x.rotateRight k).toNat = a at *
      go_wp2
      go_round
      case rel => exact ⟨k + 1, by omega, by go_num, by rw [HS.out]; go_num⟩
      case measure => simp [intOf]; omega
    · obtain rfl : k = m := by omega
      go_wp2
      go_ret
      exact ⟨rfl, rfl⟩

theorem right_any (a n : Nat) (ha : a < 18446744073709551616) (hn : n < 100) (w : World) :
    Calls Tryd.prog 37 #[.int .u64 (a : Int), .int .i64 (n : Int)] w fun e w' => e = .returned (.int .u64 ((a / 2 ^ n : Nat) : Int)) ∧ w' = w := by
  go_enter Tryd.func37, Tryd.ntmps37
  go_wp2
  go_loop [0, 5] (fun v i => ∃ k : Nat, k ≤ n ∧ i = .int .i64 k ∧ v = .int .u64 ((a / 2 ^ k : Nat) : Int)) (fun _ i => n - (intOf i).toNat)
  case atStart => exact ⟨0, by omega, rfl, by simp⟩
  case round =>
    obtain ⟨k, hk, rfl, rfl⟩ := hrel
    by_cases hlt : k < n
    · have hs : a / 2 ^ (k + 1) = a / 2 ^ k / 2 := by rw [Nat.pow_succ, Nat.div_div_eq_div_mul]
      have hb : a / 2 ^ k ≤ a := Nat.div_le_self _ _
      have HS := Lib.hid hs
      clear hs
      generalize a / 2 ^ k = b at *
      go_wp2
      go_round
      case rel => exact ⟨k + 1, by omega, by go_num, by rw [HS.out]; go_num⟩
      case measure => simp [intOf]; omega
    · obtain rfl : k = n := by omega
      go_wp2
      go_ret
      exact ⟨rfl, rfl⟩
theorem right_word (x : W) (n : Int) (h0 : 0 ≤ n) (hn : n < 100) (w : World) :
    Calls Tryd.prog 37 #[w64 x, .int .i64 n] w fun e w' => e = .returned (w64 (x >>> n.toNat)) ∧ w' = w := by
  obtain ⟨m, rfl⟩ := Int.eq_ofNat_of_zero_le h0
  rw [Int.toNat_natCast]
  have e : (x >>> m).toNat = x.toNat / 2 ^ m := by rw [BitVec.toNat_ushiftRight, Nat.shiftRight_eq_div_pow]
  unfold w64
  rw [e]
  exact right_any x.toNat m (by have := x.isLt; omega) (by omega) w
end Go.Proofs.YtcnligenhiiaaaaDoor
