/- sha.Fill: what is filled up behind so many bytes. -/
import Derived.Test.YtcnligenhiiaaaaDoorShaKonst
import Derived.Test.YtcnligenhiiaaaaDoorBytes
namespace Go.Proofs.YtcnligenhiiaaaaDoor
open Go.RowKit Sha2 Words Bytes

theorem info_u8 : (Tryd.prog.info? 5).map (fun i => (i.zero, i.size, i.bytes)) = some (some (.int .u8 0), 1, 1) := by kernel_rfl
theorem made8 (n : Nat) : madeCells #[.int .u8 0] n = row8 (List.replicate n 0) := by
  apply Array.ext_getElem?
  intro i
  simp only [madeCells, row8, List.getElem?_toArray, List.getElem?_map, Array.getElem?_map]
  by_cases h : i < n
  · simp [h, Nat.mod_one, b8]
  · simp [h]
/-- A new slice of n bytes. -/
theorem make_bytes (n : Nat) (hn : n < 1099511627776) (W : World) :
    (Instr.makeSlice 29 (.int .i64 (n : Int)) (.int .i64 (n : Int))).run Tryd.prog W = .ok (.slice (some ⟨W.heap.size, 0, none⟩) n n) (W.alloc (.cells (row8 (List.replicate n 0)) 5)) := by
  obtain ⟨i0, hi, hz0, hz1, hz2⟩ := info_parts info_u8
  have := run_make (P := Tryd.prog) W 29 5 i0 (.int .u8 0) Tryd.underlying29 hi hz0 .i64 .i64 n n (by omega) (by omega) (by rw [hz2]; omega) (by omega)
  rw [this, hz1, Int.toNat_natCast, Nat.mul_one]
  congr 3
  exact made8 n

set_option maxRecDepth 100000 in
theorem fill_neg (n : Int) (hn : n < 0) (w : World) :
    Calls Tryd.prog 21 #[.int .i64 n] w fun e w' => e = .returned (.string (str [])) ∧ w' = w := by
  go_enter Tryd.func21, Tryd.ntmps21
  go_wp2
  go_ret
  exact ⟨rfl, rfl⟩

set_option maxHeartbeats 1000000 in
set_option maxRecDepth 100000 in
theorem fill_any (n : Nat) (hn : n < 1073741824) (w : World) :
    Calls Tryd.prog 21 #[.int .i64 (n : Int)] w fun e w' => e = .returned (.string (str (fill n))) ∧ w.grew w' := by
  refine Ext.entered w ?_
  obtain ⟨z, hz⟩ : ∃ z : Nat, z = 63 - (n + 8) % 64 := ⟨_, rfl⟩
  obtain ⟨m, hm⟩ : ∃ m : Nat, m = z + 9 := ⟨_, rfl⟩
  have hz1 : 63 - ((n : Int) + 8) % 64 = (z : Int) := by omega
  have hm1 : 1 + (z : Int) + 8 = (m : Int) := by omega
  have hmk := make_bytes m (by omega)
  have hm9 : 9 ≤ m := by omega
  have hm99 : m < 100 := by omega
  have hml := filled_length z (8 * n) 8 (by omega)
  have hr0 : (List.replicate m (0 : UInt8))[0]? = some 0 := by rw [List.getElem?_replicate, if_pos (by omega)]
  have hs0 : (List.replicate m (0 : UInt8)).set 0 128 = filled z (8 * n) 0 := by
    rw [filled_none, hm, show z + 9 = (z + 8) + 1 by omega, List.replicate_succ]
    rfl
  have hfl : ∀ k, k ≤ 8 → (filled z (8 * n) k).length = m := fun k h => by rw [hm]; exact filled_length z (8 * n) k h
  have hfs : ∀ k, k < 8 → (filled z (8 * n) k).set (m - 1 - k) (UInt8.ofNat (8 * n / 256 ^ k)) = filled z (8 * n) (k + 1) := fun k h => by rw [hm]; exact filled_set z (8 * n) k h
  have HFL := Kept.mk hfl
  have HFS := Kept.mk hfs
  clear hfl hfs
  have HZ := Kept.mk hz
  have HM := Kept.mk hm
  have HL := Kept.mk hml
  clear hz hm hml
  go_enter Tryd.func21, Tryd.ntmps21
  go_wp2
  clear hr0 hz1 hm1 hmk
  go_loopw [18] (fun i wr => ∃ (k d : Nat), k ≤ 8 ∧ i = .int .i64 k ∧ wr = w.ext [.cells (row8 (filled z (8 * n) k)) 5] d) (fun i _ => 8 - (intOf i).toNat)
  case atStart => exact ⟨0, w.drawn, by omega, rfl, rfl⟩
  case round =>
    obtain ⟨k, d, hk, rfl, rfl⟩ := hrel
    by_cases hlt : k < 8
    · have hl := HFL.out k hk
      obtain ⟨y, hy⟩ : ∃ y, (filled z (8 * n) k)[m - 1 - k]? = some y := ⟨_, List.getElem?_eq_getElem (by omega)⟩
      have HS := Kept.mk (HFS.out k hlt)
      clear hl
      have hv : (n : Int) * 8 / 2 ^ (8 * k) % 256 = ((8 * n / 256 ^ k % 256 : Nat) : Int) := by
        rw [show (2 : Int) ^ (8 * k) = ((256 ^ k : Nat) : Int) by rw [Int.pow_mul]; simp]
        rw [show (n : Int) * 8 = ((8 * n : Nat) : Int) by omega]
        rfl
      have HV := Kept.mk (byte_of _ _ hv)
      clear hv
      go_wp2
      go_roundw
      case rel => exact ⟨k + 1, d, by omega, by go_num, by rw [HV.out, row8_set, HS.out]⟩
      case measure => simp [intOf]; omega
    · obtain rfl : k = 8 := by omega
      have hl := HFL.out 8 hk
      have ht : (filled z (8 * n) 8).take m = filled z (8 * n) 8 := List.take_of_length_le (by omega)
      have hf : filled z (8 * n) 8 = fill n := by rw [HZ.out, filled_all]
      rw [hf] at hl ht ⊢
      clear hf hs0
      go_wp2
      go_ret
      exact ⟨rfl, World.grew_ext _ _ _⟩
end Go.Proofs.YtcnligenhiiaaaaDoor
