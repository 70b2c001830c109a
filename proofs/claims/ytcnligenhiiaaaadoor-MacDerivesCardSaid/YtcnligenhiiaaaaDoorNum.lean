/- field.Number: a number as so many bytes, the lowest first. -/
import Derived.Test.YtcnligenhiiaaaaDoorMacSpec
import Derived.Test.YtcnligenhiiaaaaDoorGrow
import Derived.Test.YtcnligenhiiaaaaDoorFill
import Derived.Test.YtcnligenhiiaaaaDoorShelfBuilder
namespace Go.Proofs.YtcnligenhiiaaaaDoor
open Go.RowKit Sha2 Words Bytes

theorem bitLen_le : ∀ (f k x : Nat), x < 2 ^ k → Lib.bitLenAux f x ≤ k
  | 0, _, _, _ => Nat.zero_le _
  | f + 1, k, x, h => by
    unfold Lib.bitLenAux
    split
    · omega
    · rename_i hx
      cases k with
      | zero => simp at h; omega
      | succ k =>
        have := bitLen_le f k (x / 2) (by rw [Nat.pow_succ] at h; omega)
        omega
def Held (w : World) (l : List Obj) (d : Nat) (bs : List UInt8) : Prop := Lib.IsBuilder 60 5 w.heap.size w.heap.size (bs.map b8) (w.ext l d)
theorem Held.more {w : World} {l : List Obj} {d : Nat} {bs : List UInt8} (h : Held w l d bs) (d' : Nat) : Held w l d' bs := h

set_option maxHeartbeats 1000000 in
set_option maxRecDepth 100000 in
theorem number_any (n wd : Nat) (hn : n < 18446744073709551616) (h1 : 1 ≤ wd) (h8 : wd ≤ 8) (hf : n < 256 ^ wd) (w : World) :
    Calls Tryd.prog 25 #[.int .u64 (n : Int), .int .i64 (wd : Int)] w fun e w' => e = .returned (.tuple #[.string (str (le n wd)), .int .i64 0]) ∧ w.grew w' := by
  refine Ext.entered w ?_
  have hb : Lib.bitLen n ≤ 8 * wd := bitLen_le 64 (8 * wd) n (by rw [Nat.pow_mul]; exact hf)
  obtain ⟨m, hm⟩ : ∃ m, m = Lib.bitLen n := ⟨_, rfl⟩
  rw [← hm] at hb
  have HM := Kept.mk hm
  clear hm hf
  go_enter Tryd.func25, Tryd.ntmps25
  go_wp2_with fail
  refine (Tryd.bits_Len64 (n : Int) _ (by omega) (by omega)).mono ?_
  rintro e w' ⟨rfl, rfl⟩
  rw [Int.toNat_natCast, ← HM.out]
  go_wp2_with fail
  rw [show decide ((wd : Int) < 1) = false by rw [decide_eq_false_iff_not]; omega, show decide (8 < (wd : Int)) = false by rw [decide_eq_false_iff_not]; omega, show decide (8 * (wd : Int) < (m : Int)) = false by rw [decide_eq_false_iff_not]; omega, show (false || false) = false from rfl, show (false || false) = false from rfl]
  go_loopw [22] (fun i wr => ∃ (j : Nat) (l : List Obj) (d : Nat), j ≤ wd ∧ i = .int .i64 j ∧ Held w l d (le n j) ∧ wr = w.ext l d) (fun i _ => wd - (intOf i).toNat)
  case atStart =>
    refine ⟨0, _, _, by omega, rfl, ?_, rfl⟩
    exact .inl ⟨Nat.le_refl _, .slice none 0 0, (Ext.block 0).trans rfl, World.ownsRow_nil _ _ _ _, by simp [Value.ownBlock]⟩
  case round =>
    obtain ⟨j, l, d, hj, rfl, hh, rfl⟩ := hrel
    have HH := Kept.mk hh
    clear hh
    by_cases hlt : j < wd
    · have hv : (n : Int) / 2 ^ (8 * j) % 256 = ((n / 256 ^ j % 256 : Nat) : Int) := by
        rw [show (2 : Int) ^ (8 * j) = ((256 ^ j : Nat) : Int) by rw [Int.pow_mul]; simp]
        rfl
      have HV := Kept.mk hv
      have HT := Kept.mk (le_succ n j)
      clear hv
      go_wp2_with fail
      rw [HV.out]
      refine (Tryd.builder_WriteByte w.heap.size w.heap.size ((le n j).map b8) _ _ HH.out (by rw [List.length_map, le_length]; omega) (by rw [Ext.size]; omega)).mono ?_
      rintro e w' ⟨rfl, hB, hW⟩
      obtain ⟨l', hl'⟩ := Ext.of_below (w := w) ((Ext.below (w := w) (l := l) (d := d)).trans hW)
      generalize w'.drawn = d' at hl'
      subst hl'
      have hh' : Held w l' d' (le n (j + 1)) := by
        unfold Held
        rw [HT.out, List.map_append, List.map_cons, List.map_nil, ← byte_of (((n / 256 ^ j % 256 : Nat) : Int)) (n / 256 ^ j) rfl]
        exact .inr hB
      clear hB hW
      have HH' := Kept.mk hh'
      clear hh'
      go_wp2_with fail
      go_roundw
      case rel => exact ⟨j + 1, l', d', by omega, by go_num, HH'.out, rfl⟩
      case measure => simp [intOf]; omega
    · obtain rfl : j = wd := by omega
      have hlb : (le n j).map b8 = Lib.byteCells (le n j) := rfl
      go_wp2_with fail
      refine (Tryd.builder_String w.heap.size w.heap.size (le n j) _ (by rw [← hlb]; exact HH.out) (by rw [Ext.size]; omega)).mono ?_
      rintro e w' ⟨rfl, hW⟩
      obtain ⟨l', hl'⟩ := Ext.of_below (w := w) ((Ext.below (w := w) (l := l) (d := d)).trans hW)
      generalize w'.drawn = d' at hl'
      subst hl'
      clear hW
      go_wp2_with fail
      go_ret2
      exact ⟨rfl, World.grew_ext _ _ _⟩
end Go.Proofs.YtcnligenhiiaaaaDoor
