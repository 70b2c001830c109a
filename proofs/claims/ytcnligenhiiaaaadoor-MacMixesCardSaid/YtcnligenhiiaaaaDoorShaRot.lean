/- bits.RotateLeft32 by a negative number of places, and sha.Step's own turn to the right: what they come to. -/
import Derived.Test.YtcnligenhiiaaaaDoorChecked
import Derived.Test.YtcnligenhiiaaaaDoorWords
import Derived.Test.YtcnligenhiiaaaaDoorExt
import Derived.Lib.Hide
namespace Go.Proofs.YtcnligenhiiaaaaDoor
open Go.RowKit Sha2

def turns : List Int := [2, 6, 7, 11, 13, 17, 18, 19, 22, 25]

theorem rot_eq (x : W) (n : Nat) (h : n < 32) : (x <<< (32 - n)) ||| (x >>> n) = x.rotateRight n := by
  rw [BitVec.rotateRight_def, Nat.mod_eq_of_lt h, BitVec.or_comm]

theorem cut_eq (n : Int) (h : n ∈ turns) : bits .and .u64 (IntKind.u64.wrap (-n)) 31 = 32 - n := by
  simp only [turns, List.mem_cons, List.not_mem_nil, or_false] at h
  rcases h with rfl | rfl | rfl | rfl | rfl | rfl | rfl | rfl | rfl | rfl <;> decide

theorem rot_any (x : W) (n : Int) (h : n ∈ turns) (w : World) :
    Calls Tryd.prog 34 #[w32 x, .int .i64 (-n)] w fun e w' => e = .returned (w32 (x.rotateRight n.toNat)) ∧ w = w' := by
  have hc := cut_eq n h
  have h1 : 0 < n ∧ n < 32 := by
    simp only [turns, List.mem_cons, List.not_mem_nil, or_false] at h
    omega
  have hr := rot_eq x n.toNat (by omega)
  have h2 : 0 < n := h1.1
  have h3 : n < 32 := h1.2
  have h4 : n ≤ 32 := by omega
  have h5 : 0 ≤ n := by omega
  have h6 : 32 - (32 - n) = n := by omega
  have HR := Lib.hid hr
  clear hr h1 h
  go_enter Tryd.func34, Tryd.ntmps34
  go_wp2
  go_ret
  refine ⟨?_, rfl⟩
  rw [← HR.out]
  exact congrArg (fun x => Ending.returned (w32 x)) (by congr 2 <;> omega)

theorem turn_any (x : W) (n : Int) (h : n ∈ turns) (w : World) :
    Calls Tryd.prog 33 #[w32 x, .int .i64 n] w fun e w' => e = .returned (w32 (x.rotateRight n.toNat)) ∧ w = w' := by
  have hw : wrap64 (-n) = -n := by
    unfold wrap64
    simp only [turns, List.mem_cons, List.not_mem_nil, or_false] at h
    omega
  have hr := rot_any x n h
  have HR := Lib.hid hr
  clear hr
  go_enter Tryd.func33, Tryd.ntmps33
  go_wp2_with fail
  refine (HR.out _).mono ?_
  rintro e w' ⟨rfl, rfl⟩
  go_wp2
  go_ret
  exact ⟨rfl, rfl⟩
theorem turn_still (x : W) (n : Int) (h : n ∈ turns) (w : World) :
    Calls Tryd.prog 33 #[w32 x, .int .i64 n] w fun e w' => e = .returned (w32 (x.rotateRight n.toNat)) ∧ w' = w :=
  (turn_any x n h w).mono fun _ _ h => ⟨h.1, h.2.symm⟩
end Go.Proofs.YtcnligenhiiaaaaDoor
