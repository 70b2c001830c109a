/- Plain Lean: turning a word to the right place by place, as numbers; the choice and the majority by exclusive or; a block's first bytes as numbers. No program in sight. -/
import Derived.Test.YtcnligenhiiaaaaDoorShaSpec
namespace Sha2

theorem rot_step (x : W) (k : Nat) (h : k + 1 < 32) : x.rotateRight (k + 1) = (x.rotateRight k).rotateRight 1 := by
  apply BitVec.eq_of_getLsbD_eq
  intro i hi
  simp only [BitVec.getLsbD_rotateRight, Nat.mod_eq_of_lt h, Nat.mod_eq_of_lt (show k < 32 by omega)]
  simp only [show 1 % 32 = 1 from rfl, Bool.cond_decide, hi, decide_true, Bool.true_and]
  by_cases h1 : i < 32 - (k + 1)
  · rw [if_pos h1, if_pos (show i < 32 - 1 by omega), if_pos (show 1 + i < 32 - k by omega)]
    congr 1; omega
  · rw [if_neg h1]
    by_cases h2 : i < 32 - 1
    · rw [if_pos h2, if_neg (show ¬ (1 + i < 32 - k) by omega), decide_eq_true (show 1 + i < 32 by omega), Bool.true_and]
      congr 1; omega
    · rw [if_neg h2, if_pos (show i - (32 - 1) < 32 - k by omega)]
      congr 1; omega
theorem rot_one (y : W) : (y.rotateRight 1).toNat = y.toNat / 2 + y.toNat % 2 * 2147483648 := by
  rw [BitVec.rotateRight_def, BitVec.toNat_or, BitVec.toNat_ushiftRight, BitVec.toNat_shiftLeft]
  have := y.isLt
  have e : y.toNat <<< (32 - 1 % 32) % 2 ^ 32 = 2 ^ 31 * (y.toNat % 2) := by
    rw [Nat.shiftLeft_eq]
    show y.toNat * 2147483648 % 4294967296 = 2147483648 * (y.toNat % 2)
    omega
  have e2 : y.toNat >>> (1 % 32) = y.toNat / 2 := by
    rw [Nat.shiftRight_eq_div_pow]
  rw [e, e2, Nat.or_comm, ← Nat.two_pow_add_eq_or_of_lt (by omega)]
  show 2147483648 * (y.toNat % 2) + y.toNat / 2 = _
  omega
theorem rot_num (x : W) (k : Nat) (h : k + 1 < 32) : (x.rotateRight (k + 1)).toNat = (x.rotateRight k).toNat / 2 + (x.rotateRight k).toNat % 2 * 2147483648 := by
  rw [rot_step x k h, rot_one]
theorem rot_zero (x : W) : x.rotateRight 0 = x := by
  apply BitVec.eq_of_getLsbD_eq
  intro i hi
  simp [hi]

theorem ch_xor (e f g : W) : (e &&& f) ^^^ (~~~e &&& g) = ch e f g := by
  unfold ch
  apply BitVec.eq_of_getLsbD_eq
  intro i hi
  simp only [BitVec.getLsbD_xor, BitVec.getLsbD_or, BitVec.getLsbD_and, BitVec.getLsbD_not, hi, decide_true, Bool.true_and]
  cases e.getLsbD i <;> cases f.getLsbD i <;> cases g.getLsbD i <;> rfl
theorem maj_xor (a b c : W) : (a &&& b) ^^^ (a &&& c) ^^^ (b &&& c) = maj a b c := by
  unfold maj
  apply BitVec.eq_of_getLsbD_eq
  intro i hi
  simp only [BitVec.getLsbD_xor, BitVec.getLsbD_or, BitVec.getLsbD_and]
  cases a.getLsbD i <;> cases b.getLsbD i <;> cases c.getLsbD i <;> rfl

/-- What some of a word's bytes come to stays below what so many bytes hold. -/
theorem ld_lt (s : List UInt8) (k : Nat) : ∀ j, k ≤ 4 * j + 4 → ((ld s k).getD j 0).toNat < 256 ^ (k - 4 * j) := by
  induction k with
  | zero =>
    intro j _
    have : (ld s 0).getD j 0 = 0 := by
      unfold ld
      rw [List.getD_eq_getElem?_getD]
      by_cases h : j < 16
      · rw [List.getElem?_replicate, if_pos h]; rfl
      · rw [List.getElem?_eq_none (by simp; omega)]; rfl
    rw [this]
    exact Nat.pow_pos (by decide)
  | succ k ih =>
    intro j hj
    simp only [ld]
    by_cases h : k / 4 = j
    · by_cases hl : j < 16
      · have hx := ih j (by omega)
        subst h
        rw [getD_set_at _ _ _ _ (by rw [ld_length]; exact hl)]
        generalize (ld s k).getD (k / 4) 0 = x at *
        rw [show k + 1 - 4 * (k / 4) = (k - 4 * (k / 4)) + 1 by omega, Nat.pow_succ]
        have hr : k - 4 * (k / 4) ≤ 3 := by omega
        generalize k - 4 * (k / 4) = r at *
        have hc := (s.getD k 0).toNat_lt
        generalize (s.getD k 0).toNat = c at *
        rw [BitVec.toNat_or, BitVec.toNat_shiftLeft, BitVec.toNat_ofNat, Nat.mod_eq_of_lt (show c < 2 ^ 32 by omega), Nat.shiftLeft_eq]
        have hb : x.toNat * 2 ^ 8 < 2 ^ (8 * (r + 1)) := by
          have : (256 : Nat) ^ r * 256 = 2 ^ (8 * (r + 1)) := by rw [← Nat.pow_succ, show (256 : Nat) = 2 ^ 8 from rfl, ← Nat.pow_mul]
          omega
        have hp : (256 : Nat) ^ r * 256 = 2 ^ (8 * (r + 1)) := by rw [← Nat.pow_succ, show (256 : Nat) = 2 ^ 8 from rfl, ← Nat.pow_mul]
        rw [hp]
        refine Nat.or_lt_two_pow (Nat.lt_of_le_of_lt (Nat.mod_le _ _) hb) (Nat.lt_of_lt_of_le hc ?_)
        exact Nat.pow_le_pow_right (by decide) (by omega)
      · rw [List.getD_eq_getElem?_getD, List.getElem?_eq_none (by simp [ld_length]; omega)]
        exact Nat.pow_pos (by decide)
    · rw [getD_set_other _ _ _ _ _ h]
      by_cases hk : k ≤ 4 * j + 4
      · exact Nat.lt_of_lt_of_le (ih j hk) (Nat.pow_le_pow_right (by decide) (by omega))
      · omega
theorem byte_in (x : W) (c : UInt8) (h : x.toNat < 16777216) : (x <<< 8 ||| BitVec.ofNat 32 c.toNat).toNat = x.toNat * 256 + c.toNat := by
  have hc := c.toNat_lt
  rw [BitVec.toNat_or, BitVec.toNat_shiftLeft, BitVec.toNat_ofNat, Nat.mod_eq_of_lt (show c.toNat < 2 ^ 32 by omega), Nat.shiftLeft_eq, Nat.mod_eq_of_lt (show x.toNat * 2 ^ 8 < 2 ^ 32 by omega)]
  rw [Nat.mul_comm, ← Nat.two_pow_add_eq_or_of_lt (by omega)]
end Sha2
