/- (mac.pad).with: a padded key, each byte mixed. -/
import Derived.Test.YtcnligenhiiaaaaDoorMacSpec
import Derived.Test.YtcnligenhiiaaaaDoorRefMac
namespace Go.Proofs.YtcnligenhiiaaaaDoor
open Go.RowKit Sha2 Words Bytes

def xorN (p : List UInt8) (b : UInt8) (j : Nat) : List UInt8 := (p.take j).map (· ^^^ b) ++ p.drop j
theorem xorN_length (p : List UInt8) (b : UInt8) (j : Nat) (h : j ≤ p.length) : (xorN p b j).length = p.length := by simp [xorN]; omega
theorem xorN_at (p : List UInt8) (b : UInt8) (j : Nat) (h : j < p.length) : (xorN p b j)[j]? = some p[j] := by
  unfold xorN
  rw [List.getElem?_append_right (by simp; omega)]
  simp [Nat.min_eq_left (Nat.le_of_lt h)]
theorem xorN_set (p : List UInt8) (b : UInt8) (j : Nat) (h : j < p.length) : (xorN p b j).set j (p[j] ^^^ b) = xorN p b (j + 1) := by
  unfold xorN
  have hl : ((p.take j).map (· ^^^ b)).length = j := by simp; omega
  rw [List.set_append_right _ _ (by omega), hl, Nat.sub_self, List.drop_eq_getElem_cons h, List.set_cons_zero, List.take_succ_eq_append_getElem h, List.map_append, List.append_assoc]
  rfl

set_option maxHeartbeats 1000000 in
set_option maxRecDepth 100000 in
theorem with_any (p : List UInt8) (hp : p.length = 64) (b : UInt8) (w : World) :
    Calls Tryd.prog 17 #[.agg (row8 p), b8 b] w fun e w' => e = .returned (.string (str (p.map (· ^^^ b)))) ∧ w.grew w' := by
  refine Ext.entered w ?_
  go_enter Tryd.func17, Tryd.ntmps17
  go_wp2_with fail
  go_loopw [6] (fun i wr => ∃ (j d : Nat), j ≤ 64 ∧ i = .int .i64 j ∧ wr = w.ext [.cells (row8 (xorN p b j)) 43] d) (fun i _ => 64 - (intOf i).toNat)
  case atStart => exact ⟨0, w.drawn, by omega, rfl, by rw [show xorN p b 0 = p by simp [xorN]]⟩
  case round =>
    obtain ⟨j, d, hj, rfl, rfl⟩ := hrel
    by_cases hlt : j < 64
    · have hx := xorN_at p b j (by omega)
      have hs := xorN_set p b j (by omega)
      have hl := xorN_length p b j (by omega)
      rw [hp] at hl
      generalize p[j] = x at *
      generalize xorN p b j = q at *
      have HS := Kept.mk hs
      clear hs hl
      go_wp2_with fail
      exact ⟨⟨j + 1, d, by omega, by go_num, by rw [HS.out]⟩, by simp [intOf]; omega⟩
    · obtain rfl : j = 64 := by omega
      have hall : xorN p b 64 = p.map (· ^^^ b) := by
        unfold xorN
        rw [List.take_of_length_le (by omega), List.drop_of_length_le (by omega), List.append_nil]
      rw [hall]
      clear hall
      have hl : (p.map (· ^^^ b)).length = 64 := by rw [List.length_map]; exact hp
      have ht : (p.map (· ^^^ b)).take 64 = p.map (· ^^^ b) := List.take_of_length_le (by omega)
      obtain ⟨q, hq⟩ : ∃ q, q = p.map (· ^^^ b) := ⟨_, rfl⟩
      rw [← hq] at hl ht ⊢
      have HQ := Kept.mk hq
      clear hq
      go_wp2_with fail
      go_ret
      exact ⟨by rw [← HQ.out]; rfl, World.grew_ext _ _ _⟩

@[go_sem] theorem or_b8 (t : TypeId) (a b : UInt8) : binOp .or t (b8 a) (b8 b) = pure (b8 (a ||| b)) := by
  have ha : BitVec.ofInt 8 (a.toNat : Int) = a.toBitVec := by
    apply BitVec.eq_of_toNat_eq; simp
  have hb : BitVec.ofInt 8 (b.toNat : Int) = b.toBitVec := by
    apply BitVec.eq_of_toNat_eq; simp
  have hx : Op.intBits .or .u8 (a.toNat : Int) (b.toNat : Int) = pure (.int .u8 (IntKind.u8.wrap ((BitVec.ofInt 8 (a.toNat : Int) ||| BitVec.ofInt 8 (b.toNat : Int)).toNat : Int))) := rfl
  simp only [b8, binOp_or]
  rw [hx, ha, hb]
  have hl := (a.toBitVec ||| b.toBitVec).isLt
  have hw : IntKind.u8.wrap ((a.toBitVec ||| b.toBitVec).toNat : Int) = ((a.toBitVec ||| b.toBitVec).toNat : Int) := by
    have := Int.emod_eq_of_lt (a := ((a.toBitVec ||| b.toBitVec).toNat : Int)) (b := 2 ^ 8) (by omega) (by omega)
    simpa only [IntKind.wrap, IntKind.bits, IntKind.signed, Bool.false_and, Bool.false_eq_true, if_false] using this
  rw [hw]
  rfl

@[go_sem] theorem eqGuard_byte (op : BinOp) (t : TypeId) (x y : Operand) (c : UInt8) (v : Value) : eqGuard op t x y (b8 c) v = pure () := by
  simp only [b8]
  cases op <;> rfl
/-- What differs, so far. -/
def diffN (a b : List UInt8) : Nat → UInt8
  | 0 => 0
  | j + 1 => diffN a b j ||| (a.getD j 0 ^^^ b.getD j 0)
theorem or_zero (x y : UInt8) : x ||| y = 0 ↔ x = 0 ∧ y = 0 := by
  rw [← UInt8.toBitVec_inj, ← UInt8.toBitVec_inj, ← UInt8.toBitVec_inj]
  exact BitVec.or_eq_zero_iff
theorem xor_zero (x y : UInt8) : x ^^^ y = 0 ↔ x = y := UInt8.xor_eq_zero_iff
theorem diffN_zero (a b : List UInt8) : ∀ j, j ≤ a.length → j ≤ b.length → (diffN a b j = 0 ↔ a.take j = b.take j)
  | 0, _, _ => by simp [diffN]
  | j + 1, ha, hb => by
    have ih := diffN_zero a b j (by omega) (by omega)
    simp only [diffN]
    rw [or_zero, ih, xor_zero, List.getD_eq_getElem?_getD, List.getD_eq_getElem?_getD, List.getElem?_eq_getElem (show j < a.length by omega), List.getElem?_eq_getElem (show j < b.length by omega), List.take_succ_eq_append_getElem (show j < a.length by omega), List.take_succ_eq_append_getElem (show j < b.length by omega)]
    simp only [Option.getD_some]
    constructor
    · rintro ⟨h1, h2⟩
      rw [h1, h2]
    · intro h
      have := List.append_inj h (by simp; omega)
      exact ⟨this.1, by simpa using this.2⟩
end Go.Proofs.YtcnligenhiiaaaaDoor
