/- Words of 32 bits as the model's values (w32: a uint32; w64: the same in a uint64), behind names that the walk does not open, and what Go's operations make of them. -/
import Derived.WalkKit
import Derived.Test.YtcnligenhiiaaaaDoorRotSpec
import Derived.Test.YtcnligenhiiaaaaDoorBytes
namespace Go
open Sha2

def w32 (x : W) : Value := .int .u32 (x.toNat : Int)
def w64 (x : W) : Value := .int .u64 (x.toNat : Int)

namespace Words

theorem wrap32 (n : Nat) : IntKind.u32.wrap (n : Int) = ((BitVec.ofNat 32 n).toNat : Int) := by
  simp [IntKind.wrap, IntKind.bits, IntKind.signed]
theorem ofInt32 (x : W) : BitVec.ofInt 32 (x.toNat : Int) = x := by
  apply BitVec.eq_of_toNat_eq
  simp
theorem xor_is (a b : Int) : Op.intBits .xor .u32 a b = pure (.int .u32 (IntKind.u32.wrap ((BitVec.ofInt 32 a ^^^ BitVec.ofInt 32 b).toNat : Int))) := rfl
theorem and_is (a b : Int) : Op.intBits .and .u32 a b = pure (.int .u32 (IntKind.u32.wrap ((BitVec.ofInt 32 a &&& BitVec.ofInt 32 b).toNat : Int))) := rfl
theorem or_is (a b : Int) : Op.intBits .or .u32 a b = pure (.int .u32 (IntKind.u32.wrap ((BitVec.ofInt 32 a ||| BitVec.ofInt 32 b).toNat : Int))) := rfl
theorem xor_is64 (a b : Int) : Op.intBits .xor .u64 a b = pure (.int .u64 (IntKind.u64.wrap ((BitVec.ofInt 64 a ^^^ BitVec.ofInt 64 b).toNat : Int))) := rfl
theorem and_is64 (a b : Int) : Op.intBits .and .u64 a b = pure (.int .u64 (IntKind.u64.wrap ((BitVec.ofInt 64 a &&& BitVec.ofInt 64 b).toNat : Int))) := rfl
theorem wrap32w (x : W) : IntKind.u32.wrap (x.toNat : Int) = (x.toNat : Int) := by
  rw [wrap32]; simp

@[go_sem] theorem add (t : TypeId) (x y : W) : binOp .add t (w32 x) (w32 y) = pure (w32 (x + y)) := by
  simp only [w32, binOp_add, Op.intArith]
  rw [← Int.natCast_add, wrap32, BitVec.toNat_add]; rfl
@[go_sem] theorem xor (t : TypeId) (x y : W) : binOp .xor t (w32 x) (w32 y) = pure (w32 (x ^^^ y)) := by
  simp only [w32, binOp_xor]
  rw [xor_is, ofInt32, ofInt32, wrap32w]
@[go_sem] theorem and (t : TypeId) (x y : W) : binOp .and t (w32 x) (w32 y) = pure (w32 (x &&& y)) := by
  simp only [w32, binOp_and]
  rw [and_is, ofInt32, ofInt32, wrap32w]
@[go_sem] theorem or (t : TypeId) (x y : W) : binOp .or t (w32 x) (w32 y) = pure (w32 (x ||| y)) := by
  simp only [w32, binOp_or]
  rw [or_is, ofInt32, ofInt32, wrap32w]
theorem ofInt8 (c : UInt8) : BitVec.ofInt 32 (c.toNat : Int) = BitVec.ofNat 32 c.toNat := by
  apply BitVec.eq_of_toNat_eq
  simp
@[go_sem] theorem or8 (t : TypeId) (x : W) (c : UInt8) : binOp .or t (w32 x) (.int .u32 (c.toNat : Int)) = pure (w32 (x ||| BitVec.ofNat 32 c.toNat)) := by
  simp only [w32, binOp_or]
  rw [or_is, ofInt32, ofInt8, wrap32w]
@[go_sem] theorem or8' (t : TypeId) (x : W) (c : UInt8) : binOp .or t (w32 x) (.int .u32 ((c.toNat : Int) % 4294967296)) = pure (w32 (x ||| BitVec.ofNat 32 c.toNat)) := by
  rw [Int.emod_eq_of_lt (by omega) (by have := c.toNat_lt; omega), or8]
theorem ones (x : W) : BitVec.ofInt 32 4294967295 ^^^ x = ~~~x := by
  have : BitVec.ofInt 32 4294967295 = BitVec.allOnes 32 := by decide
  rw [this, BitVec.allOnes_xor]
@[go_sem] theorem not (x : W) : Op.unary .xor (w32 x) = pure (w32 (~~~x)) := by
  simp only [w32, Op.unary, IntKind.signed, Bool.false_eq_true, if_false]
  rw [xor_is, show IntKind.u32.max = 4294967295 from by decide, ofInt32, ones, wrap32w]
@[go_sem] theorem shl (t : TypeId) (x : W) (k : IntKind) (n : Int) (h : 0 ≤ n) : binOp .shl t (w32 x) (.int k n) = pure (w32 (x <<< n.toNat)) := by
  simp only [w32, binOp_shl]
  rw [shift_shl_any _ _ _ _ h]
  congr 2
  have e : (x.toNat : Int) * 2 ^ min n.toNat IntKind.u32.bits = ((x.toNat * 2 ^ min n.toNat 32 : Nat) : Int) := by
    simp [IntKind.bits]
  rw [e, wrap32]
  congr 1
  simp only [BitVec.toNat_ofNat, BitVec.toNat_shiftLeft, Nat.shiftLeft_eq]
  by_cases hn : n.toNat ≤ 32
  · rw [Nat.min_eq_left hn]
  · rw [Nat.min_eq_right (by omega)]
    obtain ⟨m, hm⟩ : ∃ m, n.toNat = 32 + m := ⟨n.toNat - 32, by omega⟩
    rw [hm, Nat.pow_add, ← Nat.mul_assoc, Nat.mul_right_comm, Nat.mul_mod_left, Nat.mul_mod_left]
@[go_sem] theorem shr (t : TypeId) (x : W) (k : IntKind) (n : Int) (h : 0 ≤ n) : binOp .shr t (w32 x) (.int k n) = pure (w32 (x >>> n.toNat)) := by
  simp only [w32, binOp_shr]
  rw [shift_shr_any _ _ _ _ h]
  congr 2
  have e : (x.toNat : Int) / 2 ^ min n.toNat IntKind.u32.bits = ((x.toNat / 2 ^ min n.toNat 32 : Nat) : Int) := by
    simp [IntKind.bits]
  rw [e]
  congr 1
  simp only [BitVec.toNat_ushiftRight, Nat.shiftRight_eq_div_pow]
  by_cases hn : n.toNat ≤ 32
  · rw [Nat.min_eq_left hn]
  · rw [Nat.min_eq_right (by omega), Nat.div_eq_of_lt x.isLt, Nat.div_eq_of_lt]
    exact Nat.lt_of_lt_of_le x.isLt (Nat.pow_le_pow_right (by decide) (by omega))

/-! The same words in 64 bits: the document's own way. -/
theorem ofInt64 (x : W) : BitVec.ofInt 64 (x.toNat : Int) = x.setWidth 64 := by
  apply BitVec.eq_of_toNat_eq
  simp
theorem wrap64w (x : W) : IntKind.u64.wrap (((x.setWidth 64 : BitVec 64).toNat : Nat) : Int) = (x.toNat : Int) := by
  have := x.isLt
  simp [IntKind.wrap, IntKind.bits, IntKind.signed]
  omega
@[go_sem] theorem xor64 (t : TypeId) (x y : W) : binOp .xor t (w64 x) (w64 y) = pure (w64 (x ^^^ y)) := by
  simp only [w64, binOp_xor]
  rw [xor_is64, ofInt64, ofInt64, ← BitVec.setWidth_xor, wrap64w]
@[go_sem] theorem and64 (t : TypeId) (x y : W) : binOp .and t (w64 x) (w64 y) = pure (w64 (x &&& y)) := by
  simp only [w64, binOp_and]
  rw [and_is64, ofInt64, ofInt64, ← BitVec.setWidth_and, wrap64w]
@[go_sem] theorem not64 (t : TypeId) (x : W) : binOp .sub t (.int .u64 4294967295) (w64 x) = pure (w64 (~~~x)) := by
  simp only [w64, binOp_sub, Op.intArith]
  congr 2
  have := x.isLt
  simp only [BitVec.toNat_not]
  simp [IntKind.wrap, IntKind.bits, IntKind.signed]
  omega

/-- A sum of some words, not cut off. -/
def s64 (l : List W) : Value := .int .u64 (((l.map BitVec.toNat).sum : Nat) : Int)
theorem sum_lt (l : List W) : (l.map BitVec.toNat).sum ≤ l.length * 4294967295 := by
  induction l with
  | nil => simp
  | cons x l ih => have := x.isLt; simp; omega
@[go_sem] theorem add64 (t : TypeId) (x y : W) : binOp .add t (w64 x) (w64 y) = pure (s64 [x, y]) := by
  simp only [w64, s64, binOp_add, Op.intArith]
  congr 2
  have := x.isLt
  have := y.isLt
  simp [IntKind.wrap, IntKind.bits, IntKind.signed]
  omega
@[go_sem] theorem adds64 (t : TypeId) (l : List W) (y : W) (h : l.length < 100) : binOp .add t (s64 l) (w64 y) = pure (s64 (l ++ [y])) := by
  simp only [w64, s64, binOp_add, Op.intArith]
  congr 2
  have := sum_lt l
  have := y.isLt
  simp [IntKind.wrap, IntKind.bits, IntKind.signed]
  omega
theorem sum_mod (l : List W) (a : W) : (a.toNat + (l.map BitVec.toNat).sum) % 4294967296 = (l.foldl (· + ·) a).toNat := by
  induction l generalizing a with
  | nil => have := a.isLt; simp; omega
  | cons x l ih =>
    simp only [List.map_cons, List.sum_cons, List.foldl_cons]
    rw [← ih, BitVec.toNat_add]
    omega
@[go_sem] theorem rem64 (t : TypeId) (x : W) (l : List W) : binOp .rem t (s64 (x :: l)) (.int .u64 4294967296) = pure (w64 (l.foldl (· + ·) x)) := by
  have h := sum_mod l x
  simp only [w64, s64, binOp_rem, Op.intDiv]
  rw [if_neg (by decide)]
  congr 2
  simp only [List.map_cons, List.sum_cons]
  rw [← h]
  generalize x.toNat + (l.map BitVec.toNat).sum = n
  have e : (n : Int).tmod 4294967296 = ((n % 4294967296 : Nat) : Int) := by
    rw [Int.tmod_eq_emod_of_nonneg (by omega)]; simp
  rw [e]

/-- A word and a byte behind it, as a number. -/
def m64 (x : W) : Value := .int .u64 ((x.toNat : Int) * 256)
def mb64 (x : W) (c : UInt8) : Value := .int .u64 ((x.toNat : Int) * 256 + (c.toNat : Int))
@[go_sem] theorem mul64 (t : TypeId) (x : W) : binOp .mul t (w64 x) (.int .u64 256) = pure (m64 x) := by
  simp only [w64, m64, binOp_mul, Op.intArith]
  congr 2
  have := x.isLt
  simp [IntKind.wrap, IntKind.bits, IntKind.signed]
  omega
@[go_sem] theorem addb64 (t : TypeId) (x : W) (c : UInt8) : binOp .add t (m64 x) (.int .u64 (c.toNat : Int)) = pure (mb64 x c) := by
  simp only [m64, mb64, binOp_add, Op.intArith]
  congr 2
  have := x.isLt
  have := c.toNat_lt
  simp [IntKind.wrap, IntKind.bits, IntKind.signed]
  omega
@[go_sem] theorem addb64' (t : TypeId) (x : W) (c : UInt8) : binOp .add t (m64 x) (.int .u64 ((c.toNat : Int) % 18446744073709551616)) = pure (mb64 x c) := by
  rw [Int.emod_eq_of_lt (by omega) (by have := c.toNat_lt; omega), addb64]
@[go_sem] theorem addb64'' (t : TypeId) (x : W) (c : UInt8) : binOp .add t (m64 x) (.int .u64 (IntKind.u64.wrap (c.toNat : Int))) = pure (mb64 x c) := by
  have e : IntKind.u64.wrap (c.toNat : Int) = (c.toNat : Int) := by
    have := c.toNat_lt
    simp [IntKind.wrap, IntKind.bits, IntKind.signed]
    omega
  rw [e, addb64]
@[go_sem] theorem or8'' (t : TypeId) (x : W) (c : UInt8) : binOp .or t (w32 x) (.int .u32 (IntKind.u32.wrap (c.toNat : Int))) = pure (w32 (x ||| BitVec.ofNat 32 c.toNat)) := by
  have e : IntKind.u32.wrap (c.toNat : Int) = (c.toNat : Int) := by
    have := c.toNat_lt
    simp [IntKind.wrap, IntKind.bits, IntKind.signed]
    omega
  rw [e, or8]
@[go_sem] theorem conv32_64 {P : Program} (src dst : TypeId) (x : W) (W : World) (hs : P.underlying src = some (.int .u32)) (hd : P.underlying dst = some (.int .u64)) :
    (convert src dst (w32 x)).run P W = .ok (w64 x) W := by
  have := x.isLt
  simp [convert, run_underlying hs, run_underlying hd, w32, w64, Conv.intToInt, IntKind.wrap, IntKind.bits, IntKind.signed]
  omega
@[go_sem] theorem conv64_32 {P : Program} (src dst : TypeId) (x : W) (W : World) (hs : P.underlying src = some (.int .u64)) (hd : P.underlying dst = some (.int .u32)) :
    (convert src dst (w64 x)).run P W = .ok (w32 x) W := by
  have := x.isLt
  simp [convert, run_underlying hs, run_underlying hd, w32, w64, Conv.intToInt, IntKind.wrap, IntKind.bits, IntKind.signed]
  omega
@[go_sem] theorem conv32_8 {P : Program} (src dst : TypeId) (x : W) (W : World) (hs : P.underlying src = some (.int .u32)) (hd : P.underlying dst = some (.int .u8)) :
    (convert src dst (w32 x)).run P W = .ok (b8 (UInt8.ofNat x.toNat)) W := by
  simp [b8, convert, run_underlying hs, run_underlying hd, w32, Conv.intToInt, IntKind.wrap, IntKind.bits, IntKind.signed]
theorem mb64_eq (x : W) (c : UInt8) (h : x.toNat < 16777216) : mb64 x c = w64 (x <<< 8 ||| BitVec.ofNat 32 c.toNat) := by
  simp only [mb64, w64]
  rw [byte_in x c h]
  simp
/-- A row of words. -/
def row32 (l : List W) : Array Value := (l.map w32).toArray
def row64 (l : List W) : Array Value := (l.map w64).toArray
@[go_sem] theorem row32_get (l : List W) (i : Nat) : (row32 l)[i]? = (l[i]?).map w32 := by simp [row32]
@[go_sem] theorem row64_get (l : List W) (i : Nat) : (row64 l)[i]? = (l[i]?).map w64 := by simp [row64]
@[go_sem] theorem row32_elem (l : List W) (i : Nat) (h : i < (row32 l).size) : (row32 l)[i] = w32 (l[i]'(by simpa [row32] using h)) := by simp [row32]
@[go_sem] theorem row64_elem (l : List W) (i : Nat) (h : i < (row64 l).size) : (row64 l)[i] = w64 (l[i]'(by simpa [row64] using h)) := by simp [row64]
@[go_sem] theorem row32_size (l : List W) : (row32 l).size = l.length := by simp [row32]
@[go_sem] theorem row64_size (l : List W) : (row64 l).size = l.length := by simp [row64]
@[go_sem] theorem row32_set (l : List W) (i : Nat) (x : W) : (row32 l).setIfInBounds i (w32 x) = row32 (l.set i x) := by
  simp [row32, List.map_set]
@[go_sem] theorem row64_set (l : List W) (i : Nat) (x : W) : (row64 l).setIfInBounds i (w64 x) = row64 (l.set i x) := by
  simp [row64, List.map_set]
@[go_sem] theorem row32_one (l : List W) : Ext.oneCells (row32 l) = true := by
  simp only [Ext.oneCells, row32, List.all_toArray, List.all_map]
  exact List.all_eq_true.2 (fun _ _ => rfl)
@[go_sem] theorem row64_one (l : List W) : Ext.oneCells (row64 l) = true := by
  simp only [Ext.oneCells, row64, List.all_toArray, List.all_map]
  exact List.all_eq_true.2 (fun _ _ => rfl)
@[go_sem] theorem w32_one (x : W) : (w32 x).oneCell' = true := by simp only [w32, Value.oneCell']
@[go_sem] theorem w64_one (x : W) : (w64 x).oneCell' = true := by simp only [w64, Value.oneCell']
@[go_sem ↓] theorem w32_cells (x : W) : (w32 x).cells = #[w32 x] := by simp only [w32, Value.cells]
@[go_sem ↓] theorem w64_cells (x : W) : (w64 x).cells = #[w64 x] := by simp only [w64, Value.cells]
@[go_sem ↓] theorem s64_cells (l : List W) : (s64 l).cells = #[s64 l] := by simp only [s64, Value.cells]
@[go_sem] theorem row32_spliced (a b : List W) (o p n : Nat) : Ext.spliced (row32 a) o (row32 b) p n = row32 (a.take o ++ (b.drop p).take n ++ a.drop (o + n)) := by
  simp [Ext.spliced, row32, List.map_take, List.map_drop]
@[go_sem] theorem row64_spliced (a b : List W) (o p n : Nat) : Ext.spliced (row64 a) o (row64 b) p n = row64 (a.take o ++ (b.drop p).take n ++ a.drop (o + n)) := by
  simp [Ext.spliced, row64, List.map_take, List.map_drop]
@[go_sem] theorem list_mk (a b c d e f g h : W) : St.list ⟨a, b, c, d, e, f, g, h⟩ = [a, b, c, d, e, f, g, h] := by simp only [St.list]
/-- A word of a row. -/
def at0 (l : List W) (i : Nat) : W := l.getD i 0
@[go_sem] theorem index32 {P : Program} (t : TypeId) (l : List W) (k : IntKind) (i : Int) (W : World) (h : P.underlying t = some (.array (P.arrayLen t) (P.elem t)))
    (hs : (sizeOf (P.elem t)).run P W = .ok 1 W) (ha : (isAgg (P.elem t)).run P W = .ok false W) (hl : l.length = P.arrayLen t) (h0 : 0 ≤ i) (hi : i < P.arrayLen t) :
    (Instr.index t (.agg (row32 l)) (.int k i)).run P W = .ok (w32 (at0 l i.toNat)) W := by
  have hlt : i.toNat < l.length := by omega
  have e : (row32 l)[i.toNat]? = some (w32 (at0 l i.toNat)) := by
    rw [row32_get, List.getElem?_eq_getElem hlt]
    simp only [Option.map_some, at0, List.getD_eq_getElem?_getD, List.getElem?_eq_getElem hlt, Option.getD_some]
  simp [Instr.index, asIntOf, run_underlying h, h0, hi, hs, part, ha, e]
theorem getD_of {l : List W} {i : Nat} (h : i < l.length) : l[i]? = some (l.getD i 0) := by
  rw [List.getD_eq_getElem?_getD, List.getElem?_eq_getElem h, Option.getD_some]

end Words
end Go
