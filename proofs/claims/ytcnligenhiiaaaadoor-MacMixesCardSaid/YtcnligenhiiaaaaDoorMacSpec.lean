/- Plain Lean: tags as lists of bytes; numbers as bytes, the lowest first. No program in sight. -/
import Derived.Test.YtcnligenhiiaaaaDoorShaSpec
namespace Sha2

/-- A key of at most 64 bytes, zeros behind it, each byte mixed. -/
def mixed (k : List UInt8) (by_ : UInt8) : List UInt8 := (k ++ List.replicate (64 - k.length) 0).map (· ^^^ by_)
/-- A long key is as its sum. -/
def keyOf (k : List UInt8) : List UInt8 := if k.length > 64 then sum k else k
def mac (k s : List UInt8) : List UInt8 := sum (mixed (keyOf k) 92 ++ sum (mixed (keyOf k) 54 ++ s))
/-- The lowest w bytes of a number, the lowest first. -/
def le (n w : Nat) : List UInt8 := (List.range w).map fun i => UInt8.ofNat (n / 256 ^ i)
def derive (k label : List UInt8) (n : Nat) : List UInt8 := (mac k (UInt8.ofNat label.length :: (label ++ le n 8))).take 16

theorem mixed_length (k : List UInt8) (b : UInt8) (h : k.length ≤ 64) : (mixed k b).length = 64 := by simp [mixed]; omega
theorem keyOf_length (k : List UInt8) : (keyOf k).length ≤ 64 := by
  unfold keyOf
  split
  · rw [sum_length]; omega
  · omega
theorem mac_length (k s : List UInt8) : (mac k s).length = 32 := sum_length _
theorem le_length (n w : Nat) : (le n w).length = w := by simp [le]
theorem le_succ (n w : Nat) : le n (w + 1) = le n w ++ [UInt8.ofNat (n / 256 ^ w)] := by simp [le, List.range_succ]
theorem derive_length (k label : List UInt8) (n : Nat) : (derive k label n).length = 16 := by rw [derive, List.length_take, mac_length]; rfl
theorem mixed_at (k : List UInt8) (b : UInt8) (i : Nat) (h : i < 64) : (mixed k b)[i]? = some (k.getD i 0 ^^^ b) := by
  unfold mixed
  rw [List.getElem?_map]
  by_cases hi : i < k.length
  · rw [List.getElem?_append_left hi, List.getD_eq_getElem?_getD, List.getElem?_eq_getElem hi]; rfl
  · rw [List.getElem?_append_right (by omega), List.getElem?_replicate, if_pos (by omega), List.getD_eq_getElem?_getD, List.getElem?_eq_none (by omega)]; rfl
theorem mixed_take (k : List UInt8) (b : UInt8) (i : Nat) (h : i < 64) : (mixed k b).take (i + 1) = (mixed k b).take i ++ [k.getD i 0 ^^^ b] := by
  rw [List.take_add_one, mixed_at k b i h]; rfl
end Sha2
