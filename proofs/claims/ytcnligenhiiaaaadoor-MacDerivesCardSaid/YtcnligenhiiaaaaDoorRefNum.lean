/- oblivionref01.Number: a number as so many bytes, the lowest first. -/
import Derived.Test.YtcnligenhiiaaaaDoorMacSpec
import Derived.Test.YtcnligenhiiaaaaDoorOwn
import Derived.Test.YtcnligenhiiaaaaDoorFill
namespace Go.Proofs.YtcnligenhiiaaaaDoor
open Go.RowKit Sha2 Words Bytes

set_option maxHeartbeats 1000000 in
set_option maxRecDepth 100000 in
theorem rnumber_any (n wd : Nat) (hn : n < 18446744073709551616) (h1 : 1 ≤ wd) (h8 : wd ≤ 8) (hf : n < 256 ^ wd) (w : World) :
    Calls Tryd.prog 26 #[.int .u64 (n : Int), .int .i64 (wd : Int)] w fun e w' => e = .returned (.tuple #[.string (str (le n wd)), .int .i64 0]) ∧ w.grew w' := by
  refine Ext.entered w ?_
  obtain ⟨i8, hi8, hz0, hz1, hz2⟩ := info_parts info_u8
  have HI := Kept.mk (And.intro hi8 (And.intro hz0 (And.intro hz1 hz2)))
  clear hi8 hz0 hz1 hz2
  have HF := Kept.mk hf
  have HN := Kept.mk hn
  clear hf hn
  go_enter Tryd.func26, Tryd.ntmps26
  go_wp2_with fail
  rw [show decide ((wd : Int) < 1) = false by rw [decide_eq_false_iff_not]; omega, show decide (8 < (wd : Int)) = false by rw [decide_eq_false_iff_not]; omega, show (false || false) = false from rfl]
  go_loopw [0, 6, 7] (fun x b i wr => ∃ (j : Nat) (l : List Obj) (d : Nat), j ≤ wd ∧ x = .int .u64 ((n / 256 ^ j : Nat) : Int) ∧ Sl w 0 l 5 1 b j ((le n j).map b8) ∧ i = .int .i64 j ∧ wr = w.ext l d) (fun _ _ i _ => wd - (intOf i).toNat)
  case atStart => exact ⟨0, _, _, by omega, by simp, Sl.full (n := 0) 0 #[] _ _ rfl (by decide) rfl, rfl, rfl⟩
  case round =>
    obtain ⟨j, l, d, hj, rfl, hsl, rfl, rfl⟩ := hrel
    obtain ⟨a, c, rfl⟩ := hsl.slice
    have HSL := Kept.mk hsl
    clear hsl
    by_cases hlt : j < wd
    · have hT := le_succ n j
      have hP : n / 256 ^ (j + 1) = n / 256 ^ j / 256 := by rw [Nat.pow_succ, Nat.div_div_eq_div_mul]
      have hm : n / 256 ^ j < 18446744073709551616 := Nat.lt_of_le_of_lt (Nat.div_le_self _ _) HN.out
      have HT := Kept.mk hT
      have HP := Kept.mk hP
      clear hT hP
      generalize n / 256 ^ j = x at *
      go_wp2_with (first | (at_builtin; refine Sl.push (l0 := []) (l := l ++ [Obj.cells #[Value.int .u8 ((x : Int) % 256)] 5]) (d := d) rfl _ _ 29 rfl rfl 5 i8 (.int .u8 0) 1 1 Tryd.underlying29 HI.out.1 HI.out.2.1 HI.out.2.2.1 HI.out.2.2.2 rfl Nat.one_pos _ j _ rfl (HSL.out.more _) _ 1 1 [Value.int .u8 ((x : Int) % 256)] rfl rfl ?h1 ?h2 ?h3 ?h4 ?h5 ?h6) | fail)
      case h2 => simp [Value.oneCell']
      case h3 => decide
      case h4 => unfold maxLen; omega
      case h5 => omega
      case h1 => exact Sl.newest (cur := #[Value.int .u8 ((x : Int) % 256)]) rfl
      intro v' l' d' hsl'
      go_wp2_with fail
      go_roundw
      case rel =>
        refine ⟨j + 1, l', d', by omega, by rw [HP.out]; go_num, ?_, by go_num, rfl⟩
        rw [HT.out, List.map_append, List.map_cons, List.map_nil, ← byte_of ((x : Int) % 256) x (by omega)]
        exact hsl'
      case measure => simp [intOf]; omega
    · obtain rfl : j = wd := by omega
      have hz : n / 256 ^ j = 0 := Nat.div_eq_of_lt HF.out
      rw [hz]
      have hstr := fun P (src dst : Nat) hs hd he => Sl.to_string (P := P) (d := d) src dst (le n j) hs hd he HSL.out
      clear hz
      go_wp2_with fail
      go_ret2
      exact ⟨rfl, World.grew_ext _ _ _⟩
end Go.Proofs.YtcnligenhiiaaaaDoor
