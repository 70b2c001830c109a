/- oblivionref02.Fill: what is filled up behind so many bytes, the document's way. -/
import Derived.Test.YtcnligenhiiaaaaDoorRefTurn
import Derived.Test.YtcnligenhiiaaaaDoorOwn
import Derived.Test.YtcnligenhiiaaaaDoorFill
namespace Go.Proofs.YtcnligenhiiaaaaDoor
open Go.RowKit Sha2 Words Bytes

def sliceLen : Value → Nat
  | .slice _ n _ => n
  | _ => 0
def grownN (k : Nat) : List UInt8 := 128 :: List.replicate k 0

set_option maxHeartbeats 1000000 in
set_option maxRecDepth 100000 in
theorem rfill_any (n : Nat) (hn : n < 1073741824) (w : World) :
    Calls Tryd.prog 35 #[.int .i64 (n : Int)] w fun e w' => e = .returned (.string (str (fill n))) ∧ w.grew w' := by
  refine Ext.entered w ?_
  obtain ⟨z, hz⟩ : ∃ z : Nat, z = 63 - (n + 8) % 64 := ⟨_, rfl⟩
  have hz63 : z < 64 := by omega
  have HZ := Kept.mk hz
  clear hz
  obtain ⟨i8, hi8, hz0, hz1, hz2⟩ := info_parts info_u8
  have HI := Kept.mk (And.intro hi8 (And.intro hz0 (And.intro hz1 hz2)))
  clear hi8 hz0 hz1 hz2
  go_enter Tryd.func35, Tryd.ntmps35
  go_wp2_with fail
  go_loopw [3] (fun b wr => ∃ (k : Nat) (l : List Obj) (d : Nat), k ≤ z ∧ Sl w 0 l 5 1 b (k + 1) ((grownN k).map b8) ∧ wr = w.ext l d) (fun b _ => 64 - sliceLen b)
  case atStart => exact ⟨0, _, _, by omega, Sl.full (n := 1) 0 #[.int .u8 128] _ _ rfl (by decide) rfl, rfl⟩
  case round =>
    obtain ⟨k, l, d, hk, hsl, rfl⟩ := hrel
    obtain ⟨a, c, rfl⟩ := hsl.slice
    have HSL := Kept.mk hsl
    clear hsl
    by_cases hlt : k < z
    · have hc : ((n : Int) + ((k : Int) + 1) + 8) % 64 ≠ 0 := by
        have := HZ.out
        omega
      go_wp2_with (first | (at_builtin; (refine Sl.push (l0 := []) (l := l ++ [Obj.cells #[Value.int .u8 0] 5]) (d := d) rfl _ _ 29 rfl rfl 5 i8 (.int .u8 0) 1 1 Tryd.underlying29 HI.out.1 HI.out.2.1 HI.out.2.2.1 HI.out.2.2.2 rfl Nat.one_pos _ (k + 1) ((grownN k).map b8) rfl (HSL.out.more _) _ 1 1 [.int .u8 0] rfl rfl ?h1 ?h2 ?h3 ?h4 ?h5 ?h6)) | fail)
      case h1 => exact Sl.newest (cur := #[.int .u8 0]) rfl
      case h2 => simp [Value.oneCell']
      case h3 => decide
      case h4 => unfold maxLen; omega
      case h5 => omega
      intro v' l' d' hsl'
      go_wp2
      refine ⟨⟨k + 1, l', d', by omega, ?_, rfl⟩, ?_⟩
      · have e : (grownN k).map b8 ++ [Value.int .u8 0] = (grownN (k + 1)).map b8 := by
          simp only [grownN, List.replicate_succ', List.map_cons, List.map_append, List.cons_append]
          rfl
        rw [← e]
        exact hsl'
      · obtain ⟨a', c', rfl⟩ := hsl'.slice
        simp only [sliceLen]
        omega
    · obtain rfl : k = z := by omega
      have hc : ((n : Int) + ((k : Int) + 1) + 8) % 64 = 0 := by
        have := HZ.out
        omega
      go_wp2_with fail
      clear hc
      go_loopw [3, 4] (fun b i wr => ∃ (j : Nat) (l : List Obj) (d : Nat), j ≤ 8 ∧ Sl w 0 l 5 1 b (k + 1 + j) ((grownN k ++ (be8 (8 * n)).take j).map b8) ∧ i = .int .i64 (7 - (j : Int)) ∧ wr = w.ext l d) (fun _ i _ => (intOf i + 1).toNat)
      case atStart => exact ⟨0, _, _, by omega, by rw [List.take_zero, List.append_nil]; exact HSL.out, rfl, rfl⟩
      case round =>
        obtain ⟨j, l, d, hj, hsl, rfl, rfl⟩ := hrel
        obtain ⟨a, c, rfl⟩ := hsl.slice
        have HSL := Kept.mk hsl
        clear hsl
        by_cases hlt : j < 8
        · have hb : (be8 (8 * n))[j]? = some (UInt8.ofNat (8 * n / 256 ^ (7 - j))) := by
            have := be8_at (8 * n) (7 - j) (by omega)
            rwa [show 7 - (7 - j) = j by omega] at this
          have htk : (be8 (8 * n)).take (j + 1) = (be8 (8 * n)).take j ++ [UInt8.ofNat (8 * n / 256 ^ (7 - j))] := by
            rw [List.take_add_one, hb]; rfl
          have HT := Kept.mk htk
          have hpw : 8 * n / 2 ^ (8 * (7 - j)) = 8 * n / 256 ^ (7 - j) := by rw [Nat.pow_mul]
          have HP := Kept.mk hpw
          clear hb htk hpw
          go_wp2_with fail
          rw [show ((n : Int) * 8) = ((8 * n : Nat) : Int) by omega, show (8 * (7 - (j : Int))) = ((8 * (7 - j) : Nat) : Int) by omega]
          refine (right_any (8 * n) (8 * (7 - j)) (by omega) (by omega) _).mono ?_
          rintro e w' ⟨rfl, rfl⟩
          rw [HP.out]
          clear HP
          generalize 8 * n / 256 ^ (7 - j) = x at *
          go_wp2_with (first | (at_builtin; refine Sl.push (l0 := []) (l := l ++ [Obj.cells #[Value.int .u8 ((x : Int) % 256)] 5]) (d := d) rfl _ _ 29 rfl rfl 5 i8 (.int .u8 0) 1 1 Tryd.underlying29 HI.out.1 HI.out.2.1 HI.out.2.2.1 HI.out.2.2.2 rfl Nat.one_pos _ (k + 1 + j) _ rfl (HSL.out.more _) _ 1 1 [.int .u8 ((x : Int) % 256)] rfl rfl ?k1 ?k2 ?k3 ?k4 ?k5 ?k6) | fail)
          case k1 => exact Sl.newest (cur := #[.int .u8 ((x : Int) % 256)]) rfl
          case k2 => simp [Value.oneCell']
          case k3 => decide
          case k4 => unfold maxLen; omega
          case k5 => omega
          intro v' l' d' hsl'
          go_wp2
          go_roundw
          case rel =>
            refine ⟨j + 1, l', d', by omega, ?_, by go_num, rfl⟩
            have e : (grownN k ++ (be8 (8 * n)).take (j + 1)).map b8 = List.map b8 (grownN k) ++ (List.take j (List.map b8 (be8 (8 * n))) ++ [Value.int IntKind.u8 ((x : Int) % 256)]) := by
              rw [HT.out, byte_of ((x : Int) % 256) x (by omega)]
              simp
            rw [e]
            exact hsl'
          case measure => simp [intOf]; omega
        · obtain rfl : j = 8 := by omega
          have hf : grownN k ++ (be8 (8 * n)).take 8 = fill n := by
            rw [List.take_of_length_le (by rw [be8_length]; omega), HZ.out]
            rfl
          rw [hf] at HSL
          have hstr := fun P (src dst : Nat) hs hd he => Sl.to_string (P := P) (d := d) src dst (fill n) hs hd he HSL.out
          clear hf
          go_wp2_with fail
          go_ret
          exact ⟨rfl, World.grew_ext _ _ _⟩
end Go.Proofs.YtcnligenhiiaaaaDoor
