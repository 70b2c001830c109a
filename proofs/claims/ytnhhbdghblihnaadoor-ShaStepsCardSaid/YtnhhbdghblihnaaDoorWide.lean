/- oblivionref02.Wide, Narrow: words of 32 bits as wider ones, and back. -/
import Derived.Test.YtnhhbdghblihnaaDoorRefK
namespace Go.Proofs.YtnhhbdghblihnaaDoor
open Go.RowKit Sha2 Words

theorem take_put (l : List W) (k n : Nat) (x : W) (hx : l[k]? = some x) (hn : k < n) : (l.take k ++ List.replicate (n - k) 0).set k x = l.take (k + 1) ++ List.replicate (n - (k + 1)) 0 := by
  have hk : k < l.length := (List.getElem?_eq_some_iff.1 hx).1
  have hxe : l[k] = x := (List.getElem?_eq_some_iff.1 hx).2
  have hlen : (l.take k).length = k := by rw [List.length_take]; omega
  rw [List.set_append_right _ _ (by omega), hlen, show k - k = 0 by omega, show n - k = (n - (k + 1)) + 1 by omega, List.replicate_succ, List.set_cons_zero, List.take_succ_eq_append_getElem hk, hxe]
  simp

set_option maxRecDepth 100000 in
theorem wide_any (l : List W) (hl : l.length = 8) (w : World) :
    Calls Tryd.prog 17 #[.agg (row32 l)] w fun e w' => e = .returned (.agg (row64 l)) ∧ w.grew w' := by
  refine Ext.entered w ?_
  go_enter Tryd.func17, Tryd.ntmps17
  go_wp2
  go_loopw [4] (fun i wr => ∃ (k d : Nat), k ≤ 8 ∧ i = .int .i64 k ∧ wr = w.ext [.cells (row32 l) 30, .cells zero8w 34, .cells (row64 (l.take k ++ List.replicate (8 - k) 0)) 34] d) (fun i _ => 8 - (intOf i).toNat)
  case atStart => exact ⟨0, w.drawn, by omega, rfl, rfl⟩
  case round =>
    obtain ⟨k, d, hk, rfl, rfl⟩ := hrel
    by_cases hlt : k < 8
    · obtain ⟨x, hx⟩ : ∃ x, l[k]? = some x := ⟨_, getD_of (by omega)⟩
      have hput := take_put l k 8 x hx hlt
      have hpl : (l.take k ++ List.replicate (8 - k) (0 : W)).length = 8 := by simp; omega
      obtain ⟨y, hy⟩ : ∃ y, (l.take k ++ List.replicate (8 - k) (0 : W))[k]? = some y := ⟨_, getD_of (by omega)⟩
      have HP := Kept.mk hput
      clear hput hpl hl
      generalize l.take k ++ List.replicate (8 - k) (0 : W) = p at *
      go_wp2
      go_roundw
      case rel => exact ⟨k + 1, d, by omega, by go_num, by rw [← HP.out]⟩
      case measure => simp [intOf]; omega
    · obtain rfl : k = 8 := by omega
      have e : l.take 8 ++ List.replicate (8 - 8) (0 : W) = l := by simp [List.take_of_length_le (show l.length ≤ 8 by omega)]
      rw [e]
      clear e
      go_wp2
      refine bodyPost_ret (v := .agg (row64 l)) ?_ rfl ?_
      · exact Ext.result_row (k := 1) rfl _ rfl _ _ _ rfl (by simp) (by simp [row64_size, hl])
      · exact ⟨rfl, World.grew_ext _ _ _⟩

set_option maxRecDepth 100000 in
theorem narrow_any (l : List W) (hl : l.length = 8) (w : World) :
    Calls Tryd.prog 15 #[.agg (row64 l)] w fun e w' => e = .returned (.agg (row32 l)) ∧ w.grew w' := by
  refine Ext.entered w ?_
  go_enter Tryd.func15, Tryd.ntmps15
  go_wp2
  go_loopw [4] (fun i wr => ∃ (k d : Nat), k ≤ 8 ∧ i = .int .i64 k ∧ wr = w.ext [.cells (row64 l) 34, .cells zero8 30, .cells (row32 (l.take k ++ List.replicate (8 - k) 0)) 30] d) (fun i _ => 8 - (intOf i).toNat)
  case atStart => exact ⟨0, w.drawn, by omega, rfl, rfl⟩
  case round =>
    obtain ⟨k, d, hk, rfl, rfl⟩ := hrel
    by_cases hlt : k < 8
    · obtain ⟨x, hx⟩ : ∃ x, l[k]? = some x := ⟨_, getD_of (by omega)⟩
      have hput := take_put l k 8 x hx hlt
      have hpl : (l.take k ++ List.replicate (8 - k) (0 : W)).length = 8 := by simp; omega
      obtain ⟨y, hy⟩ : ∃ y, (l.take k ++ List.replicate (8 - k) (0 : W))[k]? = some y := ⟨_, getD_of (by omega)⟩
      have HP := Kept.mk hput
      clear hput hpl hl
      generalize l.take k ++ List.replicate (8 - k) (0 : W) = p at *
      go_wp2
      go_roundw
      case rel => exact ⟨k + 1, d, by omega, by go_num, by rw [← HP.out]⟩
      case measure => simp [intOf]; omega
    · obtain rfl : k = 8 := by omega
      have e : l.take 8 ++ List.replicate (8 - 8) (0 : W) = l := by simp [List.take_of_length_le (show l.length ≤ 8 by omega)]
      rw [e]
      clear e
      go_wp2
      refine bodyPost_ret (v := .agg (row32 l)) ?_ rfl ?_
      · exact Ext.result_row (k := 1) rfl _ rfl _ _ _ rfl (by simp) (by simp [row32_size, hl])
      · exact ⟨rfl, World.grew_ext _ _ _⟩
end Go.Proofs.YtnhhbdghblihnaaDoor
