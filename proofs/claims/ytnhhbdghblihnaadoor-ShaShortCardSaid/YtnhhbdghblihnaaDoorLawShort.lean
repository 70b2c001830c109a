/- oblivionlaw02.ShaShort holds. -/
import Derived.Test.YtnhhbdghblihnaaDoorShown
import Derived.Test.YtnhhbdghblihnaaDoorGrow
namespace Go.Proofs.YtnhhbdghblihnaaDoor
open Go.RowKit Sha2 Words Bytes

theorem take_same (a b : List UInt8) (k : Nat) (x y : UInt8) (hx : a[k]? = some x) (hy : b[k]? = some y) : decide (a.take (k + 1) = b.take (k + 1)) = (decide (a.take k = b.take k) && (x == y)) := by
  obtain ⟨ha, rfl⟩ := List.getElem?_eq_some_iff.1 hx
  obtain ⟨hb, rfl⟩ := List.getElem?_eq_some_iff.1 hy
  rw [Bool.eq_iff_iff, Bool.and_eq_true, decide_eq_true_iff, decide_eq_true_iff, beq_iff_eq, List.take_succ_eq_append_getElem ha, List.take_succ_eq_append_getElem hb]
  have hl : (a.take k).length = (b.take k).length := by rw [List.length_take, List.length_take]; omega
  exact ⟨fun h => ⟨(List.append_inj h hl).1, by simpa using (List.append_inj h hl).2⟩, fun h => by rw [h.1, h.2]⟩
set_option maxRecDepth 100000 in
theorem short_holds (a b : List UInt8) (ha : a.length = 32) (hb : b.length = 32) (w : World) (hK : Konst w) :
    Calls Tryd.prog 8 #[.agg (row8 a), .agg (row8 b)] w fun e w' => e = .returned (.bool true) ∧ w.grew w' := by
  refine Ext.entered w ?_
  have HK := Kept.mk hK
  clear hK
  go_enter Tryd.func8, Tryd.ntmps8
  go_wp2_with fail
  refine (short_any a ha _).mono ?_
  rintro e w' ⟨rfl, l1, d1, rfl⟩
  rw [Ext.ext]
  go_wp2_with fail
  refine (short_any b hb _).mono ?_
  rintro e w' ⟨rfl, l2, d2, rfl⟩
  rw [Ext.ext]
  simp only [List.cons_append, List.append_assoc, List.nil_append]
  go_wp2_with fail
  go_loopw [7, 8] (fun s i wr => ∃ (k d : Nat), k ≤ 16 ∧ s = .bool (decide (a.take k = b.take k)) ∧ i = .int .i64 k ∧ wr = w.ext (Obj.cells (row8 a) 24 :: Obj.cells (row8 b) 24 :: (l1 ++ Obj.cells (row8 (a.take 16)) 42 :: (l2 ++ [Obj.cells (row8 (b.take 16)) 42]))) d) (fun _ i _ => 16 - (intOf i).toNat)
  case atStart => exact ⟨0, d2, by omega, by simp, rfl, rfl⟩
  case round =>
    obtain ⟨k, d, hk, rfl, rfl, rfl⟩ := hrel
    by_cases hlt : k < 16
    · obtain ⟨x, hx⟩ : ∃ x, a[k]? = some x := ⟨_, List.getElem?_eq_getElem (by omega)⟩
      obtain ⟨y, hy⟩ : ∃ y, b[k]? = some y := ⟨_, List.getElem?_eq_getElem (by omega)⟩
      clear ha hb
      by_cases he : a.take k = b.take k
      · rw [decide_eq_true he]
        go_wp2_with fail
        go_quiet (fail)
        go_wp2_with fail
        refine ⟨⟨k + 1, d + nq, by omega, by rw [take_same a b k x y hx hy, decide_eq_true he, Bool.true_and], by go_num, rfl⟩, by simp [intOf]; omega⟩
      · rw [decide_eq_false he]
        go_wp2_with fail
        go_quiet (fail)
        go_wp2_with fail
        refine ⟨⟨k + 1, d + nq, by omega, by rw [take_same a b k x y hx hy, decide_eq_false he, Bool.false_and], by go_num, rfl⟩, by simp [intOf]; omega⟩
    · obtain rfl : k = 16 := by omega
      have hq : ((a.take 16 == b.take 16) = decide (a.take 16 = b.take 16)) := by rw [Bool.eq_iff_iff]; simp
      go_wp2_with fail
      refine (shown_any _ (HK.out.ext _ _)).mono ?_
      rintro e w' ⟨rfl, l3, d3, rfl⟩
      go_wp2_with fail
      go_ret
      exact ⟨rfl, by rw [Ext.ext]; exact World.grew_ext _ _ _⟩
end Go.Proofs.YtnhhbdghblihnaaDoor
