/- oblivionlaw03.MacParts holds. -/
import Derived.Test.YtcnligenhiiaaaaDoorMacShown
namespace Go.Proofs.YtcnligenhiiaaaaDoor
open Go.RowKit Sha2 Words Bytes

set_option maxRecDepth 100000 in
theorem mparts_holds (key : List UInt8) (xs : List (List UInt8)) (bk o c : Nat) (w : World) (hK : Konst w) (hcells : ∀ j, j < xs.length → w.cell? ⟨bk, o + j, none⟩ = some (.string (str (xs.getD j [])))) (hbk : bk < w.heap.size) (hc : xs.length ≤ c) :
    Calls Tryd.prog 3 #[.string (str key), .slice (some ⟨bk, o, none⟩) xs.length c] w fun e w' => e = .returned (.bool true) ∧ w.grew w' := by
  refine Ext.entered w ?_
  have hstrs : Strs w (.slice (some ⟨bk, o, none⟩) xs.length c) xs := .inr ⟨bk, o, c, rfl, hc, hbk, hcells⟩
  have HK := Kept.mk hK
  have HC := Kept.mk hcells
  have HS := Kept.mk hstrs
  clear hK hcells hstrs
  go_enter Tryd.func3, Tryd.ntmps3
  by_cases hkey : 300 < key.length
  · go_wp2_with fail
    refine (mshown_any _ (HK.out.ext _ _)).mono ?_
    rintro e w' ⟨rfl, l1, d1, rfl⟩
    go_wp2_with fail
    go_ret
    exact ⟨rfl, by rw [Ext.ext]; exact World.grew_ext _ _ _⟩
  by_cases hlen : 30 < xs.length
  · go_wp2_with fail
    refine (mshown_any _ (HK.out.ext _ _)).mono ?_
    rintro e w' ⟨rfl, l1, d1, rfl⟩
    go_wp2_with fail
    go_ret
    exact ⟨rfl, by rw [Ext.ext]; exact World.grew_ext _ _ _⟩
  · go_wp2_with fail
    refine (mshown_any _ (HK.out.ext _ _)).mono ?_
    rintro e w' ⟨rfl, l1, d1, rfl⟩
    rw [Ext.ext, List.nil_append]
    go_wp2_with fail
    rw [show decide (300 < (key.length : Int)) = false by rw [decide_eq_false_iff_not]; omega, show decide (30 < (xs.length : Int)) = false by rw [decide_eq_false_iff_not]; omega, show (false || false) = false from rfl]
    go_loopw [5, 6] (fun s i wr => ∃ (k d : Nat), k ≤ xs.length ∧ s = .string (str (xs.take k).flatten) ∧ i = .int .i64 k ∧ (xs.take k).flatten.length ≤ 200 * k ∧ wr = w.ext l1 d) (fun _ i _ => xs.length - (intOf i).toNat)
    case atStart => exact ⟨0, d1, by omega, rfl, rfl, by simp, rfl⟩
    case round =>
      obtain ⟨k, d, hk, rfl, rfl, hfl, rfl⟩ := hrel
      by_cases hlt : k < xs.length
      · obtain ⟨x, hx⟩ : ∃ x, xs[k]? = some x := ⟨_, List.getElem?_eq_getElem hlt⟩
        have hcell : w.cell? ⟨bk, o + k, none⟩ = some (.string (str x)) := by
          rw [HC.out k hlt, List.getD_eq_getElem?_getD, hx]; rfl
        have htk : (xs.take (k + 1)).flatten = (xs.take k).flatten ++ x := by
          rw [List.take_add_one, hx]; simp
        have HT := Kept.mk htk
        clear htk hx
        generalize hq : (xs.take k).flatten = q at *
        clear hq
        by_cases hxl : 200 < x.length
        · go_wp2_with fail
          refine (mshown_any _ (HK.out.ext _ _)).mono ?_
          rintro e w' ⟨rfl, l2, d2, rfl⟩
          go_wp2_with fail
          go_ret
          exact ⟨rfl, by rw [Ext.ext]; exact World.grew_ext _ _ _⟩
        · have hadd : ∀ W, (Op.stringOp .add (str q) (str x)).run Tryd.prog W = .ok (.string (str (q ++ x))) W := fun W => by
            rw [run_string_add_sum _ _ _ (by rw [str_size, str_size]; omega), str_append]
          go_wp2_with fail
          refine ⟨⟨k + 1, d, by omega, by rw [HT.out], by go_num, ?_, rfl⟩, by simp [intOf]; omega⟩
          rw [HT.out, List.length_append]
          omega
      · obtain rfl : k = xs.length := by omega
        rw [List.take_length] at hfl ⊢
        obtain ⟨q, hq⟩ : ∃ q, q = xs.flatten := ⟨_, rfl⟩
        rw [← hq] at hfl ⊢
        have hm : ∀ L d, Calls Tryd.prog 10 #[.string (str key), .slice (some ⟨bk, o, none⟩) xs.length c] (w.ext L d) fun e w' => e = .returned (.agg (row8 (mac key q))) ∧ (w.ext L d).grew w' := fun L d => by
          rw [hq]
          exact mac_any key _ xs (by omega) (by rw [← hq]; omega) (by omega) (w.ext L d) (HK.out.ext _ _) (HS.out.ext _ _)
        have HM := Kept.mk hm
        clear hm hq
        go_wp2_with fail
        refine (HM.out _ _).mono ?_
        rintro e w' ⟨rfl, l2, d2, rfl⟩
        rw [Ext.ext]
        have hml := mac_length key q
        obtain ⟨r, hr⟩ : ∃ r, r = mac key q := ⟨_, rfl⟩
        rw [← hr] at hml ⊢
        have HR := Kept.mk hr.symm
        clear hr
        generalize l1 ++ l2 = gap
        go_wp2_with fail
        have hm2 := mac_ext (d := d2) HK.out key gap.length 1 1 [q] (L := gap ++ [Obj.cells #[Value.string (str q)] 9]) (by exact Ext.gap_get0 gap _ []) rfl (Nat.le_refl _) (by omega) (by omega) (by simp; omega)
        rw [show [q].flatten = q by simp, HR.out] at hm2
        refine hm2.mono ?_
        clear hm2
        rintro e w' ⟨rfl, l3, d3, rfl⟩
        rw [Ext.ext]
        go_wp2_with fail
        go_ret
        exact ⟨by simp, World.grew_ext _ _ _⟩
set_option maxRecDepth 100000 in
theorem mparts_none (key : List UInt8) (ao : Option Addr) (c : Nat) (w : World) (hK : Konst w) :
    Calls Tryd.prog 3 #[.string (str key), .slice ao 0 c] w fun e w' => e = .returned (.bool true) ∧ w.grew w' := by
  refine Ext.entered w ?_
  have hstrs : Strs w (.slice ao 0 c) [] := .inl ⟨ao, c, rfl, rfl⟩
  have HK := Kept.mk hK
  have HS := Kept.mk hstrs
  clear hK hstrs
  go_enter Tryd.func3, Tryd.ntmps3
  by_cases hkey : 300 < key.length
  · go_wp2_with fail
    refine (mshown_any _ (HK.out.ext _ _)).mono ?_
    rintro e w' ⟨rfl, l1, d1, rfl⟩
    go_wp2_with fail
    go_ret
    exact ⟨rfl, by rw [Ext.ext]; exact World.grew_ext _ _ _⟩
  · go_wp2_with fail
    refine (mshown_any _ (HK.out.ext _ _)).mono ?_
    rintro e w' ⟨rfl, l1, d1, rfl⟩
    rw [Ext.ext, List.nil_append]
    go_wp2_with fail
    rw [show decide (300 < (key.length : Int)) = false by rw [decide_eq_false_iff_not]; omega]
    go_loopw [5, 6] (fun s i wr => ∃ (d : Nat), s = .string (str []) ∧ i = .int .i64 0 ∧ wr = w.ext l1 d) (fun _ i _ => 0)
    case atStart => exact ⟨d1, rfl, rfl, rfl⟩
    case round =>
      obtain ⟨d, rfl, rfl, rfl⟩ := hrel
      · obtain ⟨q, hq⟩ : ∃ q : List UInt8, q = [] := ⟨_, rfl⟩
        have hfl : q.length = 0 := by rw [hq]; rfl
        have hm : ∀ L d, Calls Tryd.prog 10 #[.string (str key), .slice ao 0 c] (w.ext L d) fun e w' => e = .returned (.agg (row8 (mac key q))) ∧ (w.ext L d).grew w' := fun L d => by
          have := mac_any key _ [] (by omega) (by simp) (by simp) (w.ext L d) (HK.out.ext _ _) (HS.out.ext _ _)
          rwa [show ([] : List (List UInt8)).flatten = q from hq.symm] at this
        rw [← hq]
        have HM := Kept.mk hm
        clear hm hq
        go_wp2_with fail
        refine (HM.out _ _).mono ?_
        rintro e w' ⟨rfl, l2, d2, rfl⟩
        rw [Ext.ext]
        have hml := mac_length key q
        obtain ⟨r, hr⟩ : ∃ r, r = mac key q := ⟨_, rfl⟩
        rw [← hr] at hml ⊢
        have HR := Kept.mk hr.symm
        clear hr
        generalize l1 ++ l2 = gap
        go_wp2_with fail
        have hm2 := mac_ext (d := d2) HK.out key gap.length 1 1 [q] (L := gap ++ [Obj.cells #[Value.string (str q)] 9]) (by exact Ext.gap_get0 gap _ []) rfl (Nat.le_refl _) (by omega) (by omega) (by simp; omega)
        rw [show [q].flatten = q by simp, HR.out] at hm2
        refine hm2.mono ?_
        clear hm2
        rintro e w' ⟨rfl, l3, d3, rfl⟩
        rw [Ext.ext]
        go_wp2_with fail
        go_ret
        exact ⟨by simp, World.grew_ext _ _ _⟩
end Go.Proofs.YtcnligenhiiaaaaDoor
