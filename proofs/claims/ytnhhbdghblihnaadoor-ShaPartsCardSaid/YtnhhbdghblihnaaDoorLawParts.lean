/- oblivionlaw02.ShaParts holds. -/
import Derived.Test.YtnhhbdghblihnaaDoorShown
import Derived.Test.YtnhhbdghblihnaaDoorRefSum
import Derived.Test.YtnhhbdghblihnaaDoorGrow
namespace Go.Proofs.YtnhhbdghblihnaaDoor
open Go.RowKit Sha2 Words Bytes

set_option maxRecDepth 100000 in
theorem parts_holds (xs : List (List UInt8)) (bk o c : Nat) (w : World) (hK : Konst w) (hcells : ∀ j, j < xs.length → w.cell? ⟨bk, o + j, none⟩ = some (.string (str (xs.getD j [])))) (hbk : bk < w.heap.size) (hc : xs.length ≤ c) :
    Calls Tryd.prog 7 #[.slice (some ⟨bk, o, none⟩) xs.length c] w fun e w' => e = .returned (.bool true) ∧ w.grew w' := by
  refine Ext.entered w ?_
  have HK := Kept.mk hK
  have HC := Kept.mk hcells
  clear hK hcells
  go_enter Tryd.func7, Tryd.ntmps7
  by_cases hlen : 30 < xs.length
  · go_wp2_with fail
    refine (shown_any _ (HK.out.ext _ _)).mono ?_
    rintro e w' ⟨rfl, l1, d1, rfl⟩
    go_wp2_with fail
    go_ret
    exact ⟨rfl, by rw [Ext.ext]; exact World.grew_ext _ _ _⟩
  · go_wp2_with fail
    refine (shown_any _ (HK.out.ext _ _)).mono ?_
    rintro e w' ⟨rfl, l1, d1, rfl⟩
    rw [Ext.ext, List.nil_append]
    go_wp2_with fail
    go_loopw [3, 4] (fun s i wr => ∃ (k d : Nat), k ≤ xs.length ∧ s = .string (str (xs.take k).flatten) ∧ i = .int .i64 k ∧ (xs.take k).flatten.length ≤ 200 * k ∧ wr = w.ext l1 d) (fun _ i _ => xs.length - (intOf i).toNat)
    case atStart => exact ⟨0, d1, by omega, rfl, rfl, by simp, rfl⟩
    case round =>
      obtain ⟨k, d, hk, rfl, rfl, hfl, rfl⟩ := hrel
      by_cases hlt : k < xs.length
      · obtain ⟨x, hx⟩ : ∃ x, xs[k]? = some x := ⟨_, List.getElem?_eq_getElem hlt⟩
        have hcell : w.cell? ⟨bk, o + k, none⟩ = some (.string (str x)) := by
          rw [HC.out k hlt, List.getD_eq_getElem?_getD, hx]; rfl
        have htk : (xs.take (k + 1)).flatten = (xs.take k).flatten ++ x := by
          rw [List.take_add_one, hx]; simp
        have HT := Kept.mk htk
        clear htk hx
        generalize hq : (xs.take k).flatten = q at *
        clear hq
        by_cases hxl : 200 < x.length
        · go_wp2_with fail
          refine (shown_any _ (HK.out.ext _ _)).mono ?_
          rintro e w' ⟨rfl, l2, d2, rfl⟩
          go_wp2_with fail
          go_ret
          exact ⟨rfl, by rw [Ext.ext]; exact World.grew_ext _ _ _⟩
        · have hadd : ∀ W, (Op.stringOp .add (str q) (str x)).run Tryd.prog W = .ok (.string (str (q ++ x))) W := fun W => by
            rw [run_string_add_sum _ _ _ (by rw [str_size, str_size]; omega), str_append]
          go_wp2_with fail
          refine ⟨⟨k + 1, d, by omega, by rw [HT.out], by go_num, ?_, rfl⟩, by simp [intOf]; omega⟩
          rw [HT.out, List.length_append]
          omega
      · obtain rfl : k = xs.length := by omega
        rw [List.take_length] at hfl
        obtain ⟨q, hq⟩ : ∃ q, q = xs.flatten := ⟨_, rfl⟩
        rw [← hq] at hfl
        have hsq : ∀ L d, Calls Tryd.prog 10 #[.slice (some ⟨bk, o, none⟩) xs.length c] (w.ext L d) fun e w' => e = .returned (.agg (row8 (Sha2.sum q))) ∧ (w.ext L d).grew w' := fun L d => by
          have e1 : (xs.map str).map (·.data.toList) = xs := by
            rw [List.map_map]
            conv => rhs; rw [← List.map_id xs]
            exact List.map_congr_left fun x _ => str_data x
          have := sum_slice (xs.map str) bk o c (w.ext L d) (HK.out.ext _ _) (fun j x hx => by
            rw [List.getElem?_map] at hx
            cases hj : xs[j]? with
            | none => rw [hj] at hx; cases hx
            | some y =>
              rw [hj] at hx; cases hx
              rw [Ext.cell_old hbk, HC.out j (List.getElem?_eq_some_iff.1 hj).1, List.getD_eq_getElem?_getD, hj]; rfl) (by rw [Ext.size]; omega) (by simp; omega) (by simpa using hc) (by rw [e1, ← hq]; omega)
          rw [e1, List.length_map, ← hq] at this
          exact this
        have HS := Kept.mk hsq
        clear hsq
        go_wp2_with fail
        rw [← hq]
        have HQ := Kept.mk hq
        clear hq
        refine (sum_ext HK.out l1.length 1 1 [q] (by exact Ext.gap_get0 l1 _ []) rfl (Nat.le_refl _) (by omega) (by simp; omega)).mono ?_
        rintro e w' ⟨rfl, l4, d4, rfl⟩
        rw [Ext.ext, show [q].flatten = q by simp]
        obtain ⟨r, hr⟩ : ∃ r, r = Sha2.sum q := ⟨_, rfl⟩
        rw [← hr]
        have hrl : r.length = 32 := by rw [hr]; exact sum_length q
        have HR := Kept.mk hr.symm
        clear hr
        generalize (l1 ++ [Obj.cells #[Value.string (str q)] 9]) ++ l4 = l5
        go_wp2_with fail
        refine (short_any r hrl _).mono ?_
        rintro e w' ⟨rfl, l6, d6, rfl⟩
        rw [Ext.ext]
        simp only [List.cons_append, List.append_assoc, List.nil_append]
        have hkl : (r.take 16).length = 16 := by rw [List.length_take]; omega
        go_wp2_with fail
        go_loopw [7] (fun i wr => ∃ (j d : Nat), j ≤ 16 ∧ i = .int .i64 j ∧ wr = w.ext (l5 ++ Obj.cells (row8 r) 24 :: (l6 ++ [Obj.cells (row8 (r.take 16)) 42])) d) (fun i _ => 16 - (intOf i).toNat)
        case atStart => exact ⟨0, _, by omega, rfl, rfl⟩
        case round =>
          obtain ⟨j, d, hj, rfl, rfl⟩ := hrel
          by_cases hlt : j < 16
          · obtain ⟨x, hx⟩ : ∃ x, r[j]? = some x := ⟨_, List.getElem?_eq_getElem (by omega)⟩
            clear hrl hkl
            go_wp2_with fail
            go_quiet (fail)
            go_wp2_with fail
            exact ⟨⟨j + 1, d + nq, by omega, by go_num, rfl⟩, by simp [intOf]; omega⟩
          · obtain rfl : j = 16 := by omega
            go_wp2_with fail
            have hs1 := HS.out
            rw [HR.out] at hs1
            have hs2 := fun W => rsum_any xs.flatten W (by rw [← HQ.out]; omega)
            rw [← HQ.out, HR.out, HQ.out] at hs2
            have HS1 := Kept.mk hs1
            have HS2 := Kept.mk hs2
            clear hs1 hs2
            refine Grow.lit (by kernel_rfl) (by kernel_rfl) ?_
            repeat (first | go_big_quiet_skip | (go_big_quiet_want; go_big_quiet_op; go_big_quiet_on))
            go_big_quiet_want
            go_big_quiet_op
            refine ⟨.agg (row8 r), fun x => Grow.calls_at (n := x.n) (by simp) (HS1.out _ _), ?_⟩
            go_big_quiet_on
            repeat (first | go_big_quiet_skip | (go_big_quiet_want; go_big_quiet_op; go_big_quiet_on))
            go_big_quiet_want
            go_big_quiet_op
            refine ⟨.agg (row8 r), fun x => Grow.calls_at (n := x.n) (by simp) (HS2.out _), ?_⟩
            go_big_quiet_on
            repeat (first | go_big_quiet_skip | (go_big_quiet_want; go_big_quiet_op; go_big_quiet_on))
            refine wpQuiet_nil ?_
            intro n e
            go_wp2_with fail
            go_ret
            exact ⟨by simp, World.grew_ext _ _ _⟩
set_option maxRecDepth 100000 in
theorem parts_none (ao : Option Addr) (c : Nat) (w : World) (hK : Konst w) :
    Calls Tryd.prog 7 #[.slice ao 0 c] w fun e w' => e = .returned (.bool true) ∧ w.grew w' := by
  refine Ext.entered w ?_
  have HK := Kept.mk hK
  clear hK
  go_enter Tryd.func7, Tryd.ntmps7
  · go_wp2_with fail
    refine (shown_any _ (HK.out.ext _ _)).mono ?_
    rintro e w' ⟨rfl, l1, d1, rfl⟩
    rw [Ext.ext, List.nil_append]
    go_wp2_with fail
    go_loopw [3, 4] (fun s i wr => ∃ (d : Nat), s = .string (str []) ∧ i = .int .i64 0 ∧ wr = w.ext l1 d) (fun _ i _ => 0)
    case atStart => exact ⟨d1, rfl, rfl, rfl⟩
    case round =>
      obtain ⟨d, rfl, rfl, rfl⟩ := hrel
      · obtain ⟨q, hq⟩ : ∃ q : List UInt8, q = [] := ⟨_, rfl⟩
        have hfl : q.length = 0 := by rw [hq]; rfl
        have hsq : ∀ L d, Calls Tryd.prog 10 #[.slice ao 0 c] (w.ext L d) fun e w' => e = .returned (.agg (row8 (Sha2.sum q))) ∧ (w.ext L d).grew w' := fun L d => by
          rw [hq]
          exact sum_none ao c (w.ext L d) (HK.out.ext _ _)
        have HS := Kept.mk hsq
        clear hsq
        go_wp2_with fail
        rw [← hq]
        have HQ := Kept.mk hq
        clear hq
        refine (sum_ext HK.out l1.length 1 1 [q] (by exact Ext.gap_get0 l1 _ []) rfl (Nat.le_refl _) (by omega) (by simp; omega)).mono ?_
        rintro e w' ⟨rfl, l4, d4, rfl⟩
        rw [Ext.ext, show [q].flatten = q by simp]
        obtain ⟨r, hr⟩ : ∃ r, r = Sha2.sum q := ⟨_, rfl⟩
        rw [← hr]
        have hrl : r.length = 32 := by rw [hr]; exact sum_length q
        have HR := Kept.mk hr.symm
        clear hr
        generalize (l1 ++ [Obj.cells #[Value.string (str q)] 9]) ++ l4 = l5
        go_wp2_with fail
        refine (short_any r hrl _).mono ?_
        rintro e w' ⟨rfl, l6, d6, rfl⟩
        rw [Ext.ext]
        simp only [List.cons_append, List.append_assoc, List.nil_append]
        have hkl : (r.take 16).length = 16 := by rw [List.length_take]; omega
        go_wp2_with fail
        go_loopw [7] (fun i wr => ∃ (j d : Nat), j ≤ 16 ∧ i = .int .i64 j ∧ wr = w.ext (l5 ++ Obj.cells (row8 r) 24 :: (l6 ++ [Obj.cells (row8 (r.take 16)) 42])) d) (fun i _ => 16 - (intOf i).toNat)
        case atStart => exact ⟨0, _, by omega, rfl, rfl⟩
        case round =>
          obtain ⟨j, d, hj, rfl, rfl⟩ := hrel
          by_cases hlt : j < 16
          · obtain ⟨x, hx⟩ : ∃ x, r[j]? = some x := ⟨_, List.getElem?_eq_getElem (by omega)⟩
            clear hrl hkl
            go_wp2_with fail
            go_quiet (fail)
            go_wp2_with fail
            exact ⟨⟨j + 1, d + nq, by omega, by go_num, rfl⟩, by simp [intOf]; omega⟩
          · obtain rfl : j = 16 := by omega
            go_wp2_with fail
            have hs1 := HS.out
            rw [HR.out] at hs1
            have hs2 := fun W => rsum_any q W (by omega)
            rw [HR.out] at hs2
            have HS1 := Kept.mk hs1
            have HS2 := Kept.mk hs2
            clear hs1 hs2
            refine Grow.lit (by kernel_rfl) (by kernel_rfl) ?_
            repeat (first | go_big_quiet_skip | (go_big_quiet_want; go_big_quiet_op; go_big_quiet_on))
            go_big_quiet_want
            go_big_quiet_op
            refine ⟨.agg (row8 r), fun x => Grow.calls_at (n := x.n) (by simp) (HS1.out _ _), ?_⟩
            go_big_quiet_on
            repeat (first | go_big_quiet_skip | (go_big_quiet_want; go_big_quiet_op; go_big_quiet_on))
            go_big_quiet_want
            go_big_quiet_op
            refine ⟨.agg (row8 r), fun x => Grow.calls_at (n := x.n) (by simp) (HS2.out _), ?_⟩
            go_big_quiet_on
            repeat (first | go_big_quiet_skip | (go_big_quiet_want; go_big_quiet_op; go_big_quiet_on))
            refine wpQuiet_nil ?_
            intro n e
            go_wp2_with fail
            go_ret
            exact ⟨by simp, World.grew_ext _ _ _⟩
end Go.Proofs.YtnhhbdghblihnaaDoor
