/- oblivionlaw02.ShaFolds holds. -/
import Derived.Test.YtnhhbdghblihnaaDoorShown
import Derived.Test.YtnhhbdghblihnaaDoorGrow
namespace Go.Proofs.YtnhhbdghblihnaaDoor
open Go.RowKit Sha2 Words Bytes

set_option maxRecDepth 100000 in
theorem folds_holds (s : List UInt8) (w : World) (hK : Konst w) :
    Calls Tryd.prog 6 #[.string (str s)] w fun e w' => e = .returned (.bool true) ∧ w.grew w' := by
  refine Ext.entered w ?_
  have HK := Kept.mk hK
  clear hK
  go_enter Tryd.func6, Tryd.ntmps6
  by_cases hlen : 500 < s.length
  · go_wp2_with fail
    refine (shown_any _ (HK.out.ext _ _)).mono ?_
    rintro e w' ⟨rfl, l1, d1, rfl⟩
    go_wp2_with fail
    go_ret
    exact ⟨rfl, by rw [Ext.ext]; exact World.grew_ext _ _ _⟩
  · go_wp2_with fail
    refine (shown_any _ (HK.out.ext _ _)).mono ?_
    rintro e w' ⟨rfl, l1, d1, rfl⟩
    rw [Ext.ext, List.nil_append]
    have hadd : ∀ W, (Op.stringOp .add (str s) (str (fill s.length))).run Tryd.prog W = .ok (.string (str (padded s))) W := fun W => by
      rw [run_string_add_sum _ _ _ (by rw [str_size, str_size, fill_length]; omega), str_append]
      rfl
    go_wp2_with fail
    refine (fill_any s.length (by omega) _).mono ?_
    rintro e w' ⟨rfl, l2, d2, rfl⟩
    rw [Ext.ext]
    simp only [List.append_assoc, List.cons_append, List.nil_append]
    have hpm := padded_mod s
    go_wp2_with fail
    clear hadd
    obtain ⟨p, hp⟩ : ∃ p, p = padded s := ⟨_, rfl⟩
    obtain ⟨L, hL⟩ : ∃ L, p.length = 64 * L := ⟨p.length / 64, by rw [hp]; omega⟩
    have hpl : p.length < 600 := by rw [hp, padded, List.length_append, fill_length]; omega
    have hfin : Sha2.sum s = (blocks iv p L).bytes := by
      rw [Sha2.sum, ← hp, hL, Nat.mul_div_cancel_left _ (by omega)]
    rw [← hp]
    have HF := Kept.mk hfin
    clear hfin hp hpm
    go_loopw [5] (fun i wr => ∃ (k : Nat) (v : St) (t : List Obj) (d : Nat), k ≤ L ∧ i = .int .i64 ((64 * k : Nat) : Int) ∧ blocks v (p.drop (64 * k)) (L - k) = blocks iv p L ∧ wr = w.ext (l1 ++ .cells (row32 v.list) 30 :: t) d) (fun i _ => 64 * L - (intOf i).toNat)
    case atStart => exact ⟨0, iv, l2, d2, by omega, rfl, rfl, rfl⟩
    case round =>
      obtain ⟨k, v, t, d, hk, rfl, hb, rfl⟩ := hrel
      have HB := Kept.mk hb
      clear hb
      by_cases hlt : k < L
      · have hx1 : ∀ W, (Instr.slice 9 (.string (str p)) (some (.int .i64 (64 * (k : Int)))) (some (.int .i64 (64 * (k : Int) + 64))) none).run Tryd.prog W = .ok (.string (str ((p.drop (64 * k)).take 64))) W := fun W => by
          rw [run_slice_string W 9 (str p) .i64 .i64 _ _ Tryd.underlying9 (by omega) (by omega) (by rw [str_size]; omega), show (64 * (k : Int)).toNat = 64 * k by omega, show (64 * (k : Int) + 64).toNat = 64 * k + 64 by omega, str_extract, List.drop_take, show 64 * k + 64 - 64 * k = 64 by omega]
        have hs64 : (str ((p.drop (64 * k)).take 64)).size = 64 := by rw [str_size, List.length_take, List.length_drop]; omega
        have hbl : blocks v (p.drop (64 * k)) (L - k) = blocks (Sha2.step v ((p.drop (64 * k)).take 64)) (p.drop (64 * (k + 1))) (L - (k + 1)) := by
          rw [show L - k = (L - (k + 1)) + 1 by omega]
          simp only [blocks]
          rw [List.drop_drop, show 64 * k + 64 = 64 * (k + 1) by omega]
        have H64 := Kept.mk hs64
        have HBL := Kept.mk hbl
        clear hs64 hbl
        go_wp2_with fail
        refine Region2.quiet_tail 6 (by kernel_rfl) (by kernel_rfl) ?_
        simp only [List.take_succ_cons, List.take_zero, List.drop_succ_cons, List.drop_zero, Ext.drew]
        repeat (first | go_big_quiet_skip | (go_big_quiet_want; go_big_quiet_op; go_big_quiet_on))
        refine wpQuiet_nil ?_
        go_wp2_with fail
        refine (step_any v.list (list_len v) _ H64.out _ (HK.out.ext _ _)).mono ?_
        rintro e w' ⟨rfl, l3, d3, rfl⟩
        rw [Ext.ext, str_data, of_list]
        simp only [List.cons_append, List.append_assoc]
        go_wp2_with fail
        go_roundw
        case rel => exact ⟨k + 1, Sha2.step v ((p.drop (64 * k)).take 64), t ++ l3, d3, by omega, by go_num, by rw [← HBL.out, HB.out], rfl⟩
        case measure =>
          simp [intOf]; omega
      · obtain rfl : k = L := by omega
        have hb2 := HB.out
        rw [Nat.sub_self] at hb2
        simp only [blocks] at hb2
        rw [← hb2] at HF
        clear hb2
        go_wp2_with fail
        refine (sum_ext HK.out (l1.length + (t.length + 1)) 1 1 [s] (by exact Ext.gap2_get l1 t [] _ _) rfl (Nat.le_refl _) (by omega) (by simp; omega)).mono ?_
        rintro e w' ⟨rfl, l4, d4, rfl⟩
        rw [Ext.ext, show [s].flatten = s by simp, HF.out]
        simp only [List.cons_append, List.append_assoc, List.nil_append]
        generalize t ++ Obj.cells #[Value.string (str s)] 9 :: l4 = t
        have hbl : v.bytes.length = 32 := bytes_length v
        go_wp2_with fail
        clear hbl
        go_loopw [7] (fun i wr => ∃ (j d : Nat), j ≤ 32 ∧ i = .int .i64 j ∧ wr = w.ext (l1 ++ Obj.cells (row32 v.list) 30 :: (t ++ [Obj.cells (row8 v.bytes) 24])) d) (fun i _ => 32 - (intOf i).toNat)
        case atStart => exact ⟨0, d4, by omega, rfl, rfl⟩
        case round =>
          obtain ⟨j, d, hj, rfl, rfl⟩ := hrel
          by_cases hlt : j < 32
          · obtain ⟨x, hx⟩ : ∃ x, v.list[j / 4]? = some x := ⟨_, getD_of (by rw [list_len]; omega)⟩
            have hby : v.bytes[j]? = some (UInt8.ofNat (x >>> (24 - 8 * (j % 4))).toNat) := by
              rw [bytes_at, List.getElem?_map, List.getElem?_range hlt]
              simp [List.getD_eq_getElem?_getD, hx]
            clear hL
            go_wp2_with fail
            go_quiet (fail)
            go_wp2_with fail
            go_roundw
            case rel => exact ⟨j + 1, d + nq, by omega, by go_num, rfl⟩
            case measure => simp [intOf]; omega
          · obtain rfl : j = 32 := by omega
            go_wp2_with fail
            go_ret
            exact ⟨rfl, World.grew_ext _ _ _⟩
end Go.Proofs.YtnhhbdghblihnaaDoor
