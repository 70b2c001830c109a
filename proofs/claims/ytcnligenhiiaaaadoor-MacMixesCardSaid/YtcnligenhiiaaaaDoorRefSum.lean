/- oblivionref02.Sum: the sum of a text, the document's way. -/
import Derived.Test.YtcnligenhiiaaaaDoorRefFill
import Derived.Test.YtcnligenhiiaaaaDoorRefStepA
import Derived.Test.YtcnligenhiiaaaaDoorSums
namespace Go.Proofs.YtcnligenhiiaaaaDoor
open Go.RowKit Sha2 Words Bytes

@[go_sem] theorem built_iv64 (W : World) : (Ext.buildOf 71 #[(0, .int .u64 1779033703), (1, .int .u64 3144134277), (2, .int .u64 1013904242), (3, .int .u64 2773480762), (4, .int .u64 1359893119), (5, .int .u64 2600822924), (6, .int .u64 528734635), (7, .int .u64 1541459225)]).run Tryd.prog W = .ok (.value (.agg (row64 iv.list))) W := by kernel_rfl
@[go_sem] theorem built_out (W : World) : (Ext.buildOf 25 #[]).run Tryd.prog W = .ok (.value (.agg zero32)) W := by kernel_rfl


/-- The last byte of a word, as a number. -/
def lo64 (z : W) : Value := .int .u64 (((z.toNat % 256 : Nat) : Int))
@[go_sem] theorem rem_byte (t : TypeId) (z : W) : binOp .rem t (w64 z) (.int .u64 256) = pure (lo64 z) := by
  simp only [w64, lo64, binOp_rem, Op.intDiv]
  rw [if_neg (by decide)]
  congr 2
@[go_sem] theorem conv_lo64 {P : Program} (src dst : TypeId) (z : W) (W : World) (hs : P.underlying src = some (.int .u64)) (hd : P.underlying dst = some (.int .u8)) :
    (convert src dst (lo64 z)).run P W = .ok (b8 (UInt8.ofNat z.toNat)) W := by
  simp [b8, convert, run_underlying hs, run_underlying hd, lo64, Conv.intToInt, IntKind.wrap, IntKind.bits, IntKind.signed]

set_option maxHeartbeats 1000000 in
set_option maxRecDepth 100000 in
theorem rsum_any (s : List UInt8) (w : World) (hs : s.length < 1073741824) :
    Calls Tryd.prog 23 #[.string (str s)] w fun e w' => e = .returned (.agg (row8 (Sha2.sum s))) ∧ w.grew w' := by
  refine Ext.entered w ?_
  go_enter Tryd.func23, Tryd.ntmps23
  have hadd : ∀ W, (Op.stringOp .add (str s) (str (fill s.length))).run Tryd.prog W = .ok (.string (str (padded s))) W := fun W => by
    rw [run_string_add_sum _ _ _ (by rw [str_size, str_size, fill_length]; omega), str_append]
    rfl
  go_wp2_with fail
  refine (rfill_any s.length hs _).mono ?_
  rintro e w' ⟨rfl, l1, d1, rfl⟩
  rw [Ext.ext]
  simp only [List.cons_append, List.nil_append]
  go_wp2_with fail
  clear hadd
  go_loopw [0] (fun x wr => ∃ (t : List Obj) (v : St) (p : List UInt8) (d : Nat), x = .string (str p) ∧ p.length % 64 = 0 ∧ blocks v p (p.length / 64) = blocks iv (padded s) ((padded s).length / 64) ∧ wr = w.ext (.cells zero32 25 :: .cells (row64 v.list) 71 :: t) d) (fun x _ => strLen x)
  case atStart => exact ⟨l1, iv, padded s, d1, rfl, padded_mod s, rfl, rfl⟩
  case round =>
    obtain ⟨t, v, p, d, rfl, hm, hb, rfl⟩ := hrel
    have HB := Kept.mk hb
    clear hb
    by_cases hp : p = []
    · subst hp
      have hfin : Sha2.sum s = v.bytes := by
        have hv := HB.out
        rw [show (([] : List UInt8).length / 64) = 0 from rfl] at hv
        rw [Sha2.sum, ← hv]
        rfl
      have HF := Kept.mk hfin
      clear hfin
      go_wp2_with fail
      go_loopw [5] (fun i wr => ∃ (k d : Nat), k ≤ 8 ∧ i = .int .i64 k ∧ wr = w.ext (.cells zero32 25 :: .cells (row64 v.list) 71 :: (t ++ [.cells (row8 (v.bytes.take (4 * k) ++ List.replicate (32 - 4 * k) 0)) 25])) d) (fun i _ => 8 - (intOf i).toNat)
      case atStart => exact ⟨0, d, by omega, rfl, by simp [zero32]⟩
      case round =>
        obtain ⟨k, d, hk, rfl, rfl⟩ := hrel
        by_cases hlt : k < 8
        · go_wp2_with fail
          rw [show decide ((k : Int) < 8) = true by rw [decide_eq_true_iff]; omega]
          go_loopw [6] (fun i wr => ∃ (j d : Nat), j ≤ 4 ∧ i = .int .i64 j ∧ wr = w.ext (.cells zero32 25 :: .cells (row64 v.list) 71 :: (t ++ [.cells (row8 (v.bytes.take (4 * k + j) ++ List.replicate (32 - (4 * k + j)) 0)) 25])) d) (fun i _ => 4 - (intOf i).toNat)
          case atStart => exact ⟨0, d, by omega, rfl, rfl⟩
          case round =>
            obtain ⟨j, d, hj, rfl, rfl⟩ := hrel
            by_cases hlt : j < 4
            · obtain ⟨x, hx⟩ : ∃ x, v.list[k]? = some x := ⟨_, getD_of (by rw [list_len]; omega)⟩
              have hby : v.bytes[4 * k + j]? = some (UInt8.ofNat (x >>> (24 - 8 * j)).toNat) := by
                rw [bytes_at, List.getElem?_map, List.getElem?_range (by omega)]
                have e1 : (4 * k + j) / 4 = k := by omega
                have e2 : (4 * k + j) % 4 = j := by omega
                simp [List.getD_eq_getElem?_getD, e1, e2, hx]
              have hput := put8 v.bytes (4 * k + j) 32 _ hby (by omega)
              have hpl : (v.bytes.take (4 * k + j) ++ List.replicate (32 - (4 * k + j)) (0 : UInt8)).length = 32 := by
                rw [List.length_append, List.length_take, bytes_length, List.length_replicate]; omega
              obtain ⟨y, hy⟩ : ∃ y, (v.bytes.take (4 * k + j) ++ List.replicate (32 - (4 * k + j)) (0 : UInt8))[4 * k + j]? = some y := ⟨_, List.getElem?_eq_getElem (by omega)⟩
              have HP := Kept.mk hput
              have HPL := Kept.mk hpl
              clear hput hpl hby
              generalize hq : v.bytes.take (4 * k + j) ++ List.replicate (32 - (4 * k + j)) (0 : UInt8) = q at *
              clear hq
              go_wp2_with fail
              rw [(List.getElem?_eq_some_iff.1 hx).2]
              refine (right_word x (24 - 8 * (j : Int)) (by omega) (by omega) _).mono ?_
              rintro e w' ⟨rfl, rfl⟩
              rw [show (24 - 8 * (j : Int)).toNat = 24 - 8 * j by omega]
              generalize x >>> (24 - 8 * j) = z at *
              go_wp2_with fail
              go_roundw
              case rel => exact ⟨j + 1, d, by omega, by go_num, by rw [HP.out]; rfl⟩
              case measure => simp [intOf]; omega
            · obtain rfl : j = 4 := by omega
              go_wp2_with fail
              go_roundw
              case rel => exact ⟨k + 1, d, by omega, by go_num, by rw [show 4 * (k + 1) = 4 * k + 4 by omega, show 32 - (4 * k + 4) = 28 - 4 * k by omega]⟩
              case measure => simp [intOf]; omega
        · obtain rfl : k = 8 := by omega
          have hall : v.bytes.take (4 * 8) ++ List.replicate (32 - 4 * 8) (0 : UInt8) = v.bytes := by
            rw [List.take_of_length_le (by rw [bytes_length]; omega)]; simp
          rw [hall]
          clear hall
          have hbl : v.bytes.length = 32 := bytes_length v
          go_wp2_with fail
          refine bodyPost_ret (v := .agg (row8 v.bytes)) ?_ rfl ?_
          · exact Ext.result_row (k := 0) rfl _ rfl _ _ _ rfl (by simp) (by simp [row8_size, bytes_length])
          · exact ⟨by rw [HF.out], World.grew_ext _ _ _⟩
    · have hp0 : 0 < p.length := by cases p with | nil => exact absurd rfl hp | cons a p => simp
      have hp64 : 64 ≤ p.length := by omega
      have hx1 : (str p).extract 0 64 = str (p.take 64) := by rw [str_extract, List.drop_zero]
      have hx2 : (str p).extract 64 p.length = str (p.drop 64) := by rw [str_extract, List.take_length]
      have HP := Kept.mk hp
      clear hp
      have hs64 : (str (p.take 64)).size = 64 := by rw [str_size, List.length_take]; omega
      have hd64 : (p.drop 64).length = p.length - 64 := List.length_drop
      have hbl : blocks v p (p.length / 64) = blocks (Sha2.step v (p.take 64)) (p.drop 64) ((p.drop 64).length / 64) := by
        rw [hd64]
        obtain ⟨m, hm⟩ : ∃ m, p.length / 64 = m + 1 := ⟨p.length / 64 - 1, by omega⟩
        rw [hm, show (p.length - 64) / 64 = m by omega]
        rfl
      have HBL := Kept.mk hbl
      have H64 := Kept.mk hs64
      have HD64 := Kept.mk hd64
      clear hbl hs64 hd64
      go_wp2_with fail
      refine Region2.quiet_tail 3 (by kernel_rfl) (by kernel_rfl) ?_
      simp only [List.take_succ_cons, List.take_zero, List.drop_succ_cons, List.drop_zero, Ext.drew]
      repeat (first | go_big_quiet_skip | (go_big_quiet_want; go_big_quiet_op; go_big_quiet_on))
      refine wpQuiet_nil ?_
      go_wp2_with fail
      refine (rstep_any v.list (list_len v) _ H64.out _).mono ?_
      rintro e w' ⟨rfl, l3, d3, rfl⟩
      rw [Ext.ext, str_data, of_list]
      simp only [List.cons_append]
      go_wp2
      go_roundw
      case rel => exact ⟨t ++ l3, Sha2.step v (p.take 64), p.drop 64, d3, rfl, by rw [HD64.out]; omega, by rw [← HBL.out, HB.out], rfl⟩
      case measure =>
        simp only [strLen, str_size, List.length_drop]
        omega
end Go.Proofs.YtcnligenhiiaaaaDoor
