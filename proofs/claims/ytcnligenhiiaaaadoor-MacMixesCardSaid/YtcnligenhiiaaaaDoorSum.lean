/- sha.Sum: the sum of the parts' bytes, one behind the other. -/
import Derived.Test.YtcnligenhiiaaaaDoorShaStepA
import Derived.Test.YtcnligenhiiaaaaDoorFill
import Derived.Test.YtcnligenhiiaaaaDoorJoin
import Derived.Laws.Concat
namespace Go.Proofs.YtcnligenhiiaaaaDoor
open Go.RowKit Sha2 Words Bytes

def zero32 : Array Value := row8 (List.replicate 32 0)
@[go_sem] theorem alloc32 (W : World) : (Ext.allocOf 25).run Tryd.prog W = .ok (.value (.pointer (some ⟨W.heap.size, 0, none⟩))) (W.alloc (.cells zero32 25)) := by kernel_rfl
@[go_sem] theorem built_iv (W : World) : (Ext.buildOf 49 #[(0, .int .u32 1779033703), (1, .int .u32 3144134277), (2, .int .u32 1013904242), (3, .int .u32 2773480762), (4, .int .u32 1359893119), (5, .int .u32 2600822924), (6, .int .u32 528734635), (7, .int .u32 1541459225)]).run Tryd.prog W = .ok (.value (.agg (row32 iv.list))) W := by kernel_rfl

@[go_sem] theorem list_len (v : St) : v.list.length = 8 := by cases v; simp [St.list]
@[go_sem] theorem zero32_size : zero32.size = 32 := by simp [zero32, row8]
@[go_sem ↓] theorem shr_b (t : TypeId) (x : W) (k : Nat) : binOp .shr t (w32 x) (.int .i64 (24 - 8 * ((k : Int) % 4))) = pure (w32 (x >>> (24 - 8 * (k % 4)))) := by
  rw [shr _ _ _ _ (by omega)]
  congr 3
  omega
theorem put8 (l : List UInt8) (k n : Nat) (x : UInt8) (hx : l[k]? = some x) (hn : k < n) : (l.take k ++ List.replicate (n - k) 0).set k x = l.take (k + 1) ++ List.replicate (n - (k + 1)) 0 := by
  have hk : k < l.length := (List.getElem?_eq_some_iff.1 hx).1
  have hxe : l[k] = x := (List.getElem?_eq_some_iff.1 hx).2
  have hlen : (l.take k).length = k := by rw [List.length_take]; omega
  rw [List.set_append_right _ _ (by omega), hlen, show k - k = 0 by omega, show n - k = (n - (k + 1)) + 1 by omega, List.replicate_succ, List.set_cons_zero, List.take_succ_eq_append_getElem hk, hxe]
  simp
set_option maxHeartbeats 1000000 in
set_option maxRecDepth 100000 in
theorem sum_of (v : Value) (s : List UInt8) (w : World) (hK : Konst w) (hs : s.length < 1073741824)
    (hj : ∀ l d, Calls Tryd.prog 20 #[v, .string (str [])] (w.ext l d) fun e w' => e = .returned (.string (str s)) ∧ (w.ext l d).grew w') :
    Calls Tryd.prog 11 #[v] w fun e w' => e = .returned (.agg (row8 (Sha2.sum s))) ∧ w.grew w' := by
  refine Ext.entered w ?_
  have HJ := Kept.mk hj
  have HK := Kept.mk hK
  clear hj hK
  go_enter Tryd.func11, Tryd.ntmps11
  have hadd : ∀ W, (Op.stringOp .add (str s) (str (fill s.length))).run Tryd.prog W = .ok (.string (str (padded s))) W := fun W => by
    rw [run_string_add_sum _ _ _ (by rw [str_size, str_size, fill_length]; omega), str_append]
    rfl
  go_wp2_with fail
  refine (HJ.out _ _).mono ?_
  rintro e w' ⟨rfl, l1, d1, rfl⟩
  rw [Ext.ext]
  go_wp2_with fail
  refine (fill_any s.length hs _).mono ?_
  rintro e w' ⟨rfl, l2, d2, rfl⟩
  rw [Ext.ext]
  simp only [List.cons_append]
  generalize l1 ++ l2 = gap
  go_wp2
  clear hadd
  go_loopw [3] (fun x wr => ∃ (t : List Obj) (v : St) (p : List UInt8) (d : Nat), x = .string (str p) ∧ p.length % 64 = 0 ∧ blocks v p (p.length / 64) = blocks iv (padded s) ((padded s).length / 64) ∧ wr = w.ext (.cells zero32 25 :: (gap ++ .cells (row32 v.list) 49 :: t)) d) (fun x _ => strLen x)
  case atStart => exact ⟨[], iv, padded s, d2, rfl, padded_mod s, rfl, rfl⟩
  case round =>
    obtain ⟨t, v, p, d, rfl, hm, hb, rfl⟩ := hrel
    have HB := Kept.mk hb
    clear hb
    by_cases hp : p = []
    · subst hp
      have hne : ((str []).toList == []) = true := by rw [str_toList]; rfl
      have hfin : Sha2.sum s = v.bytes := by
        have hv := HB.out
        rw [show (([] : List UInt8).length / 64) = 0 from rfl] at hv
        rw [Sha2.sum, ← hv]
        rfl
      have HF := Kept.mk hfin
      clear hfin
      go_wp2
      go_loopw [22] (fun i wr => ∃ (k d : Nat), k ≤ 32 ∧ i = .int .i64 k ∧ wr = w.ext (.cells (row8 (v.bytes.take k ++ List.replicate (32 - k) 0)) 25 :: (gap ++ .cells (row32 v.list) 49 :: t)) d) (fun i _ => 32 - (intOf i).toNat)
      case atStart => exact ⟨0, d, by omega, rfl, by simp [zero32]⟩
      case round =>
        obtain ⟨k, d, hk, rfl, rfl⟩ := hrel
        by_cases hlt : k < 32
        · obtain ⟨x, hx⟩ : ∃ x, v.list[k / 4]? = some x := ⟨_, getD_of (by rw [list_len]; omega)⟩
          have hby : v.bytes[k]? = some (UInt8.ofNat (x >>> (24 - 8 * (k % 4))).toNat) := by
            rw [bytes_at, List.getElem?_map, List.getElem?_range hlt]
            simp [List.getD_eq_getElem?_getD, hx]
          have hput := put8 v.bytes k 32 _ hby hlt
          have hpl : (v.bytes.take k ++ List.replicate (32 - k) (0 : UInt8)).length = 32 := by
            rw [List.length_append, List.length_take, bytes_length, List.length_replicate]; omega
          obtain ⟨y, hy⟩ : ∃ y, (v.bytes.take k ++ List.replicate (32 - k) (0 : UInt8))[k]? = some y := ⟨_, List.getElem?_eq_getElem (by omega)⟩
          have HP := Kept.mk hput
          have HPL := Kept.mk hpl
          clear hput hpl hby
          go_wp2
          go_roundw
          case rel => exact ⟨k + 1, d, by omega, by go_num, by rw [← HP.out, BitVec.toNat_ushiftRight]⟩
          case measure => simp [intOf]; omega
        · obtain rfl : k = 32 := by omega
          have hall : v.bytes.take 32 ++ List.replicate (32 - 32) (0 : UInt8) = v.bytes := by
            rw [List.take_of_length_le (by rw [bytes_length]; omega)]; simp
          rw [hall]
          clear hall
          have hbl : v.bytes.length = 32 := bytes_length v
          go_wp2
          refine bodyPost_ret (v := .agg (row8 v.bytes)) ?_ rfl ?_
          · exact Ext.result_row (k := 0) rfl _ rfl _ _ _ rfl (by simp) (by simp [row8_size, bytes_length])
          · exact ⟨by rw [HF.out], World.grew_ext _ _ _⟩
    · have hp0 : 0 < p.length := by cases p with | nil => exact absurd rfl hp | cons a p => simp
      have hp64 : 64 ≤ p.length := by omega
      have hne : ((str p).toList == []) = false := by rw [str_toList]; simpa using hp
      have hx1 : (str p).extract 0 64 = str (p.take 64) := by rw [str_extract, List.drop_zero]
      have hx2 : (str p).extract 64 p.length = str (p.drop 64) := by rw [str_extract, List.take_length]
      have HP := Kept.mk hp
      clear hp
      have hs64 : (str (p.take 64)).size = 64 := by rw [str_size, List.length_take]; omega
      have hd64 : (p.drop 64).length = p.length - 64 := List.length_drop
      have hbl : blocks v p (p.length / 64) = blocks (Sha2.step v (p.take 64)) (p.drop 64) ((p.drop 64).length / 64) := by
        rw [hd64]
        obtain ⟨m, hm⟩ : ∃ m, p.length / 64 = m + 1 := ⟨p.length / 64 - 1, by omega⟩
        rw [hm, show (p.length - 64) / 64 = m by omega]
        rfl
      have HBL := Kept.mk hbl
      have H64 := Kept.mk hs64
      have HD64 := Kept.mk hd64
      clear hbl hs64 hd64
      go_wp2
      refine Region2.quiet_tail 3 (by kernel_rfl) (by kernel_rfl) ?_
      simp only [List.take_succ_cons, List.take_zero, List.drop_succ_cons, List.drop_zero, Ext.drew]
      repeat (first | go_big_quiet_skip | (go_big_quiet_want; go_big_quiet_op; go_big_quiet_on))
      refine wpQuiet_nil ?_
      go_wp2_with fail
      refine (step_any v.list (list_len v) _ H64.out _ (HK.out.ext _ _)).mono ?_
      rintro e w' ⟨rfl, l3, d3, rfl⟩
      rw [Ext.ext, str_data, of_list]
      simp only [List.cons_append, List.append_assoc]
      go_wp2
      go_roundw
      case rel => exact ⟨t ++ l3, Sha2.step v (p.take 64), p.drop 64, d3, rfl, by rw [HD64.out]; omega, by rw [← HBL.out, HB.out], rfl⟩
      case measure =>
        simp only [strLen, str_size, List.length_drop]
        omega
end Go.Proofs.YtcnligenhiiaaaaDoor
