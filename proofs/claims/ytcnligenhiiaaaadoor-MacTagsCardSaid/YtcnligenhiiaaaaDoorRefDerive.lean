/- oblivionref03.Short, Derive: a key that is derived, the document's way. -/
import Derived.Test.YtcnligenhiiaaaaDoorDerive
namespace Go.Proofs.YtcnligenhiiaaaaDoor
open Go.RowKit Sha2 Words Bytes

@[go_sem] theorem zero16_one : Ext.oneCells zero16 = true := row8_one _
@[go_sem] theorem built_key (W : World) : (Ext.buildOf 33 #[]).run Tryd.prog W = .ok (.value (.agg zero16)) W := by kernel_rfl

set_option maxHeartbeats 1000000 in
set_option maxRecDepth 100000 in
theorem rshort_any (r : List UInt8) (hr : r.length = 32) (w : World) :
    Calls Tryd.prog 27 #[.agg (row8 r)] w fun e w' => e = .returned (.agg (row8 (r.take 16))) ∧ w.grew w' := by
  refine Ext.entered w ?_
  go_enter Tryd.func27, Tryd.ntmps27
  go_wp2_with fail
  go_loopw [4] (fun i wr => ∃ (j d : Nat), j ≤ 16 ∧ i = .int .i64 j ∧ wr = w.ext [.cells (row8 r) 25, .cells zero16 33, .cells (row8 (r.take j ++ List.replicate (16 - j) 0)) 33] d) (fun i _ => 16 - (intOf i).toNat)
  case atStart => exact ⟨0, w.drawn, by omega, rfl, rfl⟩
  case round =>
    obtain ⟨j, d, hj, rfl, rfl⟩ := hrel
    by_cases hlt : j < 16
    · obtain ⟨x, hx⟩ : ∃ x, r[j]? = some x := ⟨_, List.getElem?_eq_getElem (by omega)⟩
      have hput := put8 r j 16 _ hx (by omega)
      have hpl : (r.take j ++ List.replicate (16 - j) (0 : UInt8)).length = 16 := by
        rw [List.length_append, List.length_take, List.length_replicate]; omega
      obtain ⟨y, hy⟩ : ∃ y, (r.take j ++ List.replicate (16 - j) (0 : UInt8))[j]? = some y := ⟨_, List.getElem?_eq_getElem (by omega)⟩
      have HP := Kept.mk hput
      clear hput hpl hr
      generalize r.take j ++ List.replicate (16 - j) (0 : UInt8) = q at *
      go_wp2_with fail
      exact ⟨⟨j + 1, d, by omega, by go_num, by rw [HP.out]⟩, by simp [intOf]; omega⟩
    · obtain rfl : j = 16 := by omega
      have hall : r.take 16 ++ List.replicate (16 - 16) (0 : UInt8) = r.take 16 := by simp
      rw [hall]
      clear hall
      have hkl : (r.take 16).length = 16 := by rw [List.length_take]; omega
      go_wp2_with fail
      refine bodyPost_ret (v := .agg (row8 (r.take 16))) ?_ rfl ?_
      · exact Ext.result_row (k := 1) rfl _ rfl _ _ _ rfl (by simp) (by simp only [row8_size, hkl]; simp)
      · exact ⟨rfl, World.grew_ext _ _ _⟩

set_option maxHeartbeats 1000000 in
set_option maxRecDepth 100000 in
theorem rderive_any (k label : List UInt8) (hk : k.length = 16) (hl : label.length < 100000) (n : Nat) (hn : n < 18446744073709551616) (w : World) :
    Calls Tryd.prog 15 #[.agg (row8 k), .string (str label), .int .u64 (n : Int)] w fun e w' => e = .returned (.agg (row8 (derive k label n))) ∧ w.grew w' := by
  refine Ext.entered w ?_
  go_enter Tryd.func15, Tryd.ntmps15
  go_wp2_with fail
  refine (rnumber_any n 8 hn (by omega) (by omega) (by simpa using hn) _).mono ?_
  rintro e w' ⟨rfl, l1, d1, rfl⟩
  rw [Ext.ext]
  simp only [List.cons_append, List.nil_append]
  have hkt : k.take 16 = k := List.take_of_length_le (by omega)
  have hcl := fun W => conv_len (P := Tryd.prog) 3 5 label.length W Tryd.underlying3 Tryd.underlying5
  obtain ⟨c, hc⟩ : ∃ c, c = UInt8.ofNat label.length := ⟨_, rfl⟩
  rw [← hc] at hcl
  have hll : (le n 8).length = 8 := le_length n 8
  have hadd1 : ∀ W, (Op.stringOp .add (str [c]) (str label)).run Tryd.prog W = .ok (.string (str (c :: label))) W := fun W => by
    rw [run_string_add_sum _ _ _ (by rw [str_size, str_size]; simp; omega), str_append]; rfl
  have hadd2 : ∀ W, (Op.stringOp .add (str (c :: label)) (str (le n 8))).run Tryd.prog W = .ok (.string (str (c :: (label ++ le n 8)))) W := fun W => by
    rw [run_string_add_sum _ _ _ (by rw [str_size, str_size]; simp; omega), str_append]; rfl
  have HD := Kept.mk (show List.take 16 (mac k (c :: (label ++ le n 8))) = derive k label n by rw [hc]; rfl)
  have hdl := derive_length k label n
  clear hc
  have hst : ∀ L e, (storeCells ⟨w.heap.size + 1, 0, none⟩ (row8 (derive k label n)).toList).run Tryd.prog (w.ext (Obj.cells (row8 k) 33 :: Obj.cells zero16 33 :: L) e) = .ok () (w.ext (Obj.cells (row8 k) 33 :: Obj.cells (row8 (derive k label n)) 33 :: L) e) := fun L e => by
    have := Ext.store_row (P := Tryd.prog) (w := w) (l := Obj.cells (row8 k) 33 :: Obj.cells zero16 33 :: L) (d := e) 1 33 (row8 (derive k label n)) (by simp [go_sem]) (by simp [go_sem, hdl]) (by simp [go_sem, hdl]) (by simp [go_sem])
    simpa [storeVar, Sem.run_bind, Value.cells, go_sem, hdl] using this
  go_wp2_with fail
  go_region_with
    (first
      | (go_at_call 13; refine (rmac_any k (c :: (label ++ le n 8)) (by omega) (by simp [le_length]; omega) _).mono ?_; rintro e w' ⟨rfl, l2, d2, rfl⟩; rw [Ext.ext])
      | (go_at_call 27; refine (rshort_any _ (mac_length _ _) _).mono ?_; rintro e w' ⟨rfl, l3, d3, rfl⟩; rw [Ext.ext, HD.out])
      | (rw [hst]; simp only [Result.andThen_ok, Oper.upon]))
  all_goals
    go_wp2_with fail
    refine bodyPost_ret (v := .agg (row8 (derive k label n))) ?_ rfl ?_
    · exact Ext.result_row (k := 1) rfl _ rfl _ _ _ rfl (by simp) (by simp only [row8_size, hdl]; simp)
    · exact ⟨rfl, World.grew_ext _ _ _⟩
end Go.Proofs.YtcnligenhiiaaaaDoor
