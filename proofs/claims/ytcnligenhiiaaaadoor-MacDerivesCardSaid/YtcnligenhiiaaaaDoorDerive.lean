/- mac.Derive and oblivionref03.Derive, Short: a key that is derived. -/
import Derived.Test.YtcnligenhiiaaaaDoorMacShown
import Derived.Test.YtcnligenhiiaaaaDoorNum
import Derived.Test.YtcnligenhiiaaaaDoorRefNum
import Derived.Test.YtcnligenhiiaaaaDoorRefMac
import Derived.Deep.RegionWith
namespace Go.Proofs.YtcnligenhiiaaaaDoor
open Go.RowKit Sha2 Words Bytes

theorem conv_len {P : Program} (src dst : TypeId) (n : Nat) (W : World) (hs : P.underlying src = some (.int .i64)) (hd : P.underlying dst = some (.int .u8)) :
    (convert src dst (.int .i64 (n : Int))).run P W = .ok (b8 (UInt8.ofNat n)) W := by
  simp [b8, convert, run_underlying hs, run_underlying hd, Conv.intToInt, IntKind.wrap, IntKind.bits, IntKind.signed]
@[go_sem] theorem zero32_get (i : Nat) : zero32[i]? = (List.replicate 32 (0 : UInt8))[i]?.map b8 := by rw [zero32, row8_get]
/-- The byte that a row of one holds. -/
def oneOf (row : Array Value) : UInt8 := (bytesOf row).getD 0 0
@[go_sem] theorem oneOf_b8 (x : UInt8) : oneOf #[b8 x] = x := by
  rw [oneOf, show (#[b8 x] : Array Value) = row8 [x] from rfl, bytesOf_row8]; rfl
@[go_sem high] theorem string_one {P : Program} {w : World} {l : List Obj} {d : Nat} (src dst k c : Nat) (hs : P.underlying src = some (.slice (P.elem src))) (hd : P.underlying dst = some .string) (he : P.underlying (P.elem src) = some (.int .u8))
    (hr : Ext.isRow l[k]? = true) (hb : Ext.rowOf l[k]? = #[b8 (oneOf (Ext.rowOf l[k]?))]) :
    (convert src dst (.slice (some ⟨w.heap.size + k, 0, none⟩) 1 c)).run P (w.ext l d) = .ok (.string (str [oneOf (Ext.rowOf l[k]?)])) (w.ext l d) :=
  string_row src dst k 1 c [oneOf (Ext.rowOf l[k]?)] hs hd he hr hb (by simp)

set_option maxHeartbeats 1000000 in
set_option maxRecDepth 100000 in
theorem derive_any (k label : List UInt8) (hk : k.length = 16) (hl : label.length < 100000) (n : Nat) (hn : n < 18446744073709551616) (w : World) (hK : Konst w) :
    Calls Tryd.prog 14 #[.agg (row8 k), .string (str label), .int .u64 (n : Int)] w fun e w' => e = .returned (.agg (row8 (derive k label n))) ∧ w.grew w' := by
  refine Ext.entered w ?_
  have HK := Kept.mk hK
  clear hK
  go_enter Tryd.func14, Tryd.ntmps14
  go_wp2_with fail
  refine (number_any n 8 hn (by omega) (by omega) (by simpa using hn) _).mono ?_
  rintro e w' ⟨rfl, l1, d1, rfl⟩
  rw [Ext.ext]
  simp only [List.cons_append, List.nil_append]
  have hkt : k.take 16 = k := List.take_of_length_le (by omega)
  have hcl := fun W => conv_len (P := Tryd.prog) 3 5 label.length W Tryd.underlying3 Tryd.underlying5
  obtain ⟨c, hc⟩ : ∃ c, c = UInt8.ofNat label.length := ⟨_, rfl⟩
  rw [← hc] at hcl
  have HD := Kept.mk (show List.take 16 (mac k (c :: (label ++ le n 8))) = derive k label n by rw [hc]; rfl)
  have hdl := derive_length k label n
  clear hc
  have hfl : [[c], label, le n 8].flatten = c :: (label ++ le n 8) := by simp
  go_wp2_with fail
  have hst : ∀ L e, (storeCells ⟨w.heap.size + 1, 0, none⟩ (row8 (derive k label n)).toList).run Tryd.prog (w.ext (Obj.cells (row8 k) 33 :: Obj.cells zero16 33 :: L) e) = .ok () (w.ext (Obj.cells (row8 k) 33 :: Obj.cells (row8 (derive k label n)) 33 :: L) e) := fun L e => by
    have := Ext.store_row (P := Tryd.prog) (w := w) (l := Obj.cells (row8 k) 33 :: Obj.cells zero16 33 :: L) (d := e) 1 33 (row8 (derive k label n)) (by simp [go_sem]) (by simp [go_sem, hdl]) (by simp [go_sem, hdl]) (by simp [go_sem])
    simpa [storeVar, Sem.run_bind, Value.cells, go_sem, hdl] using this
  go_region_with
    (first
      | (go_at_call 10; refine (mac_ext HK.out k (l1.length + 1 + 1 + 1) 3 3 [[c], label, le n 8] (by simp only [List.getElem?_cons_succ]; exact Ext.gap_get1 l1 _ _ []) rfl (Nat.le_refl _) (by omega) (by omega) (by simp [le_length]; omega)).mono ?_; rintro e w' ⟨rfl, l2, d2, rfl⟩; rw [Ext.ext, hfl])
      | (go_at_call 16; refine (short_any _ (mac_length _ _) _).mono ?_; rintro e w' ⟨rfl, l3, d3, rfl⟩; rw [Ext.ext, HD.out])
      | (rw [hst]; simp only [Result.andThen_ok, Oper.upon]))
  all_goals
    go_wp2_with fail
    refine bodyPost_ret (v := .agg (row8 (derive k label n))) ?_ rfl ?_
    · exact Ext.result_row (k := 1) rfl _ rfl _ _ _ rfl (by simp) (by simp only [row8_size, hdl]; simp)
    · exact ⟨rfl, World.grew_ext _ _ _⟩
end Go.Proofs.YtcnligenhiiaaaaDoor
