/- oblivionref02.k: the document's constants; what arrays of words are when they are built. -/
import Derived.Test.YtcnligenhiiaaaaDoorShaKonst
namespace Go.Proofs.YtcnligenhiiaaaaDoor
open Go.RowKit Sha2 Words

@[go_sem] theorem built8 (a b c d e f g h : W) (W : World) : (Ext.buildOf 71 #[(0, w64 a), (1, w64 b), (2, w64 c), (3, w64 d), (4, w64 e), (5, w64 f), (6, w64 g), (7, w64 h)]).run Tryd.prog W = .ok (.value (.agg (row64 [a, b, c, d, e, f, g, h]))) W := by kernel_rfl
def zero8w : Array Value := row64 (List.replicate 8 0)
@[go_sem] theorem zero8w_size : zero8w.size = 8 := by simp [zero8w, row64]
@[go_sem] theorem alloc8w (W : World) : (Ext.allocOf 71).run Tryd.prog W = .ok (.value (.pointer (some ⟨W.heap.size, 0, none⟩))) (W.alloc (.cells zero8w 71)) := by kernel_rfl
def zero64 : Array Value := row64 (List.replicate 64 0)
@[go_sem] theorem zero64_size : zero64.size = 64 := by simp [zero64, row64]
@[go_sem] theorem zero64_one : Ext.oneCells zero64 = true := row64_one _
@[go_sem] theorem alloc64 (W : World) : (Ext.allocOf 77).run Tryd.prog W = .ok (.value (.pointer (some ⟨W.heap.size, 0, none⟩))) (W.alloc (.cells zero64 77)) := by kernel_rfl
@[go_sem] theorem built64 (W : World) : (Ext.buildOf 77 #[]).run Tryd.prog W = .ok (.value (.agg zero64)) W := by kernel_rfl

set_option maxHeartbeats 2000000 in
set_option maxRecDepth 100000 in
theorem k_any (w : World) : Calls Tryd.prog 44 #[] w fun e w' => e = .returned (.agg (row64 kws)) ∧ ∃ d, w' = w.ext [.cells (row64 kws) 77] d := by
  refine Ext.entered w ?_
  have hl := kws_length
  go_enter Tryd.func44, Tryd.ntmps44
  iterate 11 go_step
  refine Ext.wpList_built (row64 kws) rfl _ _ rfl (by kernel_rfl) ?_
  simp only [Act.put, List.setIfInBounds_toArray, List.set_cons_succ, List.set_cons_zero]
  go_wp2
  refine bodyPost_ret (v := .agg (row64 kws)) ?_ rfl ?_
  · exact Ext.result_row (k := 0) rfl _ rfl _ _ _ rfl (by simp) (by simp [row64_size, hl])
  · exact ⟨rfl, _, rfl⟩
end Go.Proofs.YtcnligenhiiaaaaDoor
