/- sha.Short: the first half of a sum. -/
import Derived.Test.YtcnligenhiiaaaaDoorShaStepA
namespace Go.Proofs.YtcnligenhiiaaaaDoor
open Go.RowKit Sha2 Words Bytes

def zero16 : Array Value := row8 (List.replicate 16 0)
@[go_sem] theorem alloc16 (W : World) : (Ext.allocOf 33).run Tryd.prog W = .ok (.value (.pointer (some ⟨W.heap.size, 0, none⟩))) (W.alloc (.cells zero16 33)) := by kernel_rfl
@[go_sem] theorem zero16_size : zero16.size = 16 := by simp [zero16, row8]

@[go_sem] theorem zero16_spliced (l : List UInt8) : Ext.spliced zero16 0 (row8 l) 0 16 = row8 (l.take 16) := by
  rw [zero16, row8_spliced]; simp
set_option maxRecDepth 100000 in
theorem short_any (l : List UInt8) (hl : l.length = 32) (w : World) :
    Calls Tryd.prog 16 #[.agg (row8 l)] w fun e w' => e = .returned (.agg (row8 (l.take 16))) ∧ w.grew w' := by
  refine Ext.entered w ?_
  go_enter Tryd.func16, Tryd.ntmps16
  go_wp2
  refine Region2.quiet_tail 2 (by kernel_rfl) (by kernel_rfl) ?_
  simp only [List.take_succ_cons, List.take_zero, List.drop_succ_cons, List.drop_zero, Ext.drew]
  repeat (first | go_big_quiet_skip | (go_big_quiet_want; go_big_quiet_op; go_big_quiet_on))
  refine wpQuiet_nil ?_
  have hk : (l.take 16).length = 16 := by rw [List.length_take]; omega
  go_wp2
  refine bodyPost_ret (v := .agg (row8 (l.take 16))) ?_ rfl ?_
  · exact Ext.result_row (k := 1) rfl _ rfl _ _ _ rfl (by simp) (by simp only [row8_size, hk]; simp)
  · exact ⟨rfl, World.grew_ext _ _ _⟩
end Go.Proofs.YtcnligenhiiaaaaDoor
