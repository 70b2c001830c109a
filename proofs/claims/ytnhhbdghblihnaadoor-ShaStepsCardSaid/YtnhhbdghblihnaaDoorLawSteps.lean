/- oblivionlaw02.ShaSteps holds. -/
import Derived.Test.YtnhhbdghblihnaaDoorShown
import Derived.Test.YtnhhbdghblihnaaDoorWide
import Derived.Test.YtnhhbdghblihnaaDoorRefStepA
import Derived.Test.YtnhhbdghblihnaaDoorGrow
import Derived.Test.YtnhhbdghblihnaaDoorWordRows
namespace Go.Proofs.YtnhhbdghblihnaaDoor
open Go.RowKit Sha2 Words Bytes

set_option maxRecDepth 100000 in
theorem step_off (l : List W) (hl : l.length = 8) (s : List UInt8) (hs : s.length ≠ 64) (w : World) :
    Calls Tryd.prog 14 #[.agg (row32 l), .string (str s)] w fun e w' => e = .returned (.agg (row32 l)) ∧ w.grew w' := by
  refine Ext.entered w ?_
  go_enter Tryd.func14, Tryd.ntmps14
  have hs' : ((s.length : Int)) ≠ 64 := by omega
  go_wp2_with fail
  refine bodyPost_ret (v := .agg (row32 l)) ?_ rfl ?_
  · exact Ext.result_row (k := 1) rfl _ rfl _ _ _ rfl (by simp) (by simp [row32_size, hl])
  · exact ⟨rfl, World.grew_ext _ _ _⟩
set_option maxRecDepth 100000 in
theorem rstep_off (l : List W) (hl : l.length = 8) (s : List UInt8) (hs : s.length ≠ 64) (w : World) :
    Calls Tryd.prog 16 #[.agg (row64 l), .string (str s)] w fun e w' => e = .returned (.agg (row64 l)) ∧ w.grew w' := by
  refine Ext.entered w ?_
  go_enter Tryd.func16, Tryd.ntmps16
  have hs' : ((s.length : Int)) ≠ 64 := by omega
  go_wp2_with fail
  refine bodyPost_ret (v := .agg (row64 l)) ?_ rfl ?_
  · exact Ext.result_row (k := 1) rfl _ rfl _ _ _ rfl (by simp) (by simp [row64_size, hl])
  · exact ⟨rfl, World.grew_ext _ _ _⟩

set_option maxRecDepth 100000 in
theorem steps_holds (h : List W) (hh : h.length = 8) (s : List UInt8) (w : World) (hK : Konst w) :
    Calls Tryd.prog 4 #[.agg (row32 h), .string (str s)] w fun e w' => e = .returned (.bool true) ∧ w.grew w' := by
  refine Ext.entered w ?_
  have HK := Kept.mk hK
  clear hK
  go_enter Tryd.func4, Tryd.ntmps4
  by_cases hlen : 200 < s.length
  · go_wp2_with fail
    refine (shown_any _ (HK.out.ext _ _)).mono ?_
    rintro e w' ⟨rfl, l1, d1, rfl⟩
    go_wp2_with fail
    go_ret
    exact ⟨rfl, by rw [Ext.ext]; exact World.grew_ext _ _ _⟩
  · go_wp2_with fail
    refine (shown_any _ (HK.out.ext _ _)).mono ?_
    rintro e w' ⟨rfl, l1, d1, rfl⟩
    rw [Ext.ext]
    go_wp2_with fail
    have hst : ∃ r : List W, r.length = 8 ∧ (∀ W, Konst W → Calls Tryd.prog 14 #[.agg (row32 h), .string (str s)] W fun e w' => e = .returned (.agg (row32 r)) ∧ W.grew w') ∧
        (∀ W, Calls Tryd.prog 16 #[.agg (row64 h), .string (str s)] W fun e w' => e = .returned (.agg (row64 r)) ∧ W.grew w') := by
      by_cases h64 : s.length = 64
      · refine ⟨(Sha2.step (.of h) s).list, list_len _, fun W hW => ?_, fun W => ?_⟩
        · have := step_any h hh (str s) (by rw [str_size]; exact h64) W hW
          rwa [str_data] at this
        · have := rstep_any h hh (str s) (by rw [str_size]; exact h64) W
          rwa [str_data] at this
      · exact ⟨h, hh, fun W _ => step_off h hh s h64 W, fun W => rstep_off h hh s h64 W⟩
    obtain ⟨r, hr, c1, c2⟩ := hst
    have C1 := Kept.mk c1
    have C2 := Kept.mk c2
    clear c1 c2
    refine Grow.lit (by kernel_rfl) (by kernel_rfl) ?_
    repeat (first | go_big_quiet_skip | (go_big_quiet_want; go_big_quiet_op; go_big_quiet_on))
    go_big_quiet_want
    go_big_quiet_op
    refine ⟨_, fun x => Grow.calls (C1.out _ (HK.out.ext _ _)), ?_⟩
    go_big_quiet_on
    repeat (first | go_big_quiet_skip | (go_big_quiet_want; go_big_quiet_op; go_big_quiet_on))
    go_big_quiet_want
    go_big_quiet_op
    refine ⟨_, fun x => Grow.calls (wide_any h hh _), ?_⟩
    go_big_quiet_on
    repeat (first | go_big_quiet_skip | (go_big_quiet_want; go_big_quiet_op; go_big_quiet_on))
    go_big_quiet_want
    go_big_quiet_op
    refine ⟨_, fun x => Grow.calls (C2.out _), ?_⟩
    go_big_quiet_on
    repeat (first | go_big_quiet_skip | (go_big_quiet_want; go_big_quiet_op; go_big_quiet_on))
    go_big_quiet_want
    go_big_quiet_op
    refine ⟨_, fun x => Grow.calls (narrow_any r hr _), ?_⟩
    go_big_quiet_on
    repeat (first | go_big_quiet_skip | (go_big_quiet_want; go_big_quiet_op; go_big_quiet_on))
    refine wpQuiet_nil ?_
    intro n e
    go_wp2_with fail
    go_ret
    exact ⟨by simp, World.grew_ext _ _ _⟩
end Go.Proofs.YtnhhbdghblihnaaDoor
