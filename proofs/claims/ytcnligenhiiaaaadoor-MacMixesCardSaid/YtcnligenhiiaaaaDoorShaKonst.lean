/- The table of sha's constants, as a world that holds it. -/
import Derived.Test.YtcnligenhiiaaaaDoorShaRot
namespace Go.Proofs.YtcnligenhiiaaaaDoor
open Go.RowKit Sha2 Words

def zero8 : Array Value := row32 (List.replicate 8 0)
@[go_sem] theorem alloc8 (W : World) : (Ext.allocOf 49).run Tryd.prog W = .ok (.value (.pointer (some ⟨W.heap.size, 0, none⟩))) (W.alloc (.cells zero8 49)) := by kernel_rfl
def kws : List W := (List.range 64).map kw
@[go_sem] theorem zero8_size : zero8.size = 8 := by simp [zero8, row32]
theorem kws_length : kws.length = 64 := by simp [kws]
theorem kws_at (k : Nat) (h : k < 64) : at0 kws k = kw k := by
  unfold at0 kws
  rw [List.getD_eq_getElem?_getD, List.getElem?_map, List.getElem?_range h]
  rfl

/-- The world holds the table. -/
def Konst (w : World) : Prop := 0 < w.heap.size ∧ ∀ i, i < 64 → w.cell? ⟨0, i, none⟩ = some (w32 (kw i))
theorem Konst.ext {w : World} (h : Konst w) (l : List Obj) (d : Nat) : Konst (w.ext l d) :=
  ⟨by rw [Ext.size]; have := h.1; omega, fun i hi => by rw [Ext.cell_old h.1]; exact h.2 i hi⟩
theorem Konst.grew {w w' : World} (h : Konst w) (hg : w.grew w') : Konst w' := by
  obtain ⟨l, d, rfl⟩ := hg
  exact h.ext l d
theorem Konst.loads {w : World} (h : Konst w) : (Ext.loadFrom 69 (.pointer (some ⟨0, 0, none⟩))).run Tryd.prog w = .ok (.value (.agg (row32 kws))) w := by
  have hl : (loadCells ⟨0, 0, none⟩ (kws.map w32).length).run Tryd.prog w = .ok (kws.map w32).toArray w :=
    run_loadCells_list (P := Tryd.prog) w ⟨0, 0, none⟩ (kws.map w32) (fun j v hv => by
      rw [Ext.addr_add, Nat.zero_add]
      have hj : j < 64 := by
        have := (List.getElem?_eq_some_iff.1 hv).1
        simpa [kws_length] using this
      rw [h.2 j hj]
      rw [List.getElem?_map] at hv
      simp only [kws, List.getElem?_map, List.getElem?_range hj, Option.map_some] at hv
      exact hv)
  rw [List.length_map, kws_length] at hl
  rw [Ext.run_loadFrom]
  simp [Instr.loadAt, Instr.sureAddr, loadVar, Sem.run_bind, hl, row32]
end Go.Proofs.YtcnligenhiiaaaaDoor
