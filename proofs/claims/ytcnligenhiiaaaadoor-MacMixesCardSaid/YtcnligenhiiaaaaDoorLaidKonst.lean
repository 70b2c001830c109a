/- What the condition 'laid' gives the walks: the table of constants lies in the world; and a world in which it lies. -/
import Derived.Test.YtcnligenhiiaaaaDoorRows
import Derived.Test.YtcnligenhiiaaaaDoorShaKonst
import Derived.ChangeSame
import Derived.ChangeVars
import Derived.JoinedOf
import Derived.RowKit
import Derived.LaidLaws
import Derived.OpenShut
namespace Go.Proofs.YtcnligenhiiaaaaDoor
open Go.RowKit Sha2 Words

def lits : List (DataW Unit) := (List.range 64).map fun i => .lit (.int .u32 (((kw i).toNat : Nat) : Int))
theorem laid_eq : (Rows.laid_oblivion_sha_constants : DataW Unit) = .agg lits := by
  unfold Rows.laid_oblivion_sha_constants
  congr 1
theorem konst_name : Tryd.prog.globalNamed "oblivion/sha.constants" = some 0 := by kernel_rfl
theorem konst_type : (Tryd.prog.globals[0]?).map (·.type) = some 69 := by kernel_rfl

theorem konst_of_laid {W : World} (h : laidMet Tryd.prog [("oblivion/sha.constants", Rows.laid_oblivion_sha_constants)] W) : Konst W := by
  obtain ⟨ps, ⟨g, t, cs, fuel, p, q, e1, e2, e3, e4, -, -⟩, -, -⟩ := h
  obtain rfl : g = 0 := Option.some.inj (e1.symm.trans konst_name)
  obtain rfl : t = 69 := Option.some.inj (e2.symm.trans konst_type)
  obtain ⟨xs, m, rfl, hx, hl, hn, hi⟩ := DataW.trod_array Tryd.underlying69 e4
  have hc : ∀ i, i < 64 → W.cell? ⟨0, i, none⟩ = some (w32 (kw i)) := by
    intro i h
    rw [World.var?_cell konst_name e3 i]
    have hx1 : xs.map (·.1) = lits := by
      have := congrArg Prod.fst hx
      rw [laid_eq] at this
      exact (DataW.agg.inj this).symm
    have ht := hi i h
    rw [List.getElem?_eq_getElem (by omega)] at ht
    obtain ⟨n, hcs, hy, -⟩ := DataW.trod_int Tryd.underlying38 ht
    have hxi : (xs.map (·.1))[i]? = lits[i]? := by rw [hx1]
    rw [List.getElem?_map, List.getElem?_eq_getElem (by omega), hy, lits, List.getElem?_map, List.getElem?_range h] at hxi
    simp at hxi
    have hcell : Tryd.prog.cellsOf 38 = 1 := by kernel_rfl
    rw [hcell, Nat.mul_one] at hcs
    have h0 : ((cs.toList.drop i).take 1)[0]? = some (.int .u32 n) := by rw [hcs]; rfl
    rw [List.getElem?_take_of_lt (by omega), List.getElem?_drop] at h0
    simp at h0
    rw [h0, hxi]
    rfl
  refine ⟨?_, hc⟩
  have h0 := hc 0 (by omega)
  rcases Nat.eq_zero_or_pos W.heap.size with hz | hz
  · exfalso
    have : W.heap[0]? = none := Array.getElem?_eq_none (by omega)
    simp [World.cell?, this] at h0
  · exact hz
end Go.Proofs.YtcnligenhiiaaaaDoor
