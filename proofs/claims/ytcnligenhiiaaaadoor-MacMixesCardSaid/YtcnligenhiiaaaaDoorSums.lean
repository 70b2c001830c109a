/- sha.Sum over a slice of strings that lies in the memory, and over none. -/
import Derived.Test.YtcnligenhiiaaaaDoorSum
namespace Go.Proofs.YtcnligenhiiaaaaDoor
open Go.RowKit Sha2 Words Bytes

@[go_sem] theorem zero32_one : Ext.oneCells zero32 = true := row8_one _
theorem join_nil_sep (l : List (List UInt8)) : Lib.join l [] = l.flatten := by
  induction l with
  | nil => rfl
  | cons a t ih =>
    cases t with
    | nil => simp [Lib.join]
    | cons b t =>
      simp only [Lib.join, List.intercalate] at ih ⊢
      rw [List.intersperse_cons_cons, List.flatten_cons, List.flatten_cons, ih, List.nil_append, ← List.flatten_cons]

theorem sum_slice (xs : List ByteArray) (bk o c : Nat) (w : World) (hK : Konst w) (hcells : ∀ (j : Nat) x, xs[j]? = some x → w.cell? ⟨bk, o + j, none⟩ = some (.string x)) (hbk : bk < w.heap.size)
    (hN : xs.length ≤ 140737488355328) (hcap : xs.length ≤ c) (hlen : (xs.map (·.data.toList)).flatten.length < 1073741824) :
    Calls Tryd.prog 11 #[.slice (some ⟨bk, o, none⟩) xs.length c] w fun e w' => e = .returned (.agg (row8 (Sha2.sum (xs.map (·.data.toList)).flatten))) ∧ w.grew w' := by
  refine sum_of _ _ _ hK hlen fun l d => ?_
  have hj : Lib.join (xs.map (·.data.toList)) (str []).data.toList = (xs.map (·.data.toList)).flatten := by rw [str_data, join_nil_sep]
  refine (Tryd.strings_Join bk o c xs (str []) (w.ext l d) (fun j x hx => by rw [Ext.cell_old hbk]; exact hcells j x hx) (by rw [Ext.size]; omega) hN hcap (by rw [hj]; omega)).mono ?_
  rintro e w' ⟨rfl, hb⟩
  exact ⟨by rw [hj]; rfl, World.grew.of hb⟩

/-- .. that lies in a block of the walk's own. -/
theorem sum_ext {w : World} {L : List Obj} {d : Nat} (hK : Konst w) (k n c : Nat) (xs : List (List UInt8)) {T : TypeId} {fr : Nat × Nat} (hk : L[k]? = some (.cells (xs.map fun x => Value.string (str x)).toArray T fr)) (hn : n = xs.length) (hc : n ≤ c) (hN : n ≤ 140737488355328) (hlen : xs.flatten.length < 1073741824) :
    Calls Tryd.prog 11 #[.slice (some ⟨w.heap.size + k, 0, none⟩) n c] (w.ext L d) fun e w' => e = .returned (.agg (row8 (Sha2.sum xs.flatten))) ∧ (w.ext L d).grew w' := by
  subst hn
  have hkl := (List.getElem?_eq_some_iff.1 hk).1
  have e1 : (xs.map str).map (·.data.toList) = xs := by
    rw [List.map_map]
    conv => rhs; rw [← List.map_id xs]
    exact List.map_congr_left fun x _ => str_data x
  have := sum_slice (xs.map str) (w.heap.size + k) 0 c (w.ext L d) (hK.ext _ _) (fun j x hx => by
    rw [Nat.zero_add, Ext.cell, hk, Ext.cellOf_some]
    rw [List.getElem?_map] at hx
    simp only [List.getElem?_toArray, List.getElem?_map]
    cases hj : xs[j]? with
    | none => rw [hj] at hx; cases hx
    | some y => rw [hj] at hx; cases hx; rfl) (by rw [Ext.size]; omega) (by simpa using hN) (by simpa using hc) (by rw [e1]; exact hlen)
  rw [e1, List.length_map] at this
  exact this

theorem sum_none (a : Option Addr) (c : Nat) (w : World) (hK : Konst w) :
    Calls Tryd.prog 11 #[.slice a 0 c] w fun e w' => e = .returned (.agg (row8 (Sha2.sum []))) ∧ w.grew w' := by
  refine sum_of _ _ _ hK (by simp) fun l d => ?_
  refine (Tryd.strings_Join_none a c (str []) (w.ext l d)).mono ?_
  rintro e w' ⟨rfl, rfl⟩
  exact ⟨rfl, World.grew.refl _⟩
end Go.Proofs.YtcnligenhiiaaaaDoor
