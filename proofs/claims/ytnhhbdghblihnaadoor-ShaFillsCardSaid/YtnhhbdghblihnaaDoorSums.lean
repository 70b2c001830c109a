/- sha.Sum over a slice of strings that lies in the memory, and over none. -/
import Derived.Test.YtnhhbdghblihnaaDoorSum
namespace Go.Proofs.YtnhhbdghblihnaaDoor
open Go.RowKit Sha2 Words Bytes

theorem join_nil_sep (l : List (List UInt8)) : Lib.join l [] = l.flatten := by
  induction l with
  | nil => rfl
  | cons a t ih =>
    cases t with
    | nil => simp [Lib.join]
    | cons b t =>
      simp only [Lib.join, List.intercalate] at ih ⊢
      rw [List.intersperse_cons_cons, List.flatten_cons, List.flatten_cons, ih, List.nil_append, ← List.flatten_cons]

theorem sum_slice (xs : List ByteArray) (bk o c : Nat) (w : World) (hK : Konst w) (hcells : ∀ (j : Nat) x, xs[j]? = some x → w.cell? ⟨bk, o + j, none⟩ = some (.string x)) (hbk : bk < w.heap.size)
    (hN : xs.length ≤ 140737488355328) (hcap : xs.length ≤ c) (hlen : (xs.map (·.data.toList)).flatten.length < 1073741824) :
    Calls Tryd.prog 10 #[.slice (some ⟨bk, o, none⟩) xs.length c] w fun e w' => e = .returned (.agg (row8 (Sha2.sum (xs.map (·.data.toList)).flatten))) ∧ w.grew w' := by
  refine sum_of _ _ _ hK hlen fun l d => ?_
  have hj : Lib.join (xs.map (·.data.toList)) (str []).data.toList = (xs.map (·.data.toList)).flatten := by rw [str_data, join_nil_sep]
  refine (Tryd.strings_Join bk o c xs (str []) (w.ext l d) (fun j x hx => by rw [Ext.cell_old hbk]; exact hcells j x hx) (by rw [Ext.size]; omega) hN hcap (by rw [hj]; omega)).mono ?_
  rintro e w' ⟨rfl, hb⟩
  exact ⟨by rw [hj]; rfl, World.grew.of hb⟩

theorem sum_none (a : Option Addr) (c : Nat) (w : World) (hK : Konst w) :
    Calls Tryd.prog 10 #[.slice a 0 c] w fun e w' => e = .returned (.agg (row8 (Sha2.sum []))) ∧ w.grew w' := by
  refine sum_of _ _ _ hK (by simp) fun l d => ?_
  refine (Tryd.strings_Join_none a c (str []) (w.ext l d)).mono ?_
  rintro e w' ⟨rfl, rfl⟩
  exact ⟨rfl, World.grew.refl _⟩
end Go.Proofs.YtnhhbdghblihnaaDoor
