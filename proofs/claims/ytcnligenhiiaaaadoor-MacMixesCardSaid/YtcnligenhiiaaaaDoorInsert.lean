/- slices.Insert of one string ahead of a slice of strings that the call owns. -/
import Derived.Test.YtcnligenhiiaaaaDoorShelfStrs
import Derived.Test.YtcnligenhiiaaaaDoorOwn
import Derived.Lib.LazyBuf
namespace Go.Proofs.YtcnligenhiiaaaaDoor
open Go.RowKit Bytes

theorem insert_front {w : World} {l : List Obj} {d : Nat} (v : Value) (n : Nat) (cs : List Value) (x : Value) (kb : Nat) (T : TypeId) (hn : n ≤ 1000000) (h1c : ∀ u ∈ cs, u.oneCell' = true) (h1 : x.oneCell' = true)
    (hown : (w.ext l d).ownsRow w.heap.size 9 1 v n cs) (hkb : l[kb]? = some (.cells #[x] T (0, 0))) (hne : v.ownBlock ≠ some (w.heap.size + kb)) :
    Calls Tryd.prog 18 #[v, .int .i64 0, .slice (some ⟨w.heap.size + kb, 0, none⟩) 1 1] (w.ext l d) fun e w' =>
      ∃ b c, e = .returned (.slice (some ⟨b, 0, none⟩) (n + 1) c) ∧ n + 1 ≤ c ∧ b < w'.heap.size ∧ w.grew w' ∧ ∀ j u, (x :: cs)[j]? = some u → w'.cell? ⟨b, 0 + j, none⟩ = some u := by
  have hvs : ∀ j u, [x][j]? = some u → (w.ext l d).cell? ⟨w.heap.size + kb, 0 + j, none⟩ = some u := by
    intro j u hu
    rw [Ext.cell, hkb, Ext.cellOf_some, Nat.zero_add]
    simpa using hu
  have h1v : ∀ u ∈ [x], u.oneCell' = true := by
    intro u hu
    rw [List.mem_singleton] at hu
    subst hu
    exact h1
  have hcl : cs.length = n := by simpa using hown.1
  have grew_of : ∀ W, Below w.heap.size (w.ext l d) W → w.grew W := fun W h => World.grew.of (Ext.below.trans h)
  -- a new row behind all
  have fresh : ∀ (cap : Nat) (W : World), W = ((w.ext l d).drew.alloc (.cells ((cs ++ [x]).toArray ++ Builtin.zeroCells (Value.string ⟨#[]⟩).cells (cap - (n + 1))) 9)) → n = 0 → n + 1 ≤ cap →
      (w.ext l d).heap.size < W.heap.size ∧ w.grew W ∧ ∀ j u, (x :: cs)[j]? = some u → W.cell? ⟨(w.ext l d).heap.size, 0 + j, none⟩ = some u := by
    intro cap W hW h0 hcap
    subst hW
    have hc0 : cs = [] := List.eq_nil_of_length_eq_zero (by omega)
    subst hc0
    refine ⟨by simp, ?_, ?_⟩
    · rw [Ext.drew, Ext.alloc]
      exact World.grew_ext _ _ _
    · intro j u hu
      rw [Ext.drew, Ext.alloc, Ext.size, Ext.cell, Nat.zero_add, List.getElem?_append_right (Nat.le_refl _), Nat.sub_self]
      cases j with
      | zero =>
        rw [List.getElem?_cons_zero, Ext.cellOf_some, Array.getElem?_append_left (by simp)]
        simpa using hu
      | succ j => simp at hu
  obtain ⟨-, hv⟩ := hown
  rcases hv with ⟨rfl, rfl⟩ | ⟨g, cap, cur, rfl, hbg, hg, hnc, hcm, hcs, htake⟩
  · have hc0 : cs = [] := List.eq_nil_of_length_eq_zero hcl
    subst hc0
    refine (Any2.slices_Insert_string_end_grow Tryd.n222 none 0 0 (w.heap.size + kb) 0 1 1 [] [x] (w.ext l d) (by omega) (by omega) (by omega) (by omega) rfl rfl (fun _ => rfl) (fun a h => by cases h) hvs h1v).mono ?_
    rintro e w' ⟨rfl, rfl⟩
    have hge := grownCap_ge (w.ext l d) (0 + 1) 0 9
    have hf := fresh _ _ rfl rfl hge
    exact ⟨_, _, rfl, hge, hf.1, hf.2.1, hf.2.2⟩
  · have hcell : ∀ j u, cs[j]? = some u → (w.ext l d).cell? ⟨g, 0 + j, none⟩ = some u := by
      intro j u hu
      rw [cell_of_row _ _ _ _ _ _ hg, Nat.zero_add]
      rw [← htake, List.getElem?_take] at hu
      split at hu
      · simpa using hu
      · cases hu
    have hsome : ∀ j, j < cap → ((w.ext l d).cell? ⟨g, 0 + j, none⟩).isSome = true := by
      intro j hj
      rw [cell_of_row _ _ _ _ _ _ hg, Nat.zero_add, Array.getElem?_eq_getElem (by omega)]
      rfl
    have hfree : ∀ j, (w.ext l d).frozen? ⟨g, j, none⟩ = false := by
      intro j
      simp [World.frozen?, hg]
    have hgne : w.heap.size + kb ≠ g := fun e => hne (by rw [e]; rfl)
    unfold maxLen at hcm
    by_cases hroom : n + 1 ≤ cap
    · by_cases h0 : n = 0
      · subst h0
        have hc0 : cs = [] := List.eq_nil_of_length_eq_zero hcl
        subst hc0
        refine (Any2.slices_Insert_string_end_room Tryd.n222 g 0 0 cap (w.heap.size + kb) 0 1 1 [x] (w.ext l d) (by omega) hroom (by omega) rfl (fun j hj => by have := hsome j (by omega); simpa using this) (fun j _ => hfree _) hvs h1v).mono ?_
        rintro e w' ⟨rfl, rfl⟩
        refine ⟨_, _, rfl, hroom, ?_, ?_, ?_⟩
        · have := (below_setCells hbg [x] (0 + 0) (w.ext l d) (Below.refl _ _)).size
          have := (Array.getElem?_eq_some_iff.1 hg).1
          omega
        · exact grew_of _ (below_setCells hbg _ _ _ (Below.refl _ _))
        · intro j u hu
          have hj : j = 0 := by
            have := (List.getElem?_eq_some_iff.1 hu).1
            simp at this
            omega
          subst hj
          have := World.cell?_setCells_in g [x] (0 + 0) (w.ext l d) (fun j hj => by have := hsome j (by simp at hj; omega); simpa using this) 0 (by simp)
          rw [show 0 + 0 = 0 from rfl] at this ⊢
          rw [this]
          exact hu
      · refine (Any2.slices_Insert_string_shift Tryd.n222 g 0 n cap 0 (w.heap.size + kb) 0 1 1 cs [x] (w.ext l d) (by omega) (by omega) hroom (by omega) hgne hcl rfl hcell (fun j hj => hsome j (by omega)) (fun j _ => hfree _) hvs h1c h1v T 9 1 cur.size
          (by simp [World.shape?, Ext.block, hkb]) (by simp [World.shape?, hg]) (by omega) (by simp [World.frozen?, Ext.block, hkb]) (by simp [World.frozen?, Ext.block, hkb])).mono ?_
        rintro e w' ⟨rfl, rfl⟩
        have hb1 := below_setCells hbg (cs.drop 0) (0 + (0 + 1)) (w.ext l d).drew (Below.refl w.heap.size (w.ext l d)).drew
        have hb2 := below_setCells hbg [x] (0 + 0) _ hb1
        refine ⟨_, _, rfl, hroom, ?_, grew_of _ hb2, ?_⟩
        · have := hb2.size
          have := (Array.getElem?_eq_some_iff.1 hg).1
          omega
        · intro j u hu
          rw [List.drop_zero]
          have hs1 : ∀ j, j < cap → (((w.ext l d).drew.setCells g (0 + (0 + 1)) cs).cell? ⟨g, 0 + j, none⟩).isSome = true := fun j hj => by
            exact isSome_setCells g cs _ _ (fun i hi => by have := hsome (1 + i) (by omega); simpa [Nat.add_comm] using this) _ (hsome j hj)
          cases j with
          | zero =>
            have := World.cell?_setCells_in g [x] (0 + 0) ((w.ext l d).drew.setCells g (0 + (0 + 1)) cs) (fun j hj => by simp at hj; subst hj; exact hs1 0 (by omega)) 0 (by simp)
            rw [show 0 + 0 = 0 from rfl] at this ⊢
            rw [this]
            exact hu
          | succ j =>
            rw [World.cell?_setCells_out g [x] (0 + 0) _ _ (fun _ _ => by right; simp)]
            have hj : j < cs.length := by
              have := (List.getElem?_eq_some_iff.1 hu).1
              simpa using this
            have := World.cell?_setCells_in g cs (0 + (0 + 1)) (w.ext l d).drew (fun i hi => by have := hsome (1 + i) (by omega); simpa [Nat.add_comm] using this) j hj
            rw [show 0 + (j + 1) = 0 + (0 + 1) + j by omega, this]
            simpa [List.getElem?_eq_getElem hj] using hu
    · by_cases h0 : n = 0
      · subst h0
        have hc0 : cs = [] := List.eq_nil_of_length_eq_zero hcl
        subst hc0
        refine (Any2.slices_Insert_string_end_grow Tryd.n222 (some ⟨g, 0, none⟩) 0 cap (w.heap.size + kb) 0 1 1 [] [x] (w.ext l d) (by omega) hnc (by omega) (by omega) rfl rfl (fun h => by cases h) (fun a _ j v h => by simp at h) hvs h1v).mono ?_
        rintro e w' ⟨rfl, rfl⟩
        have hge := grownCap_ge (w.ext l d) (0 + 1) cap 9
        have hf := fresh _ _ rfl rfl hge
        exact ⟨_, _, rfl, hge, hf.1, hf.2.1, hf.2.2⟩
      · refine (Any2.slices_Insert_string_grow Tryd.n222 g 0 n cap 0 (w.heap.size + kb) 0 1 1 cs [x] (w.ext l d) (by omega) (by omega) hnc (by omega) (by omega) hcl rfl hcell hvs h1c h1v).mono ?_
        rintro e w' ⟨rfl, hW⟩
        have hge := grownCap_ge (w.ext l d) (n + 1) cap 9
        obtain ⟨row, hrs, hW'⟩ : ∃ row : Array Value, n + 1 ≤ row.size ∧ w' = ((((w.ext l d).alloc (.cells row 9)).drew.setCells (w.ext l d).heap.size 0 [x]).drew).setCells (w.ext l d).heap.size (0 + 1) cs := by
          rw [List.drop_zero] at hW
          refine ⟨_, ?_, hW⟩
          simp [size_zeroCells, Value.cells]
        clear hW
        rw [Ext.alloc, Ext.drew, Ext.size] at hW'
        subst hW'
        have hb0 : Below w.heap.size (w.ext l d) (w.ext (l ++ [Obj.cells row 9]) (d + 1)) := ⟨rfl, rfl, rfl, by rw [Ext.size, Ext.size, List.length_append]; omega, fun k hk => by rw [Ext.old hk, Ext.old hk]⟩
        have hb1 := (below_setCells (show w.heap.size ≤ w.heap.size + l.length by omega) [x] 0 _ hb0).drew
        have hb2 := below_setCells (show w.heap.size ≤ w.heap.size + l.length by omega) cs (0 + 1) _ hb1
        have hs0 : ∀ j, j < n + 1 → ((w.ext (l ++ [Obj.cells row 9]) (d + 1)).cell? ⟨w.heap.size + l.length, 0 + j, none⟩).isSome = true := fun j hj => by
          rw [Ext.cell, List.getElem?_append_right (Nat.le_refl _), Nat.sub_self]
          rw [List.getElem?_cons_zero, Ext.cellOf_some, Nat.zero_add, Array.getElem?_eq_getElem (by omega)]
          rfl
        have hs1 : ∀ j, j < n + 1 → (((w.ext (l ++ [Obj.cells row 9]) (d + 1)).setCells (w.heap.size + l.length) 0 [x]).drew.cell? ⟨w.heap.size + l.length, 0 + j, none⟩).isSome = true := fun j hj => by
          exact isSome_setCells (w.heap.size + l.length) [x] _ _ (fun i hi => hs0 i (by simp at hi; omega)) _ (hs0 j hj)
        refine ⟨_, _, rfl, hge, ?_, grew_of _ hb2, ?_⟩
        · have h2 := below_setCells (show w.heap.size ≤ w.heap.size + l.length by omega) cs (0 + 1) _ (below_setCells (show w.heap.size ≤ w.heap.size + l.length by omega) [x] 0 _ (Below.refl w.heap.size (w.ext (l ++ [Obj.cells row 9]) (d + 1)))).drew
          have h3 := h2.size
          rw [Ext.size, List.length_append] at h3
          simp only [List.length_singleton] at h3
          rw [Ext.size]
          omega
        · intro j u hu
          rw [Ext.size]
          cases j with
          | zero =>
            rw [World.cell?_setCells_out (w.heap.size + l.length) cs (0 + 1) _ _ (fun _ _ => by left; simp)]
            have := World.cell?_setCells_in (w.heap.size + l.length) [x] 0 (w.ext (l ++ [Obj.cells row 9]) (d + 1)) (fun j hj => hs0 j (by simp at hj; omega)) 0 (by simp)
            refine Eq.trans this ?_
            exact hu
          | succ j =>
            have hj : j < cs.length := by
              have := (List.getElem?_eq_some_iff.1 hu).1
              simpa using this
            have := World.cell?_setCells_in (w.heap.size + l.length) cs (0 + 1) (((w.ext (l ++ [Obj.cells row 9]) (d + 1)).setCells (w.heap.size + l.length) 0 [x]).drew) (fun i hi => by have := hs1 (1 + i) (by omega); simpa [Nat.add_comm] using this) j hj
            rw [show 0 + (j + 1) = 0 + 1 + j by omega, this]
            simpa [List.getElem?_eq_getElem hj] using hu
end Go.Proofs.YtcnligenhiiaaaaDoor
