/- mac.Mac: the tag of the parts' bytes by a key. -/
import Derived.Test.YtcnligenhiiaaaaDoorMacWith
import Derived.Test.YtcnligenhiiaaaaDoorInsert
import Derived.Test.YtcnligenhiiaaaaDoorTail
import Derived.Test.YtcnligenhiiaaaaDoorSums
import Derived.Lib.BufferWrite
namespace Go.Ext
open Go.RowKit Bytes
theorem copy_str {P : Program} {w : World} {l : List Obj} {d : Nat} (dT sT ty k o dLen dCap : Nat) (s : List UInt8) (hu : P.underlying dT = some (.slice (P.elem dT))) (hs : (sizeOf (P.elem dT)).run P (w.ext l d) = .ok 1 (w.ext l d))
    (hf : isFree l[k]? = true) (hle : s.length ≤ dLen) (hfit : o + s.length ≤ (rowOf l[k]?).size) :
    (Builtin.copy_ #[dT, sT] ty #[.slice (some ⟨w.heap.size + k, o, none⟩) dLen dCap, .string (str s)]).run P (w.ext l d) =
      .ok (.int .i64 (s.length : Int)) (w.ext (l.modify k (putRow · (spliced (rowOf l[k]?) o (row8 s) 0 s.length))) d) := by
  obtain ⟨T, e⟩ := of_isFree hf
  have := Lib.run_copy_row_string (P := P) (w.ext l d) dT sT ty (P.elem dT) (w.heap.size + k) o dLen dCap (str s) (rowOf l[k]?) T hu (info_of_size hs) ((block k).trans e) (by rw [str_size]; exact hle) (by rw [str_size]; exact hfit)
  rw [this, setRow k _ _ T e, str_size, str_data]
  have ht : List.take s.length (List.map b8 s) = Lib.byteCells s := List.take_of_length_le (by simp)
  simp only [spliced, row8, List.drop_zero]
  rw [ht]
  rfl
theorem copy_str0 {P : Program} {w : World} {l : List Obj} {d : Nat} (dT sT ty o dLen dCap : Nat) (s : List UInt8) (hu : P.underlying dT = some (.slice (P.elem dT))) (hs : (sizeOf (P.elem dT)).run P (w.ext l d) = .ok 1 (w.ext l d))
    (hf : isFree l[0]? = true) (hle : s.length ≤ dLen) (hfit : o + s.length ≤ (rowOf l[0]?).size) :
    (Builtin.copy_ #[dT, sT] ty #[.slice (some ⟨w.heap.size, o, none⟩) dLen dCap, .string (str s)]).run P (w.ext l d) =
      .ok (.int .i64 (s.length : Int)) (w.ext (l.modify 0 (putRow · (spliced (rowOf l[0]?) o (row8 s) 0 s.length))) d) := copy_str dT sT ty 0 o dLen dCap s hu hs hf hle hfit
attribute [go_sem] copy_str copy_str0
end Go.Ext
namespace Go.Proofs.YtcnligenhiiaaaaDoor
open Go.RowKit Sha2 Words Bytes

/-- A slice of strings that lies in the memory. -/
def Strs (w : World) (pv : Value) (xs : List (List UInt8)) : Prop :=
  (∃ a c, pv = .slice a 0 c ∧ xs = []) ∨ ∃ bk o c, pv = .slice (some ⟨bk, o, none⟩) xs.length c ∧ xs.length ≤ c ∧ bk < w.heap.size ∧ ∀ j, j < xs.length → w.cell? ⟨bk, o + j, none⟩ = some (.string (str (xs.getD j [])))
theorem Strs.ext {w : World} {pv : Value} {xs : List (List UInt8)} (h : Strs w pv xs) (l : List Obj) (d : Nat) : Strs (w.ext l d) pv xs := by
  rcases h with h | ⟨bk, o, c, h1, h2, h3, h4⟩
  · exact .inl h
  · exact .inr ⟨bk, o, c, h1, h2, by rw [Ext.size]; omega, fun j hj => by rw [Ext.cell_old h3]; exact h4 j hj⟩
theorem Strs.slice {w : World} {pv : Value} {xs : List (List UInt8)} (h : Strs w pv xs) : ∃ a n c, pv = .slice a n c := by
  rcases h with ⟨a, c, h1, h2⟩ | ⟨bk, o, c, h1, -⟩
  · exact ⟨_, _, _, h1⟩
  · exact ⟨_, _, _, h1⟩

theorem owns_more {w : World} {L m : List Obj} {d d' base e s n : Nat} {v : Value} {xs : List Value} (h : (w.ext L d).ownsRow base e s v n xs) : (w.ext (L ++ m) d').ownsRow base e s v n xs := by
  obtain ⟨h1, h2⟩ := h
  refine ⟨h1, ?_⟩
  rcases h2 with h2 | ⟨g, cap, cur, rfl, hb, hg, hn, hm, hc, ht⟩
  · exact .inl h2
  · refine .inr ⟨g, cap, cur, rfl, hb, ?_, hn, hm, hc, ht⟩
    have hlt := (Array.getElem?_eq_some_iff.1 hg).1
    rw [← hg]
    simp only [World.ext]
    rw [Ext.size] at hlt
    simp only [Array.getElem?_append]
    split
    · rfl
    · simp only [List.getElem?_toArray]
      rw [List.getElem?_append_left (by omega)]
def cellsOf (xs : List (List UInt8)) : List Value := xs.map fun x => Value.string (str x)
theorem clone_strs {w : World} {L : List Obj} {d : Nat} (pv : Value) (xs : List (List UInt8)) (hp : Strs w pv xs) (hn : xs.length ≤ 1000000) :
    Calls Tryd.prog 19 #[pv] (w.ext L d) fun e w' => ∃ v l' d', e = .returned v ∧ w' = w.ext (L ++ l') d' ∧ (w.ext (L ++ l') d').ownsRow (w.heap.size + L.length) 9 1 v xs.length (cellsOf xs) := by
  have key : ∀ W v n cs, (World.ownsRow W (w.ext L d).heap.size 9 1 v n cs) → Below (w.ext L d).heap.size (w.ext L d) W → ∃ l' d', W = w.ext (L ++ l') d' ∧ (w.ext (L ++ l') d').ownsRow (w.heap.size + L.length) 9 1 v n cs := by
    intro W v n cs ho hb
    obtain ⟨l', hl⟩ := Ext.of_below (w := w.ext L d) hb
    rw [Ext.ext] at hl
    rw [Ext.size] at ho
    rw [hl] at ho
    exact ⟨l', _, hl, ho⟩
  rcases hp with ⟨a, c, rfl, rfl⟩ | ⟨bk, o, c, rfl, hc, hb, hcell⟩
  · cases a with
    | none =>
      refine (Any.slices_Clone_string_nil Tryd.n216 0 c (w.ext L d)).mono ?_
      rintro e w' ⟨rfl, rfl⟩
      exact ⟨_, [], d, rfl, by rw [List.append_nil], World.ownsRow_nil _ _ _ _⟩
    | some a =>
      refine (Any.slices_Clone_string_zero Tryd.n216 a c (w.ext L d)).mono ?_
      rintro e w' ⟨v, rfl, ho, -, hb⟩
      obtain ⟨l', d', h1, h2⟩ := key w' v 0 [] ho hb
      exact ⟨v, l', d', rfl, h1, h2⟩
  · refine (Any.slices_Clone_string Tryd.n216 bk o xs.length c (xs.map str) (w.ext L d) (by simp) (by omega) (fun j hj => by
      rw [List.length_map] at hj
      rw [Ext.cell_old hb, hcell j hj]
      simp [List.getD_eq_getElem?_getD, List.getElem?_eq_getElem hj])).mono ?_
    rintro e w' ⟨v, rfl, ho, -, hb⟩
    have e1 : ((xs.map str).take xs.length).map Value.string = cellsOf xs := by
      rw [List.take_of_length_le (by simp), List.map_map]; rfl
    rw [e1] at ho
    obtain ⟨l', d', h1, h2⟩ := key w' v xs.length _ ho hb
    exact ⟨v, l', d', rfl, h1, h2⟩

theorem insert_in {w : World} {pre l : List Obj} {d : Nat} (v : Value) (x : List UInt8) (xs : List (List UInt8)) (kb : Nat) (T : TypeId) (hn : xs.length ≤ 1000000)
    (hown : (w.ext (pre ++ l) d).ownsRow (w.heap.size + pre.length) 9 1 v xs.length (cellsOf xs)) (hkb : (pre ++ l)[kb]? = some (.cells #[.string (str x)] T (0, 0))) (hpre : pre.length ≤ kb) (hne : v.ownBlock ≠ some (w.heap.size + kb)) :
    Calls Tryd.prog 18 #[v, .int .i64 0, .slice (some ⟨w.heap.size + kb, 0, none⟩) 1 1] (w.ext (pre ++ l) d) fun e w' =>
      ∃ b c l' d', e = .returned (.slice (some ⟨b, 0, none⟩) (x :: xs).length c) ∧ (x :: xs).length ≤ c ∧ w' = w.ext (pre ++ l') d' ∧ b < w'.heap.size ∧ ∀ j u, ((x :: xs).map str)[j]? = some u → w'.cell? ⟨b, 0 + j, none⟩ = some (.string u) := by
  have h := insert_front (w := w.ext pre d) (l := l) (d := d) v xs.length (cellsOf xs) (.string (str x)) (kb - pre.length) T hn (fun u hu => by
    simp only [cellsOf, List.mem_map] at hu
    obtain ⟨y, -, rfl⟩ := hu
    rfl) rfl (by rw [Ext.ext, Ext.size]; exact hown) (by rw [← hkb, List.getElem?_append_right hpre]) (by rw [Ext.size, show w.heap.size + pre.length + (kb - pre.length) = w.heap.size + kb by omega]; exact hne)
  rw [Ext.ext, Ext.size, show w.heap.size + pre.length + (kb - pre.length) = w.heap.size + kb by omega] at h
  refine h.mono ?_
  rintro e w' ⟨b, c, rfl, hc, hb, ⟨l', d', rfl⟩, hcell⟩
  rw [Ext.ext] at hb hcell ⊢
  refine ⟨b, c, l', d', rfl, hc, rfl, hb, fun j u hu => hcell j _ ?_⟩
  cases j with
  | zero => simp at hu; subst hu; rfl
  | succ j =>
    simp only [List.map_cons, List.getElem?_cons_succ, List.getElem?_map] at hu
    simp only [List.getElem?_cons_succ, cellsOf, List.getElem?_map]
    cases hx : xs[j]? with
    | none => rw [hx] at hu; cases hu
    | some y => rw [hx] at hu; cases hu; rfl

theorem owns_base {W : World} {base base' e s n : Nat} {v : Value} {xs : List Value} (h : W.ownsRow base e s v n xs) (hb : base' ≤ base) : W.ownsRow base' e s v n xs := by
  obtain ⟨h1, h2⟩ := h
  refine ⟨h1, ?_⟩
  rcases h2 with h2 | ⟨g, cap, cur, rfl, hg, r⟩
  · exact .inl h2
  · exact .inr ⟨g, cap, cur, rfl, by omega, r⟩

def zeroPad : Array Value := row8 (List.replicate 64 0)
@[go_sem] theorem allocPad (W : World) : (Ext.allocOf 43).run Tryd.prog W = .ok (.value (.pointer (some ⟨W.heap.size, 0, none⟩))) (W.alloc (.cells zeroPad 43)) := by kernel_rfl
@[go_sem] theorem zeroPad_size : zeroPad.size = 64 := by simp [zeroPad, row8]
@[go_sem] theorem zeroPad_one : Ext.oneCells zeroPad = true := row8_one _

def padOf (k : List UInt8) : List UInt8 := k ++ List.replicate (64 - k.length) 0
theorem padOf_length (k : List UInt8) (h : k.length ≤ 64) : (padOf k).length = 64 := by simp [padOf]; omega
theorem padOf_mixed (k : List UInt8) (b : UInt8) : List.map (fun c : UInt8 => c ^^^ b) (padOf k) = mixed k b := rfl
@[go_sem] theorem zeroPad_spliced (s : List UInt8) : Ext.spliced zeroPad 0 (row8 s) 0 s.length = row8 (padOf s) := by
  rw [padOf, zeroPad, row8_spliced, List.take_zero, List.nil_append, List.drop_zero, List.take_length, Nat.zero_add, List.drop_replicate]

set_option maxHeartbeats 1000000 in
set_option maxRecDepth 100000 in
theorem mac_any (k : List UInt8) (pv : Value) (xs : List (List UInt8)) (hk : k.length < 1000000) (hx : xs.flatten.length < 1000000) (hn : xs.length ≤ 1000000) (w : World) (hK : Konst w) (hp : Strs w pv xs) :
    Calls Tryd.prog 10 #[.string (str k), pv] w fun e w' => e = .returned (.agg (row8 (mac k xs.flatten))) ∧ w.grew w' := by
  refine Ext.entered w ?_
  have HK := Kept.mk hK
  have HS := Kept.mk hp
  clear hK hp
  go_enter Tryd.func10, Tryd.ntmps10
  by_cases hlen : 64 < k.length
  · go_wp2_with fail
    refine (sum_ext HK.out 2 1 1 [k] (by rfl) rfl (Nat.le_refl _) (by omega) (by simp; omega)).mono ?_
    rintro e w' ⟨rfl, l7, d7, rfl⟩
    rw [Ext.ext, show [k].flatten = k by simp]
    obtain ⟨q, hq⟩ : ∃ q, q = Sha2.sum k := ⟨_, rfl⟩
    rw [← hq]
    have hql : q.length = 32 := by rw [hq]; exact sum_length k
    have HQ := Kept.mk hq
    clear hq
    simp only [List.cons_append, List.nil_append]
    have hqt : q.take 32 = q := List.take_of_length_le (by omega)
    have hq64 : q.length ≤ 64 := by omega
    have hmk := padOf_length q hq64
    have hspq : Ext.spliced zeroPad 0 (row8 q) 0 32 = row8 (padOf q) := by
      have := zeroPad_spliced q
      rwa [hql] at this
    go_wp2_with fail
    generalize Obj.cells #[Value.string (str k)] 9 :: (l7 ++ [Obj.cells (row8 q) 25]) = l0
    refine (clone_strs pv xs HS.out hn).mono ?_
    rintro e w' ⟨v, l1, d1, rfl, rfl, hown⟩
    have hown := owns_base (base' := w.heap.size + [Obj.cells zero32 25, Obj.cells (row8 (padOf q)) 43].length) hown (by simp)
    rw [show Obj.cells zero32 25 :: Obj.cells (row8 (padOf q)) 43 :: l0 ++ l1 = [Obj.cells zero32 25, Obj.cells (row8 (padOf q)) 43] ++ (l0 ++ l1) from rfl] at hown ⊢
    generalize l0 ++ l1 = l1 at *
    have HO := Kept.mk hown
    clear hown
    simp only [List.cons_append, List.nil_append]
    go_wp2_with fail
    refine (with_any (padOf q) hmk 54 _).mono ?_
    rintro e w' ⟨rfl, l2, d2, rfl⟩
    rw [Ext.ext, padOf_mixed]
    simp only [List.cons_append]
    go_wp2_with fail
    have hi := insert_in (w := w) (pre := [Obj.cells zero32 25, Obj.cells (row8 (padOf q)) 43]) (l := l1 ++ (l2 ++ [Obj.cells #[Value.string (str (mixed q 54))] 9])) (d := d2) v (mixed q 54) xs (l1.length + l2.length + 1 + 1) 9 hn
      (by have := owns_more (m := l2 ++ [Obj.cells #[Value.string (str (mixed q 54))] 9]) (d' := d2) HO.out; rwa [List.append_assoc] at this)
      (by simp only [List.cons_append, List.nil_append, List.getElem?_cons_succ]; rw [← List.append_assoc, ← List.length_append]; exact Ext.gap_get0 _ _ []) (by simp)
      (fun e => by have := (HO.out.lt _ e).2; rw [Ext.size] at this; simp at this; omega)
    refine hi.mono ?_
    clear hi
    rintro e w' ⟨b, c, l3, d3, rfl, hc, rfl, hb, hcell⟩
    have hs1 := sum_slice ((mixed q 54 :: xs).map str) b 0 c _ (HK.out.ext _ _) hcell hb (by simp; omega) (by simpa using hc)
    have e1 : (((mixed q 54 :: xs).map str).map (·.data.toList)).flatten = mixed q 54 ++ xs.flatten := by
      rw [List.map_map, show ((fun x : ByteArray => x.data.toList) ∘ str) = id from funext fun x => str_data x, List.map_id, List.flatten_cons]
    have hl1 := mixed_length q 54 hq64
    rw [e1, List.length_map, List.length_cons] at hs1
    have HS1 := Kept.mk (hs1 (by rw [List.length_append]; omega))
    clear hs1 e1 hcell hb hc HO
    go_wp2_with fail
    refine HS1.out.mono ?_
    rintro e w' ⟨rfl, l4, d4, rfl⟩
    rw [Ext.ext]
    obtain ⟨r, hr⟩ : ∃ r, r = Sha2.sum (mixed q 54 ++ xs.flatten) := ⟨_, rfl⟩
    rw [← hr]
    have hrl : r.length = 32 := by rw [hr]; exact sum_length _
    have HR := Kept.mk hr
    clear hr HS1
    simp only [List.cons_append, List.nil_append]
    generalize l3 ++ l4 = gap
    have hrt : r.take 32 = r := List.take_of_length_le (by omega)
    have hl2 := mixed_length q 92 hq64
    have hko : Sha2.keyOf k = q := by unfold Sha2.keyOf; rw [if_pos hlen, HQ.out]
    have hfin : mac k xs.flatten = Sha2.sum (mixed q 92 ++ r) := by rw [mac, hko, HR.out]
    have HF := Kept.mk hfin
    clear hfin hko
    have cm := fun W => with_any (padOf q) hmk 92 W
    rw [padOf_mixed] at cm
    have CM := Kept.mk cm
    clear cm
    generalize mixed q 92 = m2 at *
    go_wp2_with fail
    refine Tail.lit 4 (by kernel_rfl) (by decide) (by kernel_rfl) (by kernel_rfl) (by kernel_rfl) (by kernel_rfl) ?_
    simp only [List.take_succ_cons, List.take_zero, List.drop_succ_cons, List.drop_zero]
    repeat (first | go_big_quiet_skip | (go_big_quiet_want; go_big_quiet_op; go_big_quiet_on))
    go_big_quiet_want
    go_big_quiet_op
    refine ⟨_, fun x => Grow.calls_at (n := x.n) (by simp) (CM.out _), ?_⟩
    go_big_quiet_on
    repeat (first | go_big_quiet_skip | (go_big_quiet_want; go_big_quiet_op; go_big_quiet_on))
    refine wpQuiet_nil ?_
    intro n e
    have hfl : (Sha2.sum (m2 ++ r)).length = 32 := sum_length _
    go_wp2_with fail
    refine (sum_ext HK.out (gap.length + (n.length + 1) + 1 + 1) 2 2 [m2, r] (by simp only [List.getElem?_cons_succ]; exact Ext.gap2_get gap n [] _ _) rfl (Nat.le_refl _) (by omega) (by simp; omega)).mono ?_
    rintro e w' ⟨rfl, l9, d9, rfl⟩
    rw [Ext.ext, show [m2, r].flatten = m2 ++ r by simp]
    simp only [List.cons_append]
    go_wp2_with fail
    refine bodyPost_ret (v := .agg (row8 (Sha2.sum (m2 ++ r)))) ?_ rfl ?_
    · exact Ext.result_row (k := 0) rfl _ rfl _ _ _ rfl (by simp) (by simp only [row8_size, hfl]; simp)
    · exact ⟨by rw [HF.out], World.grew_ext _ _ _⟩
  · have hk64 : k.length ≤ 64 := by omega
    have hmk := padOf_length k hk64
    go_wp2_with fail
    refine (clone_strs pv xs HS.out hn).mono ?_
    rintro e w' ⟨v, l1, d1, rfl, rfl, hown⟩
    have HO := Kept.mk hown
    clear hown
    simp only [List.cons_append, List.nil_append]
    go_wp2_with fail
    refine (with_any (padOf k) hmk 54 _).mono ?_
    rintro e w' ⟨rfl, l2, d2, rfl⟩
    rw [Ext.ext, padOf_mixed]
    simp only [List.cons_append]
    go_wp2_with fail
    have hi := insert_in (w := w) (pre := [Obj.cells zero32 25, Obj.cells (row8 (padOf k)) 43]) (l := l1 ++ (l2 ++ [Obj.cells #[Value.string (str (mixed k 54))] 9])) (d := d2) v (mixed k 54) xs (l1.length + l2.length + 1 + 1) 9 hn
      (by have := owns_more (m := l2 ++ [Obj.cells #[Value.string (str (mixed k 54))] 9]) (d' := d2) HO.out; rwa [List.append_assoc] at this)
      (by simp only [List.cons_append, List.nil_append, List.getElem?_cons_succ]; rw [← List.append_assoc, ← List.length_append]; exact Ext.gap_get0 _ _ []) (by simp)
      (fun e => by have := (HO.out.lt _ e).2; rw [Ext.size] at this; simp at this; omega)
    refine hi.mono ?_
    clear hi
    rintro e w' ⟨b, c, l3, d3, rfl, hc, rfl, hb, hcell⟩
    have hs1 := sum_slice ((mixed k 54 :: xs).map str) b 0 c _ (HK.out.ext _ _) hcell hb (by simp; omega) (by simpa using hc)
    have e1 : (((mixed k 54 :: xs).map str).map (·.data.toList)).flatten = mixed k 54 ++ xs.flatten := by
      rw [List.map_map, show ((fun x : ByteArray => x.data.toList) ∘ str) = id from funext fun x => str_data x, List.map_id, List.flatten_cons]
    have hl1 := mixed_length k 54 hk64
    rw [e1, List.length_map, List.length_cons] at hs1
    have HS1 := Kept.mk (hs1 (by rw [List.length_append]; omega))
    clear hs1 e1 hcell hb hc HO
    go_wp2_with fail
    refine HS1.out.mono ?_
    rintro e w' ⟨rfl, l4, d4, rfl⟩
    rw [Ext.ext]
    obtain ⟨r, hr⟩ : ∃ r, r = Sha2.sum (mixed k 54 ++ xs.flatten) := ⟨_, rfl⟩
    rw [← hr]
    have hrl : r.length = 32 := by rw [hr]; exact sum_length _
    have HR := Kept.mk hr
    clear hr HS1
    simp only [List.cons_append, List.nil_append]
    generalize l3 ++ l4 = gap
    have hrt : r.take 32 = r := List.take_of_length_le (by omega)
    have hl2 := mixed_length k 92 hk64
    have hko : Sha2.keyOf k = k := by unfold Sha2.keyOf; rw [if_neg hlen]
    have hfin : mac k xs.flatten = Sha2.sum (mixed k 92 ++ r) := by rw [mac, hko, HR.out]
    have HF := Kept.mk hfin
    clear hfin hko
    have cm := fun W => with_any (padOf k) hmk 92 W
    rw [padOf_mixed] at cm
    have CM := Kept.mk cm
    clear cm
    generalize mixed k 92 = m2 at *
    go_wp2_with fail
    refine Tail.lit 4 (by kernel_rfl) (by decide) (by kernel_rfl) (by kernel_rfl) (by kernel_rfl) (by kernel_rfl) ?_
    simp only [List.take_succ_cons, List.take_zero, List.drop_succ_cons, List.drop_zero]
    repeat (first | go_big_quiet_skip | (go_big_quiet_want; go_big_quiet_op; go_big_quiet_on))
    go_big_quiet_want
    go_big_quiet_op
    refine ⟨_, fun x => Grow.calls_at (n := x.n) (by simp) (CM.out _), ?_⟩
    go_big_quiet_on
    repeat (first | go_big_quiet_skip | (go_big_quiet_want; go_big_quiet_op; go_big_quiet_on))
    refine wpQuiet_nil ?_
    intro n e
    have hfl : (Sha2.sum (m2 ++ r)).length = 32 := sum_length _
    go_wp2_with fail
    refine (sum_ext HK.out (gap.length + (n.length + 1) + 1 + 1) 2 2 [m2, r] (by simp only [List.getElem?_cons_succ]; exact Ext.gap2_get gap n [] _ _) rfl (Nat.le_refl _) (by omega) (by simp; omega)).mono ?_
    rintro e w' ⟨rfl, l9, d9, rfl⟩
    rw [Ext.ext, show [m2, r].flatten = m2 ++ r by simp]
    simp only [List.cons_append]
    go_wp2_with fail
    refine bodyPost_ret (v := .agg (row8 (Sha2.sum (m2 ++ r)))) ?_ rfl ?_
    · exact Ext.result_row (k := 0) rfl _ rfl _ _ _ rfl (by simp) (by simp only [row8_size, hfl]; simp)
    · exact ⟨by rw [HF.out], World.grew_ext _ _ _⟩
end Go.Proofs.YtcnligenhiiaaaaDoor
