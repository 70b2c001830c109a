/- A slice that the call made and appends to, in a world written out with new blocks behind its own: l0 (what stands), l (what may change). -/
import Derived.Maps.AppendAt
import Derived.ArgAppend
import Derived.Test.YtcnligenhiiaaaaDoorBytes
namespace Go

/-- A slice of n elements with the cells xs: none; or one whose row is full; or one in a row of the call's own, from block n0 on. -/
def Sl (w : World) (n0 : Nat) (L : List Obj) (e size : Nat) (v : Value) (n : Nat) (xs : List Value) : Prop :=
  xs.length = n * size ∧ n ≤ maxLen ∧
  ((v = .slice none 0 0 ∧ n = 0) ∨
   (∃ k cur T fr, v = .slice (some ⟨w.heap.size + k, 0, none⟩) n n ∧ L[k]? = some (.cells cur T fr) ∧ cur.toList.take (n * size) = xs) ∨
   (∃ k cap cur, n0 ≤ k ∧ v = .slice (some ⟨w.heap.size + k, 0, none⟩) n cap ∧ L[k]? = some (.cells cur e (0, 0)) ∧ n ≤ cap ∧ cap ≤ maxLen ∧ cur.size = cap * size ∧ cur.toList.take (n * size) = xs))

namespace Sl
open Go.RowKit
variable {w : World} {l0 l L : List Obj} {d n0 e size n : Nat} {v : Value} {xs : List Value}

theorem empty (w : World) (n0 : Nat) (L : List Obj) (e size : Nat) : Sl w n0 L e size (.slice none 0 0) 0 [] :=
  ⟨by simp, by decide, .inl ⟨rfl, rfl⟩⟩
/-- A slice over a whole row. -/
theorem full (k : Nat) (cs : Array Value) (T : TypeId) (fr : Nat × Nat) (hn : cs.toList.length = n * size) (hm : n ≤ maxLen) (hk : L[k]? = some (.cells cs T fr)) :
    Sl w n0 L e size (.slice (some ⟨w.heap.size + k, 0, none⟩) n n) n cs.toList :=
  ⟨hn, hm, .inr (.inl ⟨k, cs, T, fr, rfl, hk, by rw [← hn, List.take_length]⟩)⟩

/-- It stays, whatever else is done to other blocks. -/
theorem stays {L' : List Obj} (h : Sl w n0 L e size v n xs) (hk : ∀ k o, v.ownBlock = some (w.heap.size + k) → L[k]? = some o → L'[k]? = some o) : Sl w n0 L' e size v n xs := by
  obtain ⟨h1, h2, h3⟩ := h
  refine ⟨h1, h2, ?_⟩
  rcases h3 with h3 | ⟨k, cur, T, fr, rfl, hg, ht⟩ | ⟨k, cap, cur, hb, rfl, hg, hn, hm, hc, ht⟩
  · exact .inl h3
  · exact .inr (.inl ⟨k, cur, T, fr, rfl, hk k _ rfl hg, ht⟩)
  · exact .inr (.inr ⟨k, cap, cur, hb, rfl, hk k _ rfl hg, hn, hm, hc, ht⟩)
theorem more (h : Sl w n0 L e size v n xs) (m : List Obj) : Sl w n0 (L ++ m) e size v n xs :=
  h.stays fun k o _ hk => by rw [List.getElem?_append_left (List.getElem?_eq_some_iff.1 hk).1]; exact hk
theorem length (h : Sl w n0 L e size v n xs) : xs.length = n * size := h.1
theorem slice (h : Sl w n0 L e size v n xs) : ∃ a c, v = .slice a n c := by
  rcases h.2.2 with ⟨rfl, rfl⟩ | ⟨k, cur, T, fr, rfl, -⟩ | ⟨k, cap, cur, hb, rfl, -⟩
  · exact ⟨_, _, rfl⟩
  · exact ⟨_, _, rfl⟩
  · exact ⟨_, _, rfl⟩
/-- What lies in it. -/
theorem cells (h : Sl w n0 L e size v n xs) {a : Addr} {c : Nat} (hv : v = .slice (some a) n c) : ∀ j u, xs[j]? = some u → (w.ext L d).cell? (a.add j) = some u := by
  intro j u hu
  have hat : ∀ (k : Nat) (cur : Array Value) (T : TypeId) (fr : Nat × Nat), L[k]? = some (.cells cur T fr) → cur.toList.take (n * size) = xs → (w.ext L d).cell? ((⟨w.heap.size + k, 0, Option.none⟩ : Addr).add j) = some u := by
    intro k cur T fr hg ht
    rw [Ext.addr_add, Nat.zero_add, cell_of_row _ _ _ _ T fr ((Ext.block k).trans hg)]
    rw [← ht, List.getElem?_take] at hu
    split at hu
    · simpa using hu
    · cases hu
  rcases h.2.2 with ⟨rfl, rfl⟩ | ⟨k, cur, T, fr, rfl, hg, ht⟩ | ⟨k, cap, cur, hb, rfl, hg, hn, hm, hc, ht⟩
  · cases hv
  · simp only [Value.slice.injEq, Option.some.injEq] at hv
    obtain ⟨rfl, -, -⟩ := hv
    exact hat k cur T fr hg ht
  · simp only [Value.slice.injEq, Option.some.injEq] at hv
    obtain ⟨rfl, -, -⟩ := hv
    exact hat k cur e _ hg ht
theorem owned (h : (w.ext L d).ownsRow (w.heap.size + n0) e size v n xs) (hm : n ≤ maxLen) : Sl w n0 L e size v n xs := by
  obtain ⟨h1, h2⟩ := h
  refine ⟨h1, hm, ?_⟩
  rcases h2 with h2 | ⟨g, cap, cur, rfl, hb, hg, hn, hm, hc, ht⟩
  · exact .inl h2
  · obtain ⟨k, rfl⟩ : ∃ k, g = w.heap.size + k := ⟨g - w.heap.size, by omega⟩
    rw [Ext.block] at hg
    exact .inr (.inr ⟨k, cap, cur, by omega, rfl, hg, hn, hm, hc, ht⟩)

theorem ext_of {W : World} {row : Option Nat} (hg : (w.ext (l0 ++ l) d).grownBy W row) (hrow : ∀ k, row = some k → w.heap.size + l0.length ≤ k) :
    ∃ l' d', W = w.ext (l0 ++ l') d' := by
  have hs := hg.size
  rw [Ext.size, List.length_append] at hs
  have hb : Below w.heap.size w W := by
    refine ⟨hg.os, hg.tape, hg.output, by omega, fun k hk => ?_⟩
    rw [hg.block k (by rw [Ext.size]; omega) (fun e => by have := hrow k e.symm; omega), Ext.old hk]
  obtain ⟨L, hL⟩ := Ext.of_below hb
  have hlen : l0.length + l.length ≤ L.length := by
    have := congrArg (fun X : World => X.heap.size) hL
    simp only [Ext.size] at this
    omega
  refine ⟨L.drop l0.length, W.drawn, ?_⟩
  have hpre : L.take l0.length = l0 := by
    apply List.ext_getElem?
    intro j
    rw [List.getElem?_take]
    split
    · rename_i hj
      have h1 := hg.block (w.heap.size + j) (by rw [Ext.size, List.length_append]; omega) (fun e => by have := hrow _ e.symm; omega)
      rw [hL, Ext.block, Ext.block, List.getElem?_append_left hj] at h1
      exact h1
    · rename_i hj
      exact (List.getElem?_eq_none (by omega)).symm
  have hL' : L = l0 ++ L.drop l0.length := by
    conv => lhs; rw [← List.take_append_drop l0.length L, hpre]
  rw [← hL']
  exact hL

/-- What lies in the row that is appended. -/
theorem news {k : Nat} {cur : Array Value} {T : TypeId} {fr : Nat × Nat} (hk : L[k]? = some (.cells cur T fr)) : ∀ j u, cur.toList[j]? = some u → (w.ext L d).cell? ((⟨w.heap.size + k, 0, none⟩ : Addr).add j) = some u := by
  intro j u hu
  rw [Ext.addr_add, Nat.zero_add, cell_of_row _ _ _ _ T fr ((Ext.block k).trans hk)]
  simpa using hu

theorem newest {k : Nat} {cur : Array Value} {T : TypeId} {fr : Nat × Nat} (hk : k = (l0 ++ l).length) : ∀ j u, cur.toList[j]? = some u → (w.ext (l0 ++ (l ++ [.cells cur T fr])) d).cell? ((⟨w.heap.size + k, 0, none⟩ : Addr).add j) = some u := by
  refine news (T := T) (fr := fr) ?_
  rw [← List.append_assoc, hk, List.getElem?_append_right (Nat.le_refl _), Nat.sub_self]
  rfl

/-- One append onto such a slice. -/
theorem push {P : Program} {W : World} {ops : Array Oper} {rest : List Oper} {o : Oper} {a : Act} {Q : Exit → Act → World → Prop} (l0 l : List Obj) (d : Nat) (hgd : o.guard = Option.none) (s x : Operand) (t : TypeId)
    (ho : o.op = .call { callee := .builtin .append, args := #[s, x], argTypes := #[t, t] })
    (hW : W = w.ext (l0 ++ l) d)
    (e : TypeId) (i : TypeInfo) (z : Value) (size bytes : Nat) (ht : P.underlying t = some (.slice e)) (hi : P.info? e = some i) (hz : i.zero = some z)
    (hsize : i.size = size) (hby : i.bytes = bytes) (hzs : z.cells.size = size) (hsz : 0 < size)
    (v : Value) (n : Nat) (xs : List Value) (hs : a.eval s = v) (hown : Sl w l0.length (l0 ++ l) e size v n xs)
    (ad : Addr) (m c : Nat) (news : List Value) (hx : a.eval x = .slice (some ad) m c) (hl : news.length = m * size) (hnews : ∀ j u, news[j]? = some u → (w.ext (l0 ++ l) d).cell? (ad.add j) = some u) (h1 : ∀ u ∈ news, u.oneCell' = true)
    (hm : 0 < m) (h63 : n + m ≤ maxLen) (hbytes : (n + m) * bytes ≤ 140737488355328)
    (h : ∀ v' l' d', Sl w l0.length (l0 ++ l') e size v' (n + m) (xs ++ news) → wpList P ops Q rest (a.put o.dst v') (w.ext (l0 ++ l') d')) :
    wpList P ops Q (o :: rest) a W := by
  subst hW
  have hsl := hown
  obtain ⟨hlen, hmx, hc3⟩ := hown
  have grows : ∀ (cap : Nat), v.ownBlock = Option.none ∨ True → ∀ ao, v = .slice ao n cap → (ao = Option.none → n = 0 ∧ cap = 0) → cap < n + m →
      wpList P ops Q (o :: rest) a (w.ext (l0 ++ l) d) := by
    intro cap _ ao hv hao hfull
    refine wpList_append_grows _ hgd s x t ho e i z size bytes ht hi hz hsize hby hzs hsz ao n cap xs (hs.trans hv) hao hlen (fun b hb => by subst hb; exact hsl.cells hv) ad m c news hx hl hnews h1 hfull h63 hbytes ?_
    intro v' w' hown' hg
    obtain ⟨l', d', rfl⟩ := ext_of hg (fun k hk => by cases hk)
    refine h v' l' d' (owned (d := d') ?_ h63)
    obtain ⟨o1, o2⟩ := hown'
    refine ⟨o1, ?_⟩
    rcases o2 with o2 | ⟨g, cap', cur, rfl, hb, hg', r⟩
    · exact .inl o2
    · refine .inr ⟨g, cap', cur, rfl, ?_, hg', r⟩
      rw [Ext.size, List.length_append] at hb
      omega
  rcases hc3 with ⟨rfl, rfl⟩ | ⟨k, cur, T, fr, rfl, hg, ht'⟩ | ⟨k, cap, cur, hb, rfl, hg, hn, hm', hc, ht'⟩
  · exact grows 0 (.inr trivial) Option.none rfl (fun _ => ⟨rfl, rfl⟩) (by omega)
  · exact grows n (.inr trivial) _ rfl (fun h => by cases h) (by omega)
  · refine wpList_append_own_at _ hgd s x t ho (w.heap.size + l0.length) e i z size bytes ht hi hz hsize hby hzs hsz _ n xs hs ⟨hlen, .inr ⟨w.heap.size + k, cap, cur, rfl, by omega, (Ext.block k).trans hg, hn, hm', hc, ht'⟩⟩ ad m c news hx hl hnews h1 h63 hbytes (by rw [Ext.size, List.length_append]; omega) ?_
    intro v' w' hown' hgr hnil _
    obtain ⟨l', d', rfl⟩ := ext_of hgr (fun j hj => by
      have : w.heap.size + k = j := Option.some.inj hj
      omega)
    exact h v' l' d' (owned hown' h63)

/-- A slice of bytes, as a string. -/
theorem to_string {P : Program} (src dst : Nat) (bs : List UInt8) (hs : P.underlying src = some (.slice e)) (hd : P.underlying dst = some .string) (he : P.underlying e = some (.int .u8))
    (hown : Sl w n0 L e 1 v n (bs.map b8)) :
    (convert src dst v).run P (w.ext L d) = .ok (.string (Bytes.str bs)) (w.ext L d) := by
  have hlen := hown.length
  rw [List.length_map, Nat.mul_one] at hlen
  have hl : ∀ (a : Addr) c, v = .slice (some a) n c → (convert src dst v).run P (w.ext L d) = .ok (.string (Bytes.str bs)) (w.ext L d) := by
    intro a c hvc
    have h1 := run_loadCells_list (P := P) (w.ext L d) a (bs.map b8) (hown.cells hvc)
    rw [List.length_map, hlen] at h1
    have h2 : (loadCells a n).run P (w.ext L d) = .ok ((bs.map fun c => (c.toNat : Int)).map (Value.int .u8)).toArray (w.ext L d) := by
      rw [h1, List.map_map]; rfl
    have h3 := run_bytesToString (P := P) (w.ext L d) a n c _ h2
    rw [Bytes.fold_push] at h3
    subst hvc
    simp only [convert, Sem.run_bind, run_underlying hs, run_underlying hd, Result.andThen_ok, run_underlying he]
    rw [h3]
    simp [Bytes.str]
  rcases hown.2.2 with ⟨rfl, rfl⟩ | ⟨k, cur, T, fr, rfl, -⟩ | ⟨k, cap, cur, hb, rfl, -⟩
  · have : bs = [] := List.eq_nil_of_length_eq_zero hlen
    subst this
    simp [convert, Sem.run_bind, run_underlying hs, run_underlying hd, run_underlying he, Bytes.str, Conv.bytesToString]
    rfl
  · exact hl _ _ rfl
  · exact hl _ _ rfl
end Sl
end Go
