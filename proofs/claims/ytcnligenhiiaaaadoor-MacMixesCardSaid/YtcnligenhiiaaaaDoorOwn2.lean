/- Two slices of the call's own side by side: an append onto the one leaves the other. -/
import Derived.Test.YtcnligenhiiaaaaDoorOwn
namespace Go
namespace Sl
open Go.RowKit
variable {w : World} {l0 l L : List Obj} {d n0 e size n : Nat} {v : Value} {xs : List Value}

/-- They lie in blocks of their own. -/
def Apart (v v2 : Value) : Prop := ∀ b, v.ownBlock = some b → v2.ownBlock = some b → False
theorem Apart.symm {v v2 : Value} (h : Apart v v2) : Apart v2 v := fun b h1 h2 => h b h2 h1
/-- Its block stands. -/
theorem block_lt {b : Nat} (h : Sl w n0 L e size v n xs) (hb : v.ownBlock = some b) : ∃ k, b = w.heap.size + k ∧ k < L.length := by
  rcases h.2.2 with ⟨rfl, -⟩ | ⟨k, cur, T, fr, rfl, hg, -⟩ | ⟨k, cap, cur, -, rfl, hg, -⟩
  · cases hb
  · exact ⟨k, (Option.some.inj hb).symm, (List.getElem?_eq_some_iff.1 hg).1⟩
  · exact ⟨k, (Option.some.inj hb).symm, (List.getElem?_eq_some_iff.1 hg).1⟩
theorem kept {L' : List Obj} {d' : Nat} {row : Option Nat} (h : Sl w n0 L e size v n xs) (hg : (w.ext L d).grownBy (w.ext L' d') row) (hr : ∀ b, row = some b → v.ownBlock = some b → False) : Sl w n0 L' e size v n xs :=
  h.stays fun k o hv ho => by
    have hk := (List.getElem?_eq_some_iff.1 ho).1
    have h1 := hg.block (w.heap.size + k) (by rw [Ext.size]; omega) (fun e => hr _ e.symm hv)
    rw [Ext.block, Ext.block] at h1
    rw [h1, ho]

/-- One append onto such a slice, another beside it. -/
theorem push2 {P : Program} {W : World} {ops : Array Oper} {rest : List Oper} {o : Oper} {a : Act} {Q : Exit → Act → World → Prop} (l0 l : List Obj) (d : Nat) (hgd : o.guard = Option.none) (s x : Operand) (t : TypeId)
    (ho : o.op = .call { callee := .builtin .append, args := #[s, x], argTypes := #[t, t] })
    (hW : W = w.ext (l0 ++ l) d)
    (e : TypeId) (i : TypeInfo) (z : Value) (size bytes : Nat) (ht : P.underlying t = some (.slice e)) (hi : P.info? e = some i) (hz : i.zero = some z)
    (hsize : i.size = size) (hby : i.bytes = bytes) (hzs : z.cells.size = size) (hsz : 0 < size)
    (v : Value) (n : Nat) (xs : List Value) (hs : a.eval s = v) (hown : Sl w l0.length (l0 ++ l) e size v n xs)
    {n02 e2 size2 n2 : Nat} {v2 : Value} {xs2 : List Value} (hown2 : Sl w n02 (l0 ++ l) e2 size2 v2 n2 xs2) (hap : Apart v v2)
    (ad : Addr) (m c : Nat) (news : List Value) (hx : a.eval x = .slice (some ad) m c) (hl : news.length = m * size) (hnews : ∀ j u, news[j]? = some u → (w.ext (l0 ++ l) d).cell? (ad.add j) = some u) (h1 : ∀ u ∈ news, u.oneCell' = true)
    (hm : 0 < m) (h63 : n + m ≤ maxLen) (hbytes : (n + m) * bytes ≤ 140737488355328)
    (h : ∀ v' l' d', Sl w l0.length (l0 ++ l') e size v' (n + m) (xs ++ news) → Sl w n02 (l0 ++ l') e2 size2 v2 n2 xs2 → Apart v' v2 → wpList P ops Q rest (a.put o.dst v') (w.ext (l0 ++ l') d')) :
    wpList P ops Q (o :: rest) a W := by
  subst hW
  have hsl := hown
  obtain ⟨hlen, hmx, hc3⟩ := hown
  have fresh : ∀ (v' : Value) (b : Nat), v'.ownBlock = some b → (w.ext (l0 ++ l) d).heap.size ≤ b → v2.ownBlock = some b → False := fun v' b _ hb h2 => by
    obtain ⟨k, rfl, hk⟩ := hown2.block_lt h2
    rw [Ext.size] at hb
    omega
  have grows : ∀ (cap : Nat) ao, v = .slice ao n cap → (ao = Option.none → n = 0 ∧ cap = 0) → cap < n + m →
      wpList P ops Q (o :: rest) a (w.ext (l0 ++ l) d) := by
    intro cap ao hv hao hfull
    refine wpList_append_grows _ hgd s x t ho e i z size bytes ht hi hz hsize hby hzs hsz ao n cap xs (hs.trans hv) hao hlen (fun b hb => by subst hb; exact hsl.cells hv) ad m c news hx hl hnews h1 hfull h63 hbytes ?_
    intro v' w' hown' hg
    obtain ⟨l', d', rfl⟩ := ext_of hg (fun k hk => by cases hk)
    have hap' : Apart v' v2 := fun b hb hb2 => by
      refine fresh v' b hb ?_ hb2
      rcases hown'.2 with ⟨rfl, -⟩ | ⟨g, cap', cur, rfl, hb', -⟩
      · cases hb
      · obtain rfl : g = b := Option.some.inj hb
        exact hb'
    refine h v' l' d' (owned (d := d') ?_ h63) (hown2.kept hg (fun b hb => by cases hb)) hap'
    obtain ⟨o1, o2⟩ := hown'
    refine ⟨o1, ?_⟩
    rcases o2 with o2 | ⟨g, cap', cur, rfl, hb, hg', r⟩
    · exact .inl o2
    · refine .inr ⟨g, cap', cur, rfl, ?_, hg', r⟩
      rw [Ext.size, List.length_append] at hb
      omega
  rcases hc3 with ⟨rfl, rfl⟩ | ⟨k, cur, T, fr, rfl, hg, ht'⟩ | ⟨k, cap, cur, hb, rfl, hg, hn, hm', hc, ht'⟩
  · exact grows 0 Option.none rfl (fun _ => ⟨rfl, rfl⟩) (by omega)
  · exact grows n _ rfl (fun h => by cases h) (by omega)
  · refine wpList_append_own_at _ hgd s x t ho (w.heap.size + l0.length) e i z size bytes ht hi hz hsize hby hzs hsz _ n xs hs ⟨hlen, .inr ⟨w.heap.size + k, cap, cur, rfl, by omega, (Ext.block k).trans hg, hn, hm', hc, ht'⟩⟩ ad m c news hx hl hnews h1 h63 hbytes (by rw [Ext.size, List.length_append]; omega) ?_
    intro v' w' hown' hgr hnil hat
    obtain ⟨l', d', rfl⟩ := ext_of hgr (fun j hj => by
      have : w.heap.size + k = j := Option.some.inj hj
      omega)
    refine h v' l' d' (owned hown' h63) (hown2.kept hgr fun b hb hb2 => hap b hb hb2) fun b hb hb2 => ?_
    rcases hat with hat | hat
    · exact hap b (hat.symm.trans hb) hb2
    · obtain rfl : (w.ext (l0 ++ l) d).heap.size = b := Option.some.inj (hat.symm.trans hb)
      exact fresh v' _ hb (Nat.le_refl _) hb2
end Sl
end Go
