/- A region that draws its order and whose callees make blocks of their own: walked once, in the order of the text. -/
import Derived.Test.YtcnligenhiiaaaaDoorRegion
import Derived.Test.YtcnligenhiiaaaaDoorExt
namespace Go
namespace Ext
@[go_sem] theorem gap2_get (l1 l2 t : List Obj) (A H : Obj) : (l1 ++ A :: (l2 ++ H :: t))[l1.length + (l2.length + 1)]? = some H := by
  rw [List.getElem?_append_right (by omega)]
  simp
@[go_sem] theorem gap2_modify (l1 l2 t : List Obj) (A H : Obj) (f : Obj → Obj) : (l1 ++ A :: (l2 ++ H :: t)).modify (l1.length + (l2.length + 1)) f = l1 ++ A :: (l2 ++ f H :: t) := by
  induction l1 with
  | nil =>
    induction l2 with
    | nil => rfl
    | cons x l2 ih => simp only [List.nil_append, List.length_nil, Nat.zero_add, List.modify_succ_cons, List.cons_append, List.length_cons] at ih ⊢; rw [List.cons.inj ih |>.2]
  | cons x l1 ih => simp only [List.cons_append, List.length_cons, Nat.succ_add, List.modify_succ_cons]; rw [ih]
end Ext
/-- Some blocks, some draws. -/
structure More where
  n : List Obj
  e : Nat
instance : Inhabited More := ⟨⟨[], 0⟩⟩
namespace Grow
theorem mono {P : Program} {ops : Array Oper} {C : World → Prop} {Q Q' : Act → Prop} (hQ : ∀ a, Q a → Q' a) : ∀ (l : List Oper) (a : Act), wpQuiet P ops C Q l a → wpQuiet P ops C Q' l a
  | [], a, h => hQ a h
  | o :: rest, a, h => by
    unfold wpQuiet at h ⊢
    split at h
    · rename_i hw
      rw [if_pos hw]
      exact Oper.quiet_mono (mono hQ rest) h
    · rename_i hw
      rw [if_neg hw]
      exact mono hQ rest _ h
/-- A world with blocks l behind its own, and more. -/
def Cls (w : World) (l : List Obj) (w' : World) : Prop := ∃ x : More, w' = w.ext (l ++ x.n) x.e
variable {P : Program} {w : World} {l : List Obj} {d : Nat}

@[go_sem ↓] theorem quiet_cls (o : Oper) (a : Act) (K : Act → Prop) : o.quiet P a (Cls w l) K = ∃ v, (∀ x : More, o.quietAt P a (Cls w l) (w.ext (l ++ x.n) x.e) v) ∧ K (a.put o.dst v) := by
  unfold Oper.quiet
  apply propext
  constructor
  · rintro ⟨v, h1, h2⟩
    exact ⟨v, fun x => h1 _ ⟨x, rfl⟩, h2⟩
  · rintro ⟨v, h1, h2⟩
    exact ⟨v, fun w' ⟨x, hx⟩ => by rw [hx]; exact h1 x, h2⟩

theorem lit {id : Nat} {Q : Exit → Act → World → Prop} {a : Act} {ops : List Oper} (hm : P.follows .mixedOrders = true) (hB : Region.lexB .any ops.toArray = true)
    (h : wpQuiet P ops.toArray (Cls w l) (fun a' => ∀ n e, Q .normal a' (w.ext (l ++ n) e)) ops a) : (Code.region id ops.toArray true).wp P Q a (w.ext l d) :=
  wp_region_quiet (C := Cls w l) hm hB ⟨⟨[], d + 1⟩, by rw [List.append_nil]; rfl⟩ (by
    refine mono ?_ _ _ (by simpa using h)
    rintro a' h' w' ⟨x, rfl⟩
    exact h' x.n x.e)
/-- A callee that makes blocks of its own. -/
theorem calls {f : FuncId} {args : Array Value} {n : List Obj} {e : Nat} {v : Value}
    (h : Calls P f args (w.ext (l ++ n) e) fun e' w' => e' = .returned v ∧ (w.ext (l ++ n) e).grew w') : Calls P f args (w.ext (l ++ n) e) fun e' w'' => e' = .returned v ∧ Cls w l w'' :=
  h.mono fun _ _ ⟨he, m, e', hm⟩ => ⟨he, ⟨n ++ m, e'⟩, by rw [hm, Ext.ext, List.append_assoc]⟩
/-- .. the world's list written otherwise. -/
theorem calls_at {f : FuncId} {args : Array Value} {L n : List Obj} {e : Nat} {v : Value} (hL : L = l ++ n)
    (h : Calls P f args (w.ext L e) fun e' w' => e' = .returned v ∧ (w.ext L e).grew w') : Calls P f args (w.ext L e) fun e' w'' => e' = .returned v ∧ Cls w l w'' := by
  subst hL
  exact calls h
theorem calls_same {f : FuncId} {args : Array Value} {n : List Obj} {e : Nat} {v : Value}
    (h : Calls P f args (w.ext (l ++ n) e) fun e' w' => e' = .returned v ∧ w' = w.ext (l ++ n) e) : Calls P f args (w.ext (l ++ n) e) fun e' w'' => e' = .returned v ∧ Cls w l w'' :=
  h.mono fun _ _ ⟨he, hm⟩ => ⟨he, ⟨n, e⟩, hm⟩
end Grow
end Go
