/- Two arrays of words of 32 bits held against each other. -/
import Derived.Test.YtnhhbdghblihnaaDoorWords
import Derived.Laws.StructEq
namespace Go
open Sha2
namespace Words
theorem part_word {P : Program} (e : TypeId) (l : List W) (i : Nat) (c : W) (Wo : World) (ha : (isAgg e).run P Wo = .ok false Wo) (h : l[i]? = some c) : (part e (row32 l) i).run P Wo = .ok (w32 c) Wo := by
  simp [part, Sem.run_bind, ha, row32_get, h]
theorem equal_word {P : Program} (d : Nat) (e : TypeId) (a b : W) (Wo : World) (he : P.underlying e = some (.int .u32)) : (Op.equalIn (d + 1) e (w32 a) (w32 b)).run P Wo = .ok (a == b) Wo := by
  simp only [w32, run_equalIn_int Wo d e .u32 .u32 _ _ he]
  congr 1
  rw [Bool.eq_iff_iff, beq_iff_eq, beq_iff_eq]
  constructor
  · intro h; exact BitVec.eq_of_toNat_eq (by omega)
  · intro h; rw [h]
theorem equal_wloop {P : Program} (d : Nat) (e : TypeId) (Wo : World) (he : P.underlying e = some (.int .u32)) (ha : (isAgg e).run P Wo = .ok false Wo) (xs ys : List W) : ∀ (m i : Nat), i + m ≤ xs.length → i + m ≤ ys.length →
    (forIn (List.range' i m) ((none, ()) : Option Bool × Unit) (fun j _ => do
      let a ← part e (row32 xs) (j * 1)
      let b ← part e (row32 ys) (j * 1)
      let r ← Op.equalIn (d + 1) e a b
      if (!r) = true then pure (ForInStep.done (some false, ())) else pure (ForInStep.yield (none, ())))).run P Wo =
      .ok (if (xs.drop i).take m = (ys.drop i).take m then (none, ()) else (some false, ())) Wo
  | 0, i, _, _ => by simp [Sem.run_pure]
  | m + 1, i, hx, hy => by
    have h1 : xs[i]? = some xs[i] := List.getElem?_eq_getElem (by omega)
    have h2 : ys[i]? = some ys[i] := List.getElem?_eq_getElem (by omega)
    have ih := equal_wloop d e Wo he ha xs ys m (i + 1) (by omega) (by omega)
    rw [List.range'_succ, List.forIn_cons, Sem.run_bind, Sem.run_bind, Nat.mul_one, part_word e xs i _ Wo ha h1, Result.andThen_ok, Sem.run_bind, part_word e ys i _ Wo ha h2, Result.andThen_ok, Sem.run_bind, equal_word d e _ _ Wo he, Result.andThen_ok]
    rw [List.drop_eq_getElem_cons (show i < xs.length by omega), List.drop_eq_getElem_cons (show i < ys.length by omega), List.take_succ_cons, List.take_succ_cons]
    by_cases hc : xs[i] = ys[i]
    · rw [show (xs[i] == ys[i]) = true by simpa using hc]
      simp only [Bool.not_true, Bool.false_eq_true, if_false, Sem.run_pure, Result.andThen_ok]
      rw [ih]
      simp only [hc, List.cons.injEq, true_and]
    · rw [show (xs[i] == ys[i]) = false by simpa using hc]
      simp [Sem.run_pure, hc]
theorem equal_wrows {P : Program} (d : Nat) (t : TypeId) (xs ys : List W) (Wo : World) (h : P.underlying t = some (.array (P.arrayLen t) (P.elem t))) (he : P.underlying (P.elem t) = some (.int .u32))
    (ha : (isAgg (P.elem t)).run P Wo = .ok false Wo) (hs : (sizeOf (P.elem t)).run P Wo = .ok 1 Wo) (hx : xs.length = P.arrayLen t) (hy : ys.length = P.arrayLen t) :
    (Op.equalIn (d + 2) t (.agg (row32 xs)) (.agg (row32 ys))).run P Wo = .ok (xs == ys) Wo := by
  have hl := equal_wloop (P := P) d (P.elem t) Wo he ha xs ys (P.arrayLen t) 0 (by omega) (by omega)
  unfold Op.equalIn
  simp only [Sem.run_bind, run_underlying h, Result.andThen_ok, hs]
  rw [Std.Legacy.Range.forIn_eq_forIn_range']
  simp only [Std.Legacy.Range.size, Nat.sub_zero, Nat.add_sub_cancel, Nat.div_one]
  rw [hl, Result.andThen_ok]
  simp only [List.drop_zero]
  rw [List.take_of_length_le (by omega), List.take_of_length_le (by omega)]
  by_cases hc : xs = ys
  · rw [if_pos hc, show (xs == ys) = true by simpa using hc]; simp [Sem.run_pure]
  · rw [if_neg hc, show (xs == ys) = false by simpa using hc]; simp [Sem.run_pure]
@[go_sem high] theorem eql_wrows {P : Program} (t : TypeId) (xs ys : List W) (Wo : World) (h : P.underlying t = some (.array (P.arrayLen t) (P.elem t))) (he : P.underlying (P.elem t) = some (.int .u32))
    (ha : (isAgg (P.elem t)).run P Wo = .ok false Wo) (hs : (sizeOf (P.elem t)).run P Wo = .ok 1 Wo) (hx : xs.length = P.arrayLen t) (hy : ys.length = P.arrayLen t) :
    (binOp .eql t (.agg (row32 xs)) (.agg (row32 ys))).run P Wo = .ok (.bool (xs == ys)) Wo := by
  rw [run_eql_struct, equal_wrows 9998 t xs ys Wo h he ha hs hx hy, Result.andThen_ok]
end Words
end Go
