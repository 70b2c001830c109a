/- From a walk to a law's row: the arguments that are rows of numbers opened; what was read is read again behind a call that only makes blocks of its own; the call's end in the row's words. -/
import Derived.Test.YtcnligenhiiaaaaDoorLaidKonst
import Derived.WideKeyArgs
import Derived.WideShapes
import Derived.ChangeMaps5
import Derived.SliceStrings
import Derived.ChangeSame
import Derived.RowKit
namespace Go
open Go.RowKit Go.WideShapes Go.ChangeShapes

section
variable {H : Type} {enc : TypeId × Value → H} {P : Program}

theorem okWide_array {w : World} {r : Reach} {base : Nat} {t : TypeId} {v : Value} {n e : Nat} (ht : P.underlying t = some (.array n e)) (h : Value.okWide P w r base t v) : ∃ cs, v = .agg cs ∧ cs.size = P.cellsOf t := by
  simp only [Value.okWide, ht] at h
  obtain ⟨cs, h1, h2, _⟩ := h
  exact ⟨cs, h1, h2⟩

/-- The cells of an array of whole numbers. -/
theorem open_nums {w : World} {r : Reach} {base b0 : Nat} {spare : Nat → Bool} {held : Bool} {t : TypeId} {v : Value} {n e : Nat} {k : IntKind} {d : DataW H} {ps : List MemPlace} (ht : P.underlying t = some (.array n e)) (he : P.underlying e = some (.int k)) (hc : P.cellsOf e = 1) (hct : P.cellsOf t = n)
    (h : Value.okWide P w r b0 t v) (hd : DataW.Trod enc P w base spare held t v d ps) :
    ∃ cs : Array Value, v = .agg cs ∧ cs.size = n ∧ ∀ i, i < n → ∃ z, cs[i]? = some (.int k z) ∧ (Lit.int k z).wf = true := by
  obtain ⟨cs, rfl, hs⟩ := okWide_array ht h
  refine ⟨cs, rfl, hs.trans hct, fun i hi => ?_⟩
  obtain ⟨fuel, hf⟩ := hd
  obtain ⟨xs, m, rfl, hx, hl, hn, hat⟩ := DataW.trod_array ht hf
  have ha := hat i hi
  rw [List.getElem?_eq_getElem (by omega)] at ha
  obtain ⟨z, hz, -, hw⟩ := DataW.trod_int he ha
  refine ⟨z, ?_, hw⟩
  rw [hc, Nat.mul_one] at hz
  have h0 : ((List.drop i (Value.agg cs).cells.toList).take 1)[0]? = some (.int k z) := by rw [hz]; rfl
  rw [List.getElem?_take_of_lt (by omega), List.getElem?_drop] at h0
  simpa [Value.cells] using h0

theorem open_row8 {w : World} {r : Reach} {base b0 : Nat} {spare : Nat → Bool} {held : Bool} {t : TypeId} {v : Value} {n e : Nat} {d : DataW H} {ps : List MemPlace} (ht : P.underlying t = some (.array n e)) (he : P.underlying e = some (.int .u8)) (hc : P.cellsOf e = 1) (hct : P.cellsOf t = n)
    (h : Value.okWide P w r b0 t v) (hd : DataW.Trod enc P w base spare held t v d ps) : ∃ l : List UInt8, l.length = n ∧ v = .agg (row8 l) := by
  obtain ⟨cs, rfl, hs, hat⟩ := open_nums ht he hc hct h hd
  refine ⟨Bytes.bytesOf cs, by simp [Bytes.bytesOf, hs], ?_⟩
  congr 1
  apply Array.ext_getElem?
  intro i
  by_cases hi : i < n
  · obtain ⟨z, hz, hw⟩ := hat i hi
    rw [hz]
    simp only [row8, Bytes.bytesOf, List.map_map, List.getElem?_toArray, List.getElem?_map, Array.getElem?_toList, hz, Option.map_some, Function.comp]
    congr 1
    simp [Lit.wf, IntKind.min, IntKind.max, IntKind.signed, IntKind.bits] at hw
    simp only [b8, Value.int.injEq, true_and, UInt8.toNat_ofNat']
    omega
  · rw [Array.getElem?_eq_none (by omega), Array.getElem?_eq_none (by simp [row8, Bytes.bytesOf]; omega)]

theorem open_row32 {w : World} {r : Reach} {base b0 : Nat} {spare : Nat → Bool} {held : Bool} {t : TypeId} {v : Value} {n e : Nat} {d : DataW H} {ps : List MemPlace} (ht : P.underlying t = some (.array n e)) (he : P.underlying e = some (.int .u32)) (hc : P.cellsOf e = 1) (hct : P.cellsOf t = n)
    (h : Value.okWide P w r b0 t v) (hd : DataW.Trod enc P w base spare held t v d ps) : ∃ l : List Sha2.W, l.length = n ∧ v = .agg (Words.row32 l) := by
  obtain ⟨cs, rfl, hs, hat⟩ := open_nums ht he hc hct h hd
  refine ⟨cs.toList.map fun | .int _ z => BitVec.ofNat 32 z.toNat | _ => 0, by simp [hs], ?_⟩
  congr 1
  apply Array.ext_getElem?
  intro i
  by_cases hi : i < n
  · obtain ⟨z, hz, hw⟩ := hat i hi
    rw [hz]
    simp only [Words.row32, List.map_map, List.getElem?_toArray, List.getElem?_map, Array.getElem?_toList, hz, Option.map_some, Function.comp]
    congr 1
    simp [Lit.wf, IntKind.min, IntKind.max, IntKind.signed, IntKind.bits] at hw
    simp only [w32, Value.int.injEq, true_and, BitVec.toNat_ofNat]
    omega
  · rw [Array.getElem?_eq_none (by omega), Array.getElem?_eq_none (by simp [Words.row32]; omega)]

/-- A slice of strings that came in: empty, or its strings' cells. -/
theorem open_strs {w : World} {r : Reach} {b0 : Nat} {t e : TypeId} {v : Value} {d : DataW H} {ps : List MemPlace} (ht : P.underlying t = some (.slice e)) (he : P.underlying e = some .string) (hc : P.cellsOf e = 1)
    (h : Value.okWide P w r b0 t v) (hd : DataW.Trod enc P w 0 (fun _ => true) true t v d ps) :
    (∃ a c, v = .slice a 0 c) ∨ ∃ (bk o c : Nat) (xs : List (List UInt8)), v = .slice (some ⟨bk, o, none⟩) xs.length c ∧ xs.length ≤ c ∧ bk < w.heap.size ∧ ∀ j, j < xs.length → w.cell? ⟨bk, o + j, none⟩ = some (.string (Bytes.str (xs.getD j []))) := by
  obtain ⟨a, n, c, rfl⟩ := okWide_slice ht h
  obtain ⟨fuel, hf⟩ := hd
  rcases open_strings ht he hc hf with ⟨h1, -⟩ | ⟨a', len, cap, ss, h1, -, hl, -, hs, -, hat, -⟩
  · simp [Value.cells] at h1
    obtain ⟨rfl, rfl, rfl⟩ := h1
    exact .inl ⟨_, _, rfl⟩
  · simp [Value.cells] at h1
    obtain ⟨rfl, rfl, rfl⟩ := h1
    by_cases h0 : n = 0
    · subst h0
      exact .inl ⟨_, _, rfl⟩
    · right
      simp only [if_true] at hs
      obtain ⟨bk, o, spot⟩ := a'
      have hc0 := hat 0 (by omega)
      have hspot : spot = none := by simpa [Addr.add] using World.cell?_spot hc0
      subst hspot
      refine ⟨bk, o, c, (ss.take n).map (·.data.toList), by simp [hs, Nat.min_eq_left hl], by simp [hs]; omega, ?_, fun j hj => ?_⟩
      · have := World.block_lt_of_cell? _ _ hc0
        simpa [Addr.add] using this
      · have hj' : j < n := by simp at hj; omega
        have := hat j (by omega)
        rw [Ext.addr_add] at this
        rw [this]
        simp only [List.getD_eq_getElem?_getD, List.getElem?_map, List.getElem?_take, if_pos hj']
        rw [List.getElem?_eq_getElem (show j < ss.length by omega)]
        simp [Bytes.str]

theorem trodAll_stays {W W' : World} {sp' : Nat → Bool} (hl : laidOutB P = true) : ∀ {ts : List TypeId} {vs : List Value} {ds : List (DataW H)} {ps : List MemPlace}, (∀ t ∈ ts, P.readableRec t = true ∧ t < P.types.size) →
    DataW.TrodAll enc P W 0 (fun _ => true) true ts vs ds ps → (∀ p ∈ ps, W.sameAt W' p) → (∀ p ∈ ps, sp' p.block = true) → DataW.TrodAll enc P W' 0 sp' true ts vs ds ps
  | [], [], [], ps, _, h, _, _ => h
  | t :: ts, v :: vs, d :: ds, ps, hr, h, hs, hp => by
    obtain ⟨p, q, h1, h2, rfl⟩ := h
    refine ⟨p, q, ?_, ?_, rfl⟩
    · exact WideElems.Trod_stays hl (hr t (by simp)).1 (hr t (by simp)).2 h1 (fun x hx => hs x (List.mem_append_left _ hx)) (fun x hx => hp x (List.mem_append_left _ hx))
    · exact trodAll_stays hl (fun x hx => hr x (by simp [hx])) h2 (fun x hx => hs x (List.mem_append_right _ hx)) (fun x hx => hp x (List.mem_append_right _ hx))
  | [], [], _ :: _, _, _, h, _, _ => h.elim
  | [], _ :: _, _, _, _, h, _, _ => h.elim
  | _ :: _, [], _, _, _, h, _, _ => h.elim
  | _ :: _, _ :: _, [], _, _, h, _, _ => h.elim

theorem grew_sameAt {W W' : World} (hg : W.grew W') (p : MemPlace) (hp : p.block < W.heap.size) : W.sameAt W' p := by
  obtain ⟨l, d, rfl⟩ := hg
  cases p with
  | cell b off => exact Ext.cell_old hp
  | map b => exact Ext.old hp

/-- A law's call, ended with true behind blocks of its own, in the row's words. -/
theorem law_closes {fn : Func} {s : ChangeSpec} {f : FuncId} {args : Array Value} {W : World} {ds gs : List (DataW H)} {before : List MemPlace} {apart fresh handsOn : Bool} {tb : TypeId} (hl : laidOutB P = true) (hrb : (fn.params.toList.all fun t => P.readableRec t && decide (t < P.types.size)) = true)
    (hres : fn.resultTypes = #[tb]) (hb : P.underlying tb = some .bool) (hvars : s.vars = [])
    (hW : DataW.Whole enc P fn.params.toList s.vars apart W args.toList ds gs before) (hs : s.fn H ds = { results := [.lit (.bool true)], args := ds })
    (h : Calls P f args W fun e w' => e = .returned (.bool true) ∧ W.grew w') :
    Calls P f args W fun e W' => ∃ v, e = .returned v ∧ s.post enc P fn apart fresh handsOn false W args v W' := by
  have hr : ∀ t ∈ fn.params.toList, P.readableRec t = true ∧ t < P.types.size := fun t ht => by
    have := List.all_eq_true.1 hrb t ht
    rw [Bool.and_eq_true, decide_eq_true_iff] at this
    exact this
  refine h.mono fun e W' ⟨he, hg⟩ => ?_
  have hW' := hW
  obtain ⟨p, q, hA, hV, rfl, hfz, hnd⟩ := hW
  have hgs : gs = [] := by
    rw [hvars] at hV
    cases gs with
    | nil => rfl
    | cons g r => exact hV.elim
  subst hgs
  have hq : q = [] := by
    rw [hvars] at hV
    exact hV
  subst hq
  refine ⟨_, he, ds, [], _, [], p, [], hW', ?_, ?_, ?_, ?_, fun h => by cases h⟩
  · rw [List.append_nil, hs, hres]
    exact trodAll_mk1 (shut_bool hb true)
  · rw [List.append_nil, hs]
    exact trodAll_stays hl hr hA (fun x hx => grew_sameAt hg x (hW'.lt x (by simpa using hx))) (fun x hx => by simpa using hW'.lt x (by simpa using hx))
  · rw [List.append_nil, hs, hvars]
    rfl
  · obtain ⟨l, d, rfl⟩ := hg
    exact World.keptBut_mono (fun _ h => h.elim) (World.keptBut_none_iff.2 ⟨rfl, rfl, fun i hi => Ext.old hi⟩)
end
end Go
namespace Go.Proofs.YtcnligenhiiaaaaDoor
open Go.RowKit Sha2 Words
/-- A world in which the table lies. -/
noncomputable def laidWorld (os : Os) : World :=
  let w0 := World.holding Tryd.prog os ⟨#[], #[], []⟩
  { w0 with heap := w0.heap.modify 0 fun
      | .cells _ t frozen => .cells (row32 kws) t frozen
      | o => o }
theorem own : ownKnob Tryd.prog.godebug = none := by kernel_rfl
theorem laidOut : laidOutB Tryd.prog = true := by kernel_rfl
set_option maxRecDepth 100000 in
theorem laidWorld_met (os : Os) (args : Array Value) : laidMetH Tryd.prog [("oblivion/sha.constants", Rows.laid_oblivion_sha_constants)] ((laidWorld os).forCall (fun _ _ => 0) ⟨#[], args, []⟩).memory :=
  laidMet_of_run' (l := [("oblivion/sha.constants", Rows.laid_oblivion_sha_constants)]) 8 (by kernel_rfl) (by kernel_rfl)
theorem konst_of_laidH {W : World} (h : laidMetH Tryd.prog [("oblivion/sha.constants", Rows.laid_oblivion_sha_constants)] W) : Konst W := konst_of_laid h
end Go.Proofs.YtcnligenhiiaaaaDoor
