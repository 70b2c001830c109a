/- oblivionlaw02.shown: that abc has its sum. -/
import Derived.Test.YtnhhbdghblihnaaDoorSums
import Derived.Test.YtnhhbdghblihnaaDoorShort
namespace Go.Proofs.YtnhhbdghblihnaaDoor
open Go.RowKit Sha2 Words Bytes

theorem sum_abc : Sha2.sum [97, 98, 99] = [0xba, 0x78, 0x16, 0xbf, 0x8f, 0x01, 0xcf, 0xea, 0x41, 0x41, 0x40, 0xde, 0x5d, 0xae, 0x22, 0x23, 0xb0, 0x03, 0x61, 0xa3, 0x96, 0x17, 0x7a, 0x9c, 0xb4, 0x10, 0xff, 0x61, 0xf2, 0x00, 0x15, 0xad] := by decide +kernel

@[go_sem] theorem eqGuard_b8 (op : BinOp) (t : TypeId) (x y : Operand) (c : UInt8) (v : Value) : eqGuard op t x y (b8 c) v = pure () := by
  simp only [b8]
  cases op <;> rfl
set_option maxRecDepth 100000 in
theorem shown_any (w : World) (hK : Konst w) :
    Calls Tryd.prog 9 #[] w fun e w' => e = .returned (.bool true) ∧ w.grew w' := by
  refine Ext.entered w ?_
  have HK := Kept.mk hK
  clear hK
  go_enter Tryd.func9, Tryd.ntmps9
  go_wp2_with fail
  refine (sum_slice [str [97], str [98, 99]] w.heap.size 0 2 _ (HK.out.ext _ _) ?_ (by rw [Ext.size]; simp) (by decide) (by decide) (by decide)).mono ?_
  · intro j x hx
    rw [Nat.zero_add]
    rcases j with _ | _ | j
    · simp at hx; subst hx
      exact (Ext.cell 0 0).trans rfl
    · simp at hx; subst hx
      exact (Ext.cell 0 1).trans rfl
    · simp at hx
  rintro e w' ⟨rfl, l1, d1, rfl⟩
  rw [Ext.ext, show Sha2.sum (([str [97], str [98, 99]].map (·.data.toList)).flatten) = Sha2.sum [97, 98, 99] from rfl, sum_abc]
  simp only [List.cons_append, List.nil_append]
  go_wp2
  go_ret
  exact ⟨rfl, World.grew_ext _ _ _⟩
end Go.Proofs.YtnhhbdghblihnaaDoor
