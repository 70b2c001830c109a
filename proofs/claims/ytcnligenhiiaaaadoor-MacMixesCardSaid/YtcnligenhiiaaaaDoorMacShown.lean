/- oblivionlaw03.shown: that a tag begins as the document has it; mac.Mac over parts that lie in the walk's own memory. -/
import Derived.Test.YtcnligenhiiaaaaDoorMac
import Derived.Test.YtcnligenhiiaaaaDoorShort
namespace Go.Proofs.YtcnligenhiiaaaaDoor
open Go.RowKit Sha2 Words Bytes

theorem mac_ext {w : World} {L : List Obj} {d : Nat} (hK : Konst w) (key : List UInt8) (k n c : Nat) (xs : List (List UInt8)) {T : TypeId} {fr : Nat × Nat} (hk : L[k]? = some (.cells (xs.map fun x => Value.string (str x)).toArray T fr)) (hn : n = xs.length) (hc : n ≤ c) (hN : n ≤ 1000000) (hkey : key.length < 1000000) (hlen : xs.flatten.length < 1000000) :
    Calls Tryd.prog 10 #[.string (str key), .slice (some ⟨w.heap.size + k, 0, none⟩) n c] (w.ext L d) fun e w' => e = .returned (.agg (row8 (mac key xs.flatten))) ∧ (w.ext L d).grew w' := by
  subst hn
  have hkl := (List.getElem?_eq_some_iff.1 hk).1
  refine mac_any key _ xs hkey hlen hN _ (hK.ext _ _) (.inr ⟨w.heap.size + k, 0, c, rfl, hc, by rw [Ext.size]; omega, fun j hj => ?_⟩)
  rw [Nat.zero_add, Ext.cell, hk, Ext.cellOf_some]
  simp [List.getD_eq_getElem?_getD, List.getElem?_eq_getElem hj]

def jefe : List UInt8 := [74, 101, 102, 101]
def want1 : List UInt8 := [119, 104, 97, 116, 32, 100, 111, 32, 121, 97, 32, 119, 97, 110, 116, 32]
def want2 : List UInt8 := [102, 111, 114, 32, 110, 111, 116, 104, 105, 110, 103, 63]
theorem mac_jefe : mac jefe (want1 ++ want2) = [0x5b, 0xdc, 0xc1, 0x46, 0xbf, 0x60, 0x75, 0x4e, 0x6a, 0x04, 0x24, 0x26, 0x08, 0x95, 0x75, 0xc7, 0x5a, 0x00, 0x3f, 0x08, 0x9d, 0x27, 0x39, 0x83, 0x9d, 0xec, 0x58, 0xb9, 0x64, 0xec, 0x38, 0x43] := by decide +kernel

set_option maxRecDepth 100000 in
theorem mshown_any (w : World) (hK : Konst w) :
    Calls Tryd.prog 9 #[] w fun e w' => e = .returned (.bool true) ∧ w.grew w' := by
  refine Ext.entered w ?_
  have HK := Kept.mk hK
  clear hK
  go_enter Tryd.func9, Tryd.ntmps9
  go_wp2_with fail
  refine (mac_ext (w := w) (L := [_]) HK.out jefe 0 2 2 [want1, want2] (by rfl) rfl (Nat.le_refl _) (by omega) (by decide) (by decide)).mono ?_
  rintro e w' ⟨rfl, l1, d1, rfl⟩
  rw [Ext.ext, show [want1, want2].flatten = want1 ++ want2 from by simp]
  rw [mac_jefe]
  simp only [List.cons_append, List.nil_append]
  go_wp2_with fail
  go_ret
  exact ⟨rfl, World.grew_ext _ _ _⟩
end Go.Proofs.YtcnligenhiiaaaaDoor
