/- The library's contracts of the kit's shelf, laid at this program (each one application): slices.Insert and slices.Clone at strings. -/
import Derived.Shelf.Spec.SlicesInsert
import Derived.Shelf.Spec.SlicesInsertGrow
import Derived.Shelf.Slices.Clone
import Derived.Test.YtcnligenhiiaaaaDoorProg
namespace Go.Proofs
open Go.Shelf Go.RowKit
def Tryd.n222_ren : Go.Shelf.Ren := ⟨fun | 17 => 45 | 22 => 18 | 29 => 28 | 30 => 29 | 36 => 40 | n => n, fun | 0 => 0 | 3 => 3 | 4 => 4 | 9 => 9 | 24 => 22 | n => n, fun | n => n⟩
theorem Tryd.n222 : Go.Proofs.Lays2.n22 Tryd.prog Tryd.n222_ren := {
  mixed := by kernel_rfl
  f17 := Tryd.func45.trans (congrArg some (by kernel_rfl))
  f22 := Tryd.func18.trans (congrArg some (by kernel_rfl))
  f29 := Tryd.func28.trans (congrArg some (by kernel_rfl))
  f30 := Tryd.func29.trans (congrArg some (by kernel_rfl))
  f36 := Tryd.func40.trans (congrArg some (by kernel_rfl))
  t0 := Tryd.underlying0
  a0 := Tryd.isAgg0
  z0 := Tryd.sizeOf0
  v0 := Tryd.zeroValue0
  t3 := Tryd.underlying3
  a3 := Tryd.isAgg3
  z3 := Tryd.sizeOf3
  v3 := Tryd.zeroValue3
  t4 := Tryd.underlying4
  a4 := Tryd.isAgg4
  z4 := Tryd.sizeOf4
  v4 := Tryd.zeroValue4
  t9 := Tryd.underlying9
  a9 := Tryd.isAgg9
  z9 := Tryd.sizeOf9
  v9 := Tryd.zeroValue9
  t24 := Tryd.underlying22
  a24 := Tryd.isAgg22
  z24 := Tryd.sizeOf22
  v24 := Tryd.zeroValue22
  i9 := by kernel_rfl }
def Tryd.n216_ren : Go.Shelf.Ren := ⟨fun | 16 => 19 | n => n, fun | 4 => 4 | 9 => 9 | 24 => 22 | n => n, fun | n => n⟩
theorem Tryd.n216 : Go.Proofs.Lays2.n16 Tryd.prog Tryd.n216_ren := {
  mixed := by kernel_rfl
  f16 := Tryd.func19.trans (congrArg some (by kernel_rfl))
  t4 := Tryd.underlying4
  a4 := Tryd.isAgg4
  z4 := Tryd.sizeOf4
  v4 := Tryd.zeroValue4
  t9 := Tryd.underlying9
  a9 := Tryd.isAgg9
  z9 := Tryd.sizeOf9
  v9 := Tryd.zeroValue9
  t24 := Tryd.underlying22
  a24 := Tryd.isAgg22
  z24 := Tryd.sizeOf22
  v24 := Tryd.zeroValue22
  i9 := by kernel_rfl }
end Go.Proofs
