/- Contracts of the library's slices.Clone and slices.BinarySearch at this program: the shelf's, by application. Conditions: as named in each theorem. -/
import Derived.Shelf.Slices.Clone
import Derived.Shelf.Slices.SearchI
import Derived.Shelf.Slices.Empties
import Derived.Test.YtgkcnocfijckoaaGreatProg
namespace Go.Proofs.YtgkcnocfijckoaaGreat
open Go.Shelf Go.RowKit
set_option linter.unusedVariables false
def shCloneI_ren : Go.Shelf.Ren := ⟨fun | 15 => 123 | n => n, fun | 22 => 49 | 3 => 3 | 4 => 4 | n => n, fun | n => n⟩
theorem shCloneI : Go.Proofs.Lays2.n15 Tryz.prog shCloneI_ren := {
  mixed := by kernel_rfl
  f15 := Tryz.func123.trans (congrArg some (by kernel_rfl))
  t3 := Tryz.underlying3
  a3 := Tryz.isAgg3
  z3 := Tryz.sizeOf3
  v3 := Tryz.zeroValue3
  t4 := Tryz.underlying4
  a4 := Tryz.isAgg4
  z4 := Tryz.sizeOf4
  v4 := Tryz.zeroValue4
  t22 := Tryz.underlying49
  a22 := Tryz.isAgg49
  z22 := Tryz.sizeOf49
  v22 := Tryz.zeroValue49
  i3 := by kernel_rfl }
def shCloneS_ren : Go.Shelf.Ren := ⟨fun | 16 => 124 | n => n, fun | 24 => 75 | 9 => 9 | 4 => 4 | n => n, fun | n => n⟩
theorem shCloneS : Go.Proofs.Lays2.n16 Tryz.prog shCloneS_ren := {
  mixed := by kernel_rfl
  f16 := Tryz.func124.trans (congrArg some (by kernel_rfl))
  t4 := Tryz.underlying4
  a4 := Tryz.isAgg4
  z4 := Tryz.sizeOf4
  v4 := Tryz.zeroValue4
  t9 := Tryz.underlying9
  a9 := Tryz.isAgg9
  z9 := Tryz.sizeOf9
  v9 := Tryz.zeroValue9
  t24 := Tryz.underlying75
  a24 := Tryz.isAgg75
  z24 := Tryz.sizeOf75
  v24 := Tryz.zeroValue75
  i9 := by kernel_rfl }
def shFind_ren : Go.Shelf.Ren := ⟨fun | 25 => 135 | 31 => 139 | 32 => 140 | 37 => 142 | n => n, fun | 22 => 49 | 3 => 3 | 4 => 4 | 40 => 133 | 0 => 0 | n => n, fun | n => n⟩
theorem shFind : Go.Proofs.Lays2.n25 Tryz.prog shFind_ren := {
  mixed := by kernel_rfl
  f25 := Tryz.func135.trans (congrArg some (by kernel_rfl))
  f31 := Tryz.func139.trans (congrArg some (by kernel_rfl))
  f32 := Tryz.func140.trans (congrArg some (by kernel_rfl))
  f37 := Tryz.func142.trans (congrArg some (by kernel_rfl))
  t0 := Tryz.underlying0
  a0 := Tryz.isAgg0
  z0 := Tryz.sizeOf0
  v0 := Tryz.zeroValue0
  t3 := Tryz.underlying3
  a3 := Tryz.isAgg3
  z3 := Tryz.sizeOf3
  v3 := Tryz.zeroValue3
  t4 := Tryz.underlying4
  a4 := Tryz.isAgg4
  z4 := Tryz.sizeOf4
  v4 := Tryz.zeroValue4
  t22 := Tryz.underlying49
  a22 := Tryz.isAgg49
  z22 := Tryz.sizeOf49
  v22 := Tryz.zeroValue49
  t40 := Tryz.underlying133
  a40 := Tryz.isAgg133
  z40 := Tryz.sizeOf133
  v40 := Tryz.zeroValue133 }
end Go.Proofs.YtgkcnocfijckoaaGreat
