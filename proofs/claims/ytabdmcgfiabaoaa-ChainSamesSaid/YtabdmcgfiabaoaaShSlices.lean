/- Contracts of the library's slices.Clone and slices.BinarySearch at this program: the shelf's, by application. Conditions: as named in each theorem. -/
import Derived.Shelf.Slices.Clone
import Derived.Shelf.Slices.SearchI
import Derived.Shelf.Slices.Empties
import Derived.Test.YtabdmcgfiabaoaaProg
namespace Go.Proofs.Ytabdmcgfiabaoaa
open Go.Shelf Go.RowKit
set_option linter.unusedVariables false
def shCloneI_ren : Go.Shelf.Ren := ⟨fun | 15 => 67 | n => n, fun | 22 => 73 | 3 => 3 | 4 => 4 | n => n, fun | n => n⟩
theorem shCloneI : Go.Proofs.Lays2.n15 Try.prog shCloneI_ren := {
  mixed := by kernel_rfl
  f15 := Try.func67.trans (congrArg some (by kernel_rfl))
  t3 := Try.underlying3
  a3 := Try.isAgg3
  z3 := Try.sizeOf3
  v3 := Try.zeroValue3
  t4 := Try.underlying4
  a4 := Try.isAgg4
  z4 := Try.sizeOf4
  v4 := Try.zeroValue4
  t22 := Try.underlying73
  a22 := Try.isAgg73
  z22 := Try.sizeOf73
  v22 := Try.zeroValue73
  i3 := by kernel_rfl }
def shCloneS_ren : Go.Shelf.Ren := ⟨fun | 16 => 68 | n => n, fun | 24 => 40 | 9 => 9 | 4 => 4 | n => n, fun | n => n⟩
theorem shCloneS : Go.Proofs.Lays2.n16 Try.prog shCloneS_ren := {
  mixed := by kernel_rfl
  f16 := Try.func68.trans (congrArg some (by kernel_rfl))
  t4 := Try.underlying4
  a4 := Try.isAgg4
  z4 := Try.sizeOf4
  v4 := Try.zeroValue4
  t9 := Try.underlying9
  a9 := Try.isAgg9
  z9 := Try.sizeOf9
  v9 := Try.zeroValue9
  t24 := Try.underlying40
  a24 := Try.isAgg40
  z24 := Try.sizeOf40
  v24 := Try.zeroValue40
  i9 := by kernel_rfl }
def shFind_ren : Go.Shelf.Ren := ⟨fun | 25 => 79 | 31 => 85 | 32 => 86 | 37 => 89 | n => n, fun | 22 => 73 | 3 => 3 | 4 => 4 | 40 => 126 | 0 => 0 | n => n, fun | n => n⟩
theorem shFind : Go.Proofs.Lays2.n25 Try.prog shFind_ren := {
  mixed := by kernel_rfl
  f25 := Try.func79.trans (congrArg some (by kernel_rfl))
  f31 := Try.func85.trans (congrArg some (by kernel_rfl))
  f32 := Try.func86.trans (congrArg some (by kernel_rfl))
  f37 := Try.func89.trans (congrArg some (by kernel_rfl))
  t0 := Try.underlying0
  a0 := Try.isAgg0
  z0 := Try.sizeOf0
  v0 := Try.zeroValue0
  t3 := Try.underlying3
  a3 := Try.isAgg3
  z3 := Try.sizeOf3
  v3 := Try.zeroValue3
  t4 := Try.underlying4
  a4 := Try.isAgg4
  z4 := Try.sizeOf4
  v4 := Try.zeroValue4
  t22 := Try.underlying73
  a22 := Try.isAgg73
  z22 := Try.sizeOf73
  v22 := Try.zeroValue73
  t40 := Try.underlying126
  a40 := Try.isAgg126
  z40 := Try.sizeOf126
  v40 := Try.zeroValue126 }
end Go.Proofs.Ytabdmcgfiabaoaa
