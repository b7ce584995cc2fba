/- Contracts of the library's slices.Clone and slices.BinarySearch at this program: the shelf's, by application. Conditions: as named in each theorem. -/
import Derived.Shelf.Slices.Clone
import Derived.Shelf.Slices.SearchI
import Derived.Shelf.Slices.Empties
import Derived.Test.YtfcfgkhdlpgbdaaProg
namespace Go.Proofs.Ytfcfgkhdlpgbdaa
open Go.Shelf Go.RowKit
set_option linter.unusedVariables false
def shCloneI_ren : Go.Shelf.Ren := ⟨fun | 15 => 66 | n => n, fun | 22 => 28 | 3 => 3 | 4 => 4 | n => n, fun | n => n⟩
theorem shCloneI : Go.Proofs.Lays2.n15 Try.prog shCloneI_ren := {
  mixed := by kernel_rfl
  f15 := Try.func66.trans (congrArg some (by kernel_rfl))
  t3 := Try.underlying3
  a3 := Try.isAgg3
  z3 := Try.sizeOf3
  v3 := Try.zeroValue3
  t4 := Try.underlying4
  a4 := Try.isAgg4
  z4 := Try.sizeOf4
  v4 := Try.zeroValue4
  t22 := Try.underlying28
  a22 := Try.isAgg28
  z22 := Try.sizeOf28
  v22 := Try.zeroValue28
  i3 := by kernel_rfl }
def shCloneS_ren : Go.Shelf.Ren := ⟨fun | 16 => 67 | n => n, fun | 24 => 29 | 9 => 9 | 4 => 4 | n => n, fun | n => n⟩
theorem shCloneS : Go.Proofs.Lays2.n16 Try.prog shCloneS_ren := {
  mixed := by kernel_rfl
  f16 := Try.func67.trans (congrArg some (by kernel_rfl))
  t4 := Try.underlying4
  a4 := Try.isAgg4
  z4 := Try.sizeOf4
  v4 := Try.zeroValue4
  t9 := Try.underlying9
  a9 := Try.isAgg9
  z9 := Try.sizeOf9
  v9 := Try.zeroValue9
  t24 := Try.underlying29
  a24 := Try.isAgg29
  z24 := Try.sizeOf29
  v24 := Try.zeroValue29
  i9 := by kernel_rfl }
def shFind_ren : Go.Shelf.Ren := ⟨fun | 25 => 54 | 31 => 77 | 32 => 78 | 37 => 94 | n => n, fun | 22 => 28 | 3 => 3 | 4 => 4 | 40 => 101 | 0 => 0 | n => n, fun | n => n⟩
theorem shFind : Go.Proofs.Lays2.n25 Try.prog shFind_ren := {
  mixed := by kernel_rfl
  f25 := Try.func54.trans (congrArg some (by kernel_rfl))
  f31 := Try.func77.trans (congrArg some (by kernel_rfl))
  f32 := Try.func78.trans (congrArg some (by kernel_rfl))
  f37 := Try.func94.trans (congrArg some (by kernel_rfl))
  t0 := Try.underlying0
  a0 := Try.isAgg0
  z0 := Try.sizeOf0
  v0 := Try.zeroValue0
  t3 := Try.underlying3
  a3 := Try.isAgg3
  z3 := Try.sizeOf3
  v3 := Try.zeroValue3
  t4 := Try.underlying4
  a4 := Try.isAgg4
  z4 := Try.sizeOf4
  v4 := Try.zeroValue4
  t22 := Try.underlying28
  a22 := Try.isAgg28
  z22 := Try.sizeOf28
  v22 := Try.zeroValue28
  t40 := Try.underlying101
  a40 := Try.isAgg101
  z40 := Try.sizeOf101
  v40 := Try.zeroValue101 }
end Go.Proofs.Ytfcfgkhdlpgbdaa
