/- Contracts of the library's slices.Clone and slices.BinarySearch at this program: the shelf's, by application. Conditions: as named in each theorem. -/
import Derived.Shelf.Slices.Clone
import Derived.Shelf.Slices.SearchI
import Derived.Shelf.Slices.Empties
import Derived.Test.YtgemhgllifhckaaProg
namespace Go.Proofs.Ytgemhgllifhckaa
open Go.Shelf Go.RowKit
set_option linter.unusedVariables false
def shCloneI_ren : Go.Shelf.Ren := ⟨fun | 15 => 93 | n => n, fun | 22 => 50 | 3 => 3 | 4 => 4 | n => n, fun | n => n⟩
theorem shCloneI : Go.Proofs.Lays2.n15 Try.prog shCloneI_ren := {
  mixed := by kernel_rfl
  f15 := Try.func93.trans (congrArg some (by kernel_rfl))
  t3 := Try.underlying3
  a3 := Try.isAgg3
  z3 := Try.sizeOf3
  v3 := Try.zeroValue3
  t4 := Try.underlying4
  a4 := Try.isAgg4
  z4 := Try.sizeOf4
  v4 := Try.zeroValue4
  t22 := Try.underlying50
  a22 := Try.isAgg50
  z22 := Try.sizeOf50
  v22 := Try.zeroValue50
  i3 := by kernel_rfl }
def shCloneS_ren : Go.Shelf.Ren := ⟨fun | 16 => 94 | n => n, fun | 24 => 36 | 9 => 9 | 4 => 4 | n => n, fun | n => n⟩
theorem shCloneS : Go.Proofs.Lays2.n16 Try.prog shCloneS_ren := {
  mixed := by kernel_rfl
  f16 := Try.func94.trans (congrArg some (by kernel_rfl))
  t4 := Try.underlying4
  a4 := Try.isAgg4
  z4 := Try.sizeOf4
  v4 := Try.zeroValue4
  t9 := Try.underlying9
  a9 := Try.isAgg9
  z9 := Try.sizeOf9
  v9 := Try.zeroValue9
  t24 := Try.underlying36
  a24 := Try.isAgg36
  z24 := Try.sizeOf36
  v24 := Try.zeroValue36
  i9 := by kernel_rfl }
def shFind_ren : Go.Shelf.Ren := ⟨fun | 25 => 119 | 31 => 126 | 32 => 127 | 37 => 130 | n => n, fun | 22 => 50 | 3 => 3 | 4 => 4 | 40 => 125 | 0 => 0 | n => n, fun | n => n⟩
theorem shFind : Go.Proofs.Lays2.n25 Try.prog shFind_ren := {
  mixed := by kernel_rfl
  f25 := Try.func119.trans (congrArg some (by kernel_rfl))
  f31 := Try.func126.trans (congrArg some (by kernel_rfl))
  f32 := Try.func127.trans (congrArg some (by kernel_rfl))
  f37 := Try.func130.trans (congrArg some (by kernel_rfl))
  t0 := Try.underlying0
  a0 := Try.isAgg0
  z0 := Try.sizeOf0
  v0 := Try.zeroValue0
  t3 := Try.underlying3
  a3 := Try.isAgg3
  z3 := Try.sizeOf3
  v3 := Try.zeroValue3
  t4 := Try.underlying4
  a4 := Try.isAgg4
  z4 := Try.sizeOf4
  v4 := Try.zeroValue4
  t22 := Try.underlying50
  a22 := Try.isAgg50
  z22 := Try.sizeOf50
  v22 := Try.zeroValue50
  t40 := Try.underlying125
  a40 := Try.isAgg125
  z40 := Try.sizeOf125
  v40 := Try.zeroValue125 }
end Go.Proofs.Ytgemhgllifhckaa
