/- strings.IndexByte at this program: the shelf's contract, by application. Conditions: none. -/
import Derived.Shelf.Small.Strs
import Derived.Test.YtlcpnpoleaanmaaProg
namespace Go.Proofs.Ytlcpnpoleaanmaa
open Go.Shelf Go.RowKit
set_option linter.unusedVariables false
def shIndex_ren : Go.Shelf.Ren := ⟨fun | 137 => 51 | 217 => 72 | 266 => 79 | n => n, fun | 3 => 3 | 5 => 5 | 9 => 9 | n => n, fun | n => n⟩
theorem shIndex : Go.Proofs.Lays.n137 Try.prog shIndex_ren := {
  mixed := by kernel_rfl
  f137 := Try.func51.trans (congrArg some (by kernel_rfl))
  f217 := Try.func72.trans (congrArg some (by kernel_rfl))
  f266 := Try.func79.trans (congrArg some (by kernel_rfl))
  t3 := Try.underlying3
  a3 := Try.isAgg3
  z3 := Try.sizeOf3
  v3 := Try.zeroValue3
  t5 := Try.underlying5
  a5 := Try.isAgg5
  z5 := Try.sizeOf5
  v5 := Try.zeroValue5
  t9 := Try.underlying9
  a9 := Try.isAgg9
  z9 := Try.sizeOf9
  v9 := Try.zeroValue9 }
end Go.Proofs.Ytlcpnpoleaanmaa
