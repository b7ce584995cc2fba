/- SignBlocks: the walk. No conditions. -/
import Derived.Test.YtfcfgkhdlpgbdaaSignAwake
namespace Go.Proofs.Ytfcfgkhdlpgbdaa
open Go.RowKit
set_option linter.unusedVariables false

set_option maxHeartbeats 600000 in
theorem signBlocks_walk (w : World) (n : Int) (wn : (Lit.int .i64 n).wf = true) :
    Calls Try.prog 3 #[.int .i64 n] w fun e w' => e = .returned (.bool true) ∧ Below w.heap.size w w' := by
  obtain ⟨b1, b2⟩ := blk_bd n
  go_enter Try.func3, Try.ntmps3
  go_wp2_with fail
  refine (block_any _ n wn).mono ?_
  rintro e w' ⟨rfl, rfl⟩
  go_wp2_with fail
  refine (refBlock_any _ n wn).mono ?_
  rintro e w' ⟨rfl, rfl⟩
  obtain ⟨B, hB⟩ : ∃ B, B = blk n := ⟨_, rfl⟩
  rw [← hB] at b1 b2
  rw [← hB]
  clear hB
  go_wp2_with fail
  refine (awake_sign _).mono ?_
  rintro e w2 ⟨rfl, hb⟩
  go_wp2
  go_ret
  exact ⟨rfl, hb⟩
end Go.Proofs.Ytfcfgkhdlpgbdaa
