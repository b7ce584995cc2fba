/- The size of blocks. No conditions. -/
import Derived.Test.YtgkcnocfijckoaaGreatChecked
import Derived.Test.YtgkcnocfijckoaaGreatQA
namespace Go.Proofs.YtgkcnocfijckoaaGreat
open Go.RowKit
set_option linter.unusedVariables false
def blk (n : Int) : Int := if n ≤ 256 then 16 else if n ≤ 1024 then 32 else if n ≤ 4096 then 64 else if n ≤ 16384 then 128 else if n ≤ 65536 then 256 else if n ≤ 262144 then 512 else 1024
theorem blk_bd (n : Int) : 16 ≤ blk n ∧ blk n ≤ 1024 := by unfold blk; split <;> (try split) <;> (try split) <;> (try split) <;> (try split) <;> (try split) <;> omega
set_option maxHeartbeats 1000000 in
theorem block_any (w : World) (n : Int) (hw : (Lit.int .i64 n).wf = true) : Calls Tryz.prog 51 #[.int .i64 n] w fun e w' => e = .returned (.int .i64 (blk n)) ∧ w' = w := by
  go_enter Tryz.func51, Tryz.ntmps51
  go_wp2
  go_loopw [3] (fun b wr => (b = .int .i64 16 ∨ (b = .int .i64 32 ∧ 256 < n) ∨ (b = .int .i64 64 ∧ 1024 < n) ∨ (b = .int .i64 128 ∧ 4096 < n) ∨ (b = .int .i64 256 ∧ 16384 < n) ∨ (b = .int .i64 512 ∧ 65536 < n) ∨ (b = .int .i64 1024 ∧ 262144 < n)) ∧ wr = w) (fun b _ => 2048 - (intOf b).toNat)
  case atStart => exact ⟨.inl rfl, rfl⟩
  case round =>
    obtain ⟨hrel, rfl⟩ := hrel
    rcases hrel with rfl | ⟨rfl, hb⟩ | ⟨rfl, hb⟩ | ⟨rfl, hb⟩ | ⟨rfl, hb⟩ | ⟨rfl, hb⟩ | ⟨rfl, hb⟩
    · by_cases h : 256 < n
      · go_wp2
        go_roundw
        case rel => exact ⟨.inr (.inl ⟨rfl, by omega⟩), by first | rfl | trivial⟩
        case measure => simp [intOf]
      · have hbk : blk n = 16 := by unfold blk; rw [if_pos (show n ≤ 256 by omega)]
        go_wp2
        go_ret
        exact ⟨rfl, rfl⟩
    · by_cases h : 1024 < n
      · go_wp2
        go_roundw
        case rel => exact ⟨.inr (.inr (.inl ⟨rfl, by omega⟩)), by first | rfl | trivial⟩
        case measure => simp [intOf]
      · have hbk : blk n = 32 := by unfold blk; rw [if_neg (show ¬ n ≤ 256 by omega)]; rw [if_pos (show n ≤ 1024 by omega)]
        go_wp2
        go_ret
        exact ⟨rfl, rfl⟩
    · by_cases h : 4096 < n
      · go_wp2
        go_roundw
        case rel => exact ⟨.inr (.inr (.inr (.inl ⟨rfl, by omega⟩))), by first | rfl | trivial⟩
        case measure => simp [intOf]
      · have hbk : blk n = 64 := by unfold blk; rw [if_neg (show ¬ n ≤ 256 by omega)]; rw [if_neg (show ¬ n ≤ 1024 by omega)]; rw [if_pos (show n ≤ 4096 by omega)]
        go_wp2
        go_ret
        exact ⟨rfl, rfl⟩
    · by_cases h : 16384 < n
      · go_wp2
        go_roundw
        case rel => exact ⟨.inr (.inr (.inr (.inr (.inl ⟨rfl, by omega⟩)))), by first | rfl | trivial⟩
        case measure => simp [intOf]
      · have hbk : blk n = 128 := by unfold blk; rw [if_neg (show ¬ n ≤ 256 by omega)]; rw [if_neg (show ¬ n ≤ 1024 by omega)]; rw [if_neg (show ¬ n ≤ 4096 by omega)]; rw [if_pos (show n ≤ 16384 by omega)]
        go_wp2
        go_ret
        exact ⟨rfl, rfl⟩
    · by_cases h : 65536 < n
      · go_wp2
        go_roundw
        case rel => exact ⟨.inr (.inr (.inr (.inr (.inr (.inl ⟨rfl, by omega⟩))))), by first | rfl | trivial⟩
        case measure => simp [intOf]
      · have hbk : blk n = 256 := by unfold blk; rw [if_neg (show ¬ n ≤ 256 by omega)]; rw [if_neg (show ¬ n ≤ 1024 by omega)]; rw [if_neg (show ¬ n ≤ 4096 by omega)]; rw [if_neg (show ¬ n ≤ 16384 by omega)]; rw [if_pos (show n ≤ 65536 by omega)]
        go_wp2
        go_ret
        exact ⟨rfl, rfl⟩
    · by_cases h : 262144 < n
      · go_wp2
        go_roundw
        case rel => exact ⟨.inr (.inr (.inr (.inr (.inr (.inr (⟨rfl, by omega⟩)))))), by first | rfl | trivial⟩
        case measure => simp [intOf]
      · have hbk : blk n = 512 := by unfold blk; rw [if_neg (show ¬ n ≤ 256 by omega)]; rw [if_neg (show ¬ n ≤ 1024 by omega)]; rw [if_neg (show ¬ n ≤ 4096 by omega)]; rw [if_neg (show ¬ n ≤ 16384 by omega)]; rw [if_neg (show ¬ n ≤ 65536 by omega)]; rw [if_pos (show n ≤ 262144 by omega)]
        go_wp2
        go_ret
        exact ⟨rfl, rfl⟩
    · have hbk : blk n = 1024 := by unfold blk; rw [if_neg (show ¬ n ≤ 256 by omega)]; rw [if_neg (show ¬ n ≤ 1024 by omega)]; rw [if_neg (show ¬ n ≤ 4096 by omega)]; rw [if_neg (show ¬ n ≤ 16384 by omega)]; rw [if_neg (show ¬ n ≤ 65536 by omega)]; rw [if_neg (show ¬ n ≤ 262144 by omega)]
      go_wp2
      go_ret
      rw [hbk]
      exact ⟨rfl, rfl⟩
end Go.Proofs.YtgkcnocfijckoaaGreat
