/- ints: two lists that are one are told to be. Conditions: both slices read as the same numbers. -/
import Derived.Test.YtndbongcmepjmaaChecked
import Derived.Test.YtndbongcmepjmaaHeap
import Derived.BigQuiet
namespace Go.Proofs.Ytndbongcmepjmaa
open Go.RowKit
set_option linter.unusedVariables false

theorem ints_eq (a b : Value) (n : Nat) (g : Nat → Int) (w : World) (hn : n ≤ 1000000000) (ha : RowV w a n 1 (fun j => .int .i64 (g j))) (hb : RowV w b n 1 (fun j => .int .i64 (g j))) :
    Calls Try.prog 22 #[a, b] w fun e w' => e = .returned (.bool true) ∧ ∃ m, w' = w.drewN m := by
  rcases ha with ⟨rfl, ao, cap, rfl⟩ | ⟨b1, o1, c1, rfl, h1⟩
  · rcases hb with ⟨_, bo, cap2, rfl⟩ | ⟨b2, o2, c2, rfl, h2⟩
    all_goals
      go_enter Try.func22, Try.ntmps22
      go_wp2
      refine wp_loop_rounds 1 ?_
      rw [rounds_succ]
      go_wp2
      go_ret
      exact ⟨rfl, 0, rfl⟩
  · rcases hb with ⟨rfl, bo, cap2, rfl⟩ | ⟨b2, o2, c2, rfl, h2⟩
    · go_enter Try.func22, Try.ntmps22
      go_wp2
      refine wp_loop_rounds 1 ?_
      rw [rounds_succ]
      go_wp2
      go_ret
      exact ⟨rfl, 0, rfl⟩
    · rw [Nat.mul_one] at h1 h2
      have H1 := Lib.hid h1
      have H2 := Lib.hid h2
      clear h1 h2
      go_enter Try.func22, Try.ntmps22
      go_wp2
      go_loopw [5] (fun i wr => ∃ k m : Nat, k ≤ n ∧ i = .int .i64 k ∧ wr = w.drewN m) (fun i _ => n - (intOf i).toNat)
      case atStart => exact ⟨0, 0, by omega, rfl, rfl⟩
      case round =>
        obtain ⟨k, m, hk, rfl, rfl⟩ := hrel
        by_cases hlt : k < n
        · have x1 := H1.out k hlt
          have x2 := H2.out k hlt
          have i1 : (k : Int) < (n : Int) := by omega
          go_wp2
          go_quiet (fail)
          go_wp2
          go_roundw
          case rel => exact ⟨k + 1, _, by omega, by go_num, rfl⟩
          case measure => simp [intOf]; omega
        · go_wp2
          go_ret
          exact ⟨rfl, m, rfl⟩
end Go.Proofs.Ytndbongcmepjmaa
