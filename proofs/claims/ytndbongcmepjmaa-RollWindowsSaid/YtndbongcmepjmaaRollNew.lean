/- New, Skip, and the window that nobody gave. Conditions: as named in each theorem. -/
import Derived.Test.YtndbongcmepjmaaRollObj
namespace Go.Proofs.Ytndbongcmepjmaa
open Go.RowKit
set_option linter.unusedVariables false

theorem new_arg (s : ByteArray) (size : Int) (w : World) (h : size < 1 ∨ 1024 < size) :
    Calls Try.prog 16 #[.string s, .int .i64 size] w fun e w' => e = .returned (.tuple #[.pointer none, .int .i64 1]) ∧ w = w' := by
  rcases h with h | h
  · go_enter Try.func16, Try.ntmps16
    go_wp2
    go_ret2
    exact ⟨rfl, rfl⟩
  · go_enter Try.func16, Try.ntmps16
    go_wp2
    go_ret2
    exact ⟨rfl, rfl⟩

theorem new_short (s : ByteArray) (size : Int) (w : World) (h1 : 1 ≤ size) (h2 : size ≤ 1024) (h3 : (s.size : Int) < size) :
    Calls Try.prog 16 #[.string s, .int .i64 size] w fun e w' => e = .returned (.tuple #[.pointer none, .int .i64 3]) ∧ w = w' := by
  go_enter Try.func16, Try.ntmps16
  go_wp2
  go_ret2
  exact ⟨rfl, rfl⟩

theorem ext_win (s : ByteArray) (at_ size : Nat) : (s.extract at_ (at_ + size)).data.toList = win s at_ size := by
  unfold win
  simp [ByteArray.data_extract, Array.toList_extract, List.extract_eq_take_drop]

theorem new_ok (s : ByteArray) (size : Nat) (w : World) (h1 : 1 ≤ size) (h2 : size ≤ 1024) (h3 : size ≤ s.size) (h4 : s.size ≤ 1000000) :
    Calls Try.prog 16 #[.string s, .int .i64 size] w fun e w' => e = .returned (.tuple #[.pointer (some ⟨w.heap.size, 0, none⟩), .int .i64 0]) ∧ (∃ o, w' = w.alloc o) ∧ RollW w' w.heap.size s size 0 := by
  have hk := weak_lt (List.take size s.data.toList)
  go_enter Try.func16, Try.ntmps16
  go_wp2_with (go_at_call 12; refine (rollSum_any _ _ (by simp; omega)).mono ?_; rintro e w' ⟨rfl, rfl⟩)
  go_ret2
  refine ⟨rfl, ⟨_, rfl⟩, ?_⟩
  have e0 : List.take size s.data.toList = win s 0 size := rfl
  have ea : ((weak (List.take size s.data.toList) : Nat) : Int) % 65536 = ((sa (win s 0 size) % 65536 : Nat) : Int) := by rw [e0]; unfold weak; omega
  have eb : ((weak (List.take size s.data.toList) : Nat) : Int) / 65536 = ((sb (win s 0 size) % 65536 : Nat) : Int) := by rw [e0]; unfold weak; omega
  have hn := Blk.new w [.string s, .int .i64 size, .int .i64 (0 : Nat), .int .i64 (sa (win s 0 size) % 65536 : Nat), .int .i64 (sb (win s 0 size) % 65536 : Nat)] 37
  unfold RollW RollB
  rw [← ea, ← eb] at hn
  rw [← ea, ← eb]
  exact hn

theorem at_nil (w : World) : Calls Try.prog 18 #[.pointer none] w fun e w' => e = .returned (.int .i64 (-1)) ∧ w = w' := by
  go_enter Try.func18, Try.ntmps18
  go_wp2
  go_ret
  exact ⟨rfl, rfl⟩
theorem at_zero (w : World) (p : Nat) (c1 : w.cell? ⟨p, 1, none⟩ = some (.int .i64 0)) :
    Calls Try.prog 18 #[.pointer (some ⟨p, 0, none⟩)] w fun e w' => e = .returned (.int .i64 (-1)) ∧ w = w' := by
  go_enter Try.func18, Try.ntmps18
  go_wp2
  go_ret
  exact ⟨rfl, rfl⟩
theorem sumw_nil (w : World) : Calls Try.prog 19 #[.pointer none] w fun e w' => e = .returned (.int .i64 0) ∧ w = w' := by
  go_enter Try.func19, Try.ntmps19
  go_wp2
  go_ret
  exact ⟨rfl, rfl⟩
theorem sumw_zero (w : World) (p : Nat) (c3 : w.cell? ⟨p, 3, none⟩ = some (.int .i64 0)) (c4 : w.cell? ⟨p, 4, none⟩ = some (.int .i64 0)) :
    Calls Try.prog 19 #[.pointer (some ⟨p, 0, none⟩)] w fun e w' => e = .returned (.int .i64 0) ∧ ∃ n, w' = w.drewN n := by
  go_enter Try.func19, Try.ntmps19
  go_wp2
  go_quiet (fail)
  go_wp2
  go_ret
  exact ⟨rfl, _, rfl⟩
theorem next_nil (w : World) : Calls Try.prog 17 #[.pointer none] w fun e w' => e = .returned (.bool false) ∧ ∃ n, w' = w.drewN n := by
  go_enter Try.func17, Try.ntmps17
  go_wp2
  go_quiet (fail)
  go_wp2
  go_ret
  exact ⟨rfl, _, rfl⟩
theorem next_zero (w : World) (p : Nat) (c1 : w.cell? ⟨p, 1, none⟩ = some (.int .i64 0)) :
    Calls Try.prog 17 #[.pointer (some ⟨p, 0, none⟩)] w fun e w' => e = .returned (.bool false) ∧ ∃ n, w' = w.drewN n := by
  go_enter Try.func17, Try.ntmps17
  go_wp2
  go_quiet (fail)
  go_wp2
  go_ret
  exact ⟨rfl, _, rfl⟩
theorem skip_nil (w : World) (n : Int) : Calls Try.prog 20 #[.pointer none, .int .i64 n] w fun e w' => e = .returned (.bool false) ∧ ∃ n, w' = w.drewN n := by
  go_enter Try.func20, Try.ntmps20
  go_wp2
  go_quiet (fail)
  go_wp2
  go_ret
  exact ⟨rfl, _, rfl⟩
theorem skip_zero (w : World) (n : Int) (p : Nat) (c1 : w.cell? ⟨p, 1, none⟩ = some (.int .i64 0)) :
    Calls Try.prog 20 #[.pointer (some ⟨p, 0, none⟩), .int .i64 n] w fun e w' => e = .returned (.bool false) ∧ ∃ n, w' = w.drewN n := by
  go_enter Try.func20, Try.ntmps20
  go_wp2
  go_quiet (fail)
  go_wp2
  go_ret
  exact ⟨rfl, _, rfl⟩
end Go.Proofs.Ytndbongcmepjmaa
