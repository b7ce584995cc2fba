/- A book that nobody gave. Conditions: as named in each theorem. -/
import Derived.Test.YtlcpnpoleaanmaaMarksBook
namespace Go.Proofs.Ytlcpnpoleaanmaa
open Go.RowKit
set_option linter.unusedVariables false

theorem none_nil (w : World) : Calls Try.prog 38 #[.pointer none] w fun e w' => e = .returned (.bool true) ∧ w = w' := by
  go_enter Try.func38, Try.ntmps38
  go_wp2
  go_ret
  exact ⟨rfl, rfl⟩
theorem none_zero (w : World) (p : Nat) (a : w.cell? ⟨p, 72, none⟩ = some (.bool false)) (c : w.cell? ⟨p, 74, none⟩ = some (.bool false)) :
    Calls Try.prog 38 #[.pointer (some ⟨p, 0, none⟩)] w fun e w' => e = .returned (.bool true) ∧ w = w' := by
  go_enter Try.func38, Try.ntmps38
  go_wp2
  go_ret
  exact ⟨rfl, rfl⟩
/-- a book that nobody gave: nil, or all noughts -/
def NoBook (w : World) (v : Value) : Prop := v = .pointer none ∨ ∃ p, v = .pointer (some ⟨p, 0, none⟩) ∧ w.cell? ⟨p, 72, none⟩ = some (.bool false) ∧ w.cell? ⟨p, 74, none⟩ = some (.bool false)
theorem none_nobook (w : World) (v : Value) (h : NoBook w v) : Calls Try.prog 38 #[v] w fun e w' => e = .returned (.bool true) ∧ w = w' := by
  rcases h with rfl | ⟨p, rfl, a, c⟩
  · exact none_nil w
  · exact none_zero w p a c
theorem mark_nobook (w : World) (v : Value) (s : ByteArray) (h : NoBook w v) : Calls Try.prog 23 #[v, .string s] w fun e w' => e = .returned (.string { data := #[] }) ∧ w = w' := by
  go_enter Try.func23, Try.ntmps23
  go_wp2_with fail
  refine (none_nobook _ _ h).mono ?_
  rintro e w' ⟨rfl, rfl⟩
  go_wp2
  go_ret
  exact ⟨rfl, rfl⟩
theorem is_nobook (w : World) (v : Value) (s mk : ByteArray) (h : NoBook w v) : Calls Try.prog 19 #[v, .string s, .string mk] w fun e w' => e = .returned (.bool false) ∧ w = w' := by
  go_enter Try.func19, Try.ntmps19
  go_wp2_with fail
  refine (none_nobook _ _ h).mono ?_
  rintro e w' ⟨rfl, rfl⟩
  go_wp2
  go_ret
  exact ⟨rfl, rfl⟩

end Go.Proofs.Ytlcpnpoleaanmaa
