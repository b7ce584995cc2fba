/- MarksNobody: the walk. No conditions. -/
import Derived.Test.YtjahdladcijhoaaMarksAwake
namespace Go.Proofs.Ytjahdladcijhoaa
open Go.RowKit
set_option linter.unusedVariables false

theorem none_nil (w : World) : Calls Try.prog 22 #[.pointer none] w fun e w' => e = .returned (.bool true) ∧ w = w' := by
  go_enter Try.func22, Try.ntmps22
  go_wp2
  go_ret
  exact ⟨rfl, rfl⟩
theorem none_zero (w : World) (p : Nat) (a : w.cell? ⟨p, 72, none⟩ = some (.bool false)) (c : w.cell? ⟨p, 74, none⟩ = some (.bool false)) :
    Calls Try.prog 22 #[.pointer (some ⟨p, 0, none⟩)] w fun e w' => e = .returned (.bool true) ∧ w = w' := by
  go_enter Try.func22, Try.ntmps22
  go_wp2
  go_ret
  exact ⟨rfl, rfl⟩
/-- a book that nobody gave: nil, or all noughts -/
def NoBook (w : World) (v : Value) : Prop := v = .pointer none ∨ ∃ p, v = .pointer (some ⟨p, 0, none⟩) ∧ w.cell? ⟨p, 72, none⟩ = some (.bool false) ∧ w.cell? ⟨p, 74, none⟩ = some (.bool false)
theorem none_nobook (w : World) (v : Value) (h : NoBook w v) : Calls Try.prog 22 #[v] w fun e w' => e = .returned (.bool true) ∧ w = w' := by
  rcases h with rfl | ⟨p, rfl, a, c⟩
  · exact none_nil w
  · exact none_zero w p a c
theorem ready_nobook (w : World) (v : Value) (h : NoBook w v) : Calls Try.prog 17 #[v] w fun e w' => e = .returned (.bool false) ∧ w = w' := by
  go_enter Try.func17, Try.ntmps17
  go_wp2_with fail
  refine (none_nobook _ _ h).mono ?_
  rintro e w' ⟨rfl, rfl⟩
  go_wp2
  go_ret
  exact ⟨rfl, rfl⟩
theorem mark_nobook (w : World) (v : Value) (s : ByteArray) (h : NoBook w v) : Calls Try.prog 12 #[v, .string s] w fun e w' => e = .returned (.string { data := #[] }) ∧ w = w' := by
  go_enter Try.func12, Try.ntmps12
  go_wp2_with fail
  refine (none_nobook _ _ h).mono ?_
  rintro e w' ⟨rfl, rfl⟩
  go_wp2
  go_ret
  exact ⟨rfl, rfl⟩
theorem is_nobook (w : World) (v : Value) (s mk : ByteArray) (h : NoBook w v) : Calls Try.prog 13 #[v, .string s, .string mk] w fun e w' => e = .returned (.bool false) ∧ w = w' := by
  go_enter Try.func13, Try.ntmps13
  go_wp2_with fail
  refine (none_nobook _ _ h).mono ?_
  rintro e w' ⟨rfl, rfl⟩
  go_wp2
  go_ret
  exact ⟨rfl, rfl⟩

theorem marksNobody_walk (w : World) (s : ByteArray) (hs : s.size ≤ 140737488351232) (mk : ByteArray) (hmk : mk.size ≤ 140737488351232) :
    Calls Try.prog 8 #[.string s, .string mk] w fun e w' => e = .returned (.bool true) ∧ Below w.heap.size w w' := by
  have hz := bookZ_run
  have hs := bookZ_size
  go_enter Try.func8, Try.ntmps8
  go_wp2_with fail
  have n1 : NoBook (w.alloc (.cells bookZ 48)) (.pointer none) := .inl rfl
  have n2 : NoBook (w.alloc (.cells bookZ 48)) (.pointer (some ⟨w.heap.size, 0, none⟩)) :=
    .inr ⟨_, rfl, by rw [World.cell?_alloc_new]; simp [bookZ], by rw [World.cell?_alloc_new]; simp [bookZ]⟩
  have hB : Below w.heap.size w (w.alloc (.cells bookZ 48)) := (Below.refl _ _).alloc (Nat.le_refl _) _
  refine (ready_nobook _ _ n1).mono ?_
  rintro e w' ⟨rfl, rfl⟩
  go_wp2_with fail
  refine (ready_nobook _ _ n2).mono ?_
  rintro e w' ⟨rfl, rfl⟩
  go_wp2_with fail
  refine (mark_nobook _ _ _ n1).mono ?_
  rintro e w' ⟨rfl, rfl⟩
  go_wp2_with fail
  refine (mark_nobook _ _ _ n2).mono ?_
  rintro e w' ⟨rfl, rfl⟩
  go_wp2_with fail
  refine (is_nobook _ _ _ _ n1).mono ?_
  rintro e w' ⟨rfl, rfl⟩
  go_wp2_with fail
  refine (is_nobook _ _ _ _ n2).mono ?_
  rintro e w' ⟨rfl, rfl⟩
  go_wp2_with fail
  refine (awake_any _).mono ?_
  rintro e w5 ⟨rfl, hb5⟩
  have hB5 : Below w.heap.size w w5 := hB.trans (hb5.mono hB.size)
  go_wp2
  go_ret
  exact ⟨rfl, hB5⟩
end Go.Proofs.Ytjahdladcijhoaa
