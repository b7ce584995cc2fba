/- RollThree: the walk. No conditions. -/
import Derived.Test.YtndbongcmepjmaaRollJoin
namespace Go.Proofs.Ytndbongcmepjmaa
open Go.RowKit
set_option linter.unusedVariables false

theorem rollThree_walk (w : World) (x : Int) (wx : (Lit.int .i64 x).wf = true) (y : Int) (wy : (Lit.int .i64 y).wf = true) (z : Int) (wz : (Lit.int .i64 z).wf = true)
    (n : Int) (wn : (Lit.int .i64 n).wf = true) (m : Int) (wm : (Lit.int .i64 m).wf = true) :
    Calls Try.prog 5 #[.int .i64 x, .int .i64 y, .int .i64 z, .int .i64 n, .int .i64 m] w fun e w' => e = .returned (.bool true) ∧ Below w.heap.size w w' := by
  clear wx wy wz wn wm
  by_cases h1 : joinOk x y n
  · have H1 := Lib.hid h1
    obtain ⟨a1, a2, a3, a4, a5, a6⟩ := h1
    have hr := joinI_range x y n
    by_cases h2 : joinOk y z m
    · have H2 := Lib.hid h2
      obtain ⟨b1, b2, b3, b4, b5, b6⟩ := h2
      have hr2 := joinI_range y z m
      by_cases h3 : m ≤ 524288 - n
      · have H3 : Hid (joinOk (joinI x y n) z m) := ⟨hr.1, b2, hr.2, b4, b5, b6⟩
        have H4 : Hid (joinOk x (joinI y z m) (n + m)) := ⟨a1, hr2.1, a3, hr2.2, by omega, by omega⟩
        have he : (joinI (joinI x y n) z m == joinI x (joinI y z m) (n + m)) = true := by rw [joinI_assoc]; simp
        go_enter Try.func5, Try.ntmps5
        go_wp2_with fail
        refine (join_ok _ _ _ _ H1.out).mono ?_
        rintro e w' ⟨rfl, rfl⟩
        go_wp2_with fail
        refine (join_ok _ _ _ _ H2.out).mono ?_
        rintro e w' ⟨rfl, rfl⟩
        go_wp2_with fail
        refine (join_ok _ _ _ _ H3.out).mono ?_
        rintro e w' ⟨rfl, rfl⟩
        go_wp2_with fail
        refine (join_ok _ _ _ _ H4.out).mono ?_
        rintro e w' ⟨rfl, rfl⟩
        go_wp2_with (go_at_call 14; refine (awake_any _).mono ?_; rintro e w' ⟨rfl, rfl⟩)
        go_ret
        exact ⟨rfl, Below.refl _ _⟩
      · go_enter Try.func5, Try.ntmps5
        go_wp2_with fail
        refine (join_ok _ _ _ _ H1.out).mono ?_
        rintro e w' ⟨rfl, rfl⟩
        go_wp2_with fail
        refine (join_ok _ _ _ _ H2.out).mono ?_
        rintro e w' ⟨rfl, rfl⟩
        go_wp2_with (go_at_call 14; refine (awake_any _).mono ?_; rintro e w' ⟨rfl, rfl⟩)
        go_ret
        exact ⟨rfl, Below.refl _ _⟩
    · have H2 := Lib.hid h2
      clear h2
      go_enter Try.func5, Try.ntmps5
      go_wp2_with fail
      refine (join_ok _ _ _ _ H1.out).mono ?_
      rintro e w' ⟨rfl, rfl⟩
      go_wp2_with fail
      refine (join_bad _ _ _ _ H2.out).mono ?_
      rintro e w' ⟨rfl, rfl⟩
      go_wp2_with (go_at_call 14; refine (awake_any _).mono ?_; rintro e w' ⟨rfl, rfl⟩)
      go_ret
      exact ⟨rfl, Below.refl _ _⟩
  · have H1 := Lib.hid h1
    unfold joinOk at h1
    go_enter Try.func5, Try.ntmps5
    go_wp2_with fail
    refine (join_bad _ _ _ _ H1.out).mono ?_
    rintro e w' ⟨rfl, rfl⟩
    go_wp2_with (go_at_call 14; refine (awake_any _).mono ?_; rintro e w' ⟨rfl, rfl⟩)
    all_goals
      go_ret
      exact ⟨rfl, Below.refl _ _⟩
end Go.Proofs.Ytndbongcmepjmaa
