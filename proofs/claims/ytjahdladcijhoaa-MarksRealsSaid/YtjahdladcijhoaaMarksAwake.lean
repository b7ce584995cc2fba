/- awake. No conditions. -/
import Derived.Test.YtjahdladcijhoaaSeen
import Derived.Test.YtjahdladcijhoaaMarksNumR
namespace Go.Proofs.Ytjahdladcijhoaa
open Go.RowKit
set_option linter.unusedVariables false

theorem awake_any (w : World) : Calls Try.prog 14 #[] w fun e w' => e = .returned (.bool true) ∧ Below w.heap.size w w' := by
  go_enter Try.func14, Try.ntmps14
  go_wp2_with fail
  refine (ideal_any _).mono ?_
  rintro e w1 ⟨rfl, hI, hB⟩
  go_wp2_with fail
  refine (mark_as hI (by decide) (by decide) 1 [[120]] rfl rfl).mono ?_
  rintro e w2 ⟨rfl, hI2, hg2⟩
  have hB2 := book_step (p := 0) hB (Nat.le_refl _) hg2
  clear hI hB hg2
  go_wp2_with fail
  refine (refNumber_any 1 _ (by decide)).mono ?_
  rintro e w3 ⟨rfl, hb3⟩
  have hI3 := hI2.next hb3
  have hB3 : Below w.heap.size w w3 := hB2.trans (hb3.mono hB2.size)
  clear hI2 hB2 hb3
  go_wp2_with fail
  refine (mark_as hI3 (by decide) (by decide) 2 [[120], [121]] rfl rfl).mono ?_
  rintro e w4 ⟨rfl, hI4, hg4⟩
  have hB4 := book_step (p := 0) hB3 (Nat.le_refl _) hg4
  clear hI3 hB3 hg4
  go_wp2_with fail
  refine (refNumber_any 2 _ (by decide)).mono ?_
  rintro e w5 ⟨rfl, hb5⟩
  have hI5 := hI4.next hb5
  have hB5 : Below w.heap.size w w5 := hB4.trans (hb5.mono hB4.size)
  clear hI4 hB4 hb5
  go_wp2_with fail
  refine (mark_as hI5 (by decide) (by decide) 1 [[120], [121]] rfl rfl).mono ?_
  rintro e w6 ⟨rfl, hI6, hg6⟩
  have hB6 := book_step (p := 0) hB5 (Nat.le_refl _) hg6
  clear hI5 hB5 hg6
  go_wp2_with fail
  refine (refNumber_any 1 _ (by decide)).mono ?_
  rintro e w7 ⟨rfl, hb7⟩
  have hB7 : Below w.heap.size w w7 := hB6.trans (hb7.mono hB6.size)
  clear hI6 hB6 hb7
  go_wp2
  go_ret
  exact ⟨rfl, hB7⟩
end Go.Proofs.Ytjahdladcijhoaa
