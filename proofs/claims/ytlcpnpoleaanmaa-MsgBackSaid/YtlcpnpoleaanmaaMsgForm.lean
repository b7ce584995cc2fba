/- A kind's fields, in the program and in the document. Conditions: none. -/
import Derived.Test.YtlcpnpoleaanmaaMsgMath
import Derived.Test.YtlcpnpoleaanmaaChecked
import Derived.Test.YtlcpnpoleaanmaaHeap
namespace Go.Proofs.Ytlcpnpoleaanmaa
open Go.RowKit
set_option linter.unusedVariables false

def fldS (k : Int) : ByteArray := ⟨(flds k).toArray⟩
def lowS (k : Int) : ByteArray := ⟨(low (flds k)).toArray⟩
theorem flds_none {k : Int} (h : ∀ i : Nat, 1 ≤ i → i ≤ 17 → k ≠ i) : flds k = [] := by
  have h1 : k ≠ 1 := h 1 (by decide) (by decide)
  have h2 : k ≠ 2 := h 2 (by decide) (by decide)
  have h3 : k ≠ 3 := h 3 (by decide) (by decide)
  have h4 : k ≠ 4 := h 4 (by decide) (by decide)
  have h5 : k ≠ 5 := h 5 (by decide) (by decide)
  have h6 : k ≠ 6 := h 6 (by decide) (by decide)
  have h7 : k ≠ 7 := h 7 (by decide) (by decide)
  have h8 : k ≠ 8 := h 8 (by decide) (by decide)
  have h9 : k ≠ 9 := h 9 (by decide) (by decide)
  have h10 : k ≠ 10 := h 10 (by decide) (by decide)
  have h11 : k ≠ 11 := h 11 (by decide) (by decide)
  have h12 : k ≠ 12 := h 12 (by decide) (by decide)
  have h13 : k ≠ 13 := h 13 (by decide) (by decide)
  have h14 : k ≠ 14 := h 14 (by decide) (by decide)
  have h15 : k ≠ 15 := h 15 (by decide) (by decide)
  have h16 : k ≠ 16 := h 16 (by decide) (by decide)
  have h17 : k ≠ 17 := h 17 (by decide) (by decide)
  unfold flds
  simp only [h1, h2, h3, h4, h5, h6, h7, h8, h9, h10, h11, h12, h13, h14, h15, h16, h17, or_self, if_false]
set_option maxHeartbeats 1000000 in
theorem form_any (w : World) (k : Int) : Calls Try.prog 26 #[.int .i64 k] w fun e w' => e = .returned (.string (lowS k)) ∧ w = w' := by
  by_cases h1 : k = 1
  · subst h1
    have hs : lowS 1 = ⟨#[98]⟩ := by decide
    rw [hs]
    clear hs
    go_enter Try.func26, Try.ntmps26
    go_wp2
    go_ret
    exact ⟨rfl, rfl⟩
  by_cases h2 : k = 2
  · subst h2
    have hs : lowS 2 = ⟨#[98, 102, 116, 108]⟩ := by decide
    rw [hs]
    clear hs
    go_enter Try.func26, Try.ntmps26
    go_wp2
    go_ret
    exact ⟨rfl, rfl⟩
  by_cases h3 : k = 3
  · subst h3
    have hs : lowS 3 = ⟨#[98]⟩ := by decide
    rw [hs]
    clear hs
    go_enter Try.func26, Try.ntmps26
    go_wp2
    go_ret
    exact ⟨rfl, rfl⟩
  by_cases h4 : k = 4
  · subst h4
    have hs : lowS 4 = ⟨#[98, 103, 115, 109, 112]⟩ := by decide
    rw [hs]
    clear hs
    go_enter Try.func26, Try.ntmps26
    go_wp2
    go_ret
    exact ⟨rfl, rfl⟩
  by_cases h5 : k = 5
  · subst h5
    have hs : lowS 5 = ⟨#[98, 103, 116, 114, 109]⟩ := by decide
    rw [hs]
    clear hs
    go_enter Try.func26, Try.ntmps26
    go_wp2
    go_ret
    exact ⟨rfl, rfl⟩
  by_cases h6 : k = 6
  · subst h6
    have hs : lowS 6 = ⟨#[98, 103, 109]⟩ := by decide
    rw [hs]
    clear hs
    go_enter Try.func26, Try.ntmps26
    go_wp2
    go_ret
    exact ⟨rfl, rfl⟩
  by_cases h7 : k = 7
  · subst h7
    have hs : lowS 7 = ⟨#[98, 103, 109]⟩ := by decide
    rw [hs]
    clear hs
    go_enter Try.func26, Try.ntmps26
    go_wp2
    go_ret
    exact ⟨rfl, rfl⟩
  by_cases h8 : k = 8
  · subst h8
    have hs : lowS 8 = ⟨#[98, 103, 109]⟩ := by decide
    rw [hs]
    clear hs
    go_enter Try.func26, Try.ntmps26
    go_wp2
    go_ret
    exact ⟨rfl, rfl⟩
  by_cases h9 : k = 9
  · subst h9
    have hs : lowS 9 = ⟨#[103, 109]⟩ := by decide
    rw [hs]
    clear hs
    go_enter Try.func26, Try.ntmps26
    go_wp2
    go_ret
    exact ⟨rfl, rfl⟩
  by_cases h10 : k = 10
  · subst h10
    have hs : lowS 10 = ⟨#[102, 116]⟩ := by decide
    rw [hs]
    clear hs
    go_enter Try.func26, Try.ntmps26
    go_wp2
    go_ret
    exact ⟨rfl, rfl⟩
  by_cases h11 : k = 11
  · subst h11
    have hs : lowS 11 = ⟨#[98, 114]⟩ := by decide
    rw [hs]
    clear hs
    go_enter Try.func26, Try.ntmps26
    go_wp2
    go_ret
    exact ⟨rfl, rfl⟩
  by_cases h12 : k = 12
  · subst h12
    have hs : lowS 12 = ⟨#[98, 102, 116, 114]⟩ := by decide
    rw [hs]
    clear hs
    go_enter Try.func26, Try.ntmps26
    go_wp2
    go_ret
    exact ⟨rfl, rfl⟩
  by_cases h13 : k = 13
  · subst h13
    have hs : lowS 13 = ⟨#[103, 109, 112]⟩ := by decide
    rw [hs]
    clear hs
    go_enter Try.func26, Try.ntmps26
    go_wp2
    go_ret
    exact ⟨rfl, rfl⟩
  by_cases h14 : k = 14
  · subst h14
    have hs : lowS 14 = ⟨#[103, 109, 112]⟩ := by decide
    rw [hs]
    clear hs
    go_enter Try.func26, Try.ntmps26
    go_wp2
    go_ret
    exact ⟨rfl, rfl⟩
  by_cases h15 : k = 15
  · subst h15
    have hs : lowS 15 = ⟨#[98, 102]⟩ := by decide
    rw [hs]
    clear hs
    go_enter Try.func26, Try.ntmps26
    go_wp2
    go_ret
    exact ⟨rfl, rfl⟩
  by_cases h16 : k = 16
  · subst h16
    have hs : lowS 16 = ⟨#[98, 102, 116]⟩ := by decide
    rw [hs]
    clear hs
    go_enter Try.func26, Try.ntmps26
    go_wp2
    go_ret
    exact ⟨rfl, rfl⟩
  by_cases h17 : k = 17
  · subst h17
    have hs : lowS 17 = ⟨#[98, 103]⟩ := by decide
    rw [hs]
    clear hs
    go_enter Try.func26, Try.ntmps26
    go_wp2
    go_ret
    exact ⟨rfl, rfl⟩
  have hs : lowS k = ByteArray.empty := by
    have : flds k = [] := flds_none (fun i a b e => by omega)
    unfold lowS; rw [this]; rfl
  rw [hs]
  clear hs
  have b1 : (k == 1) = false := by simpa using h1
  have b2 : (k == 2) = false := by simpa using h2
  have b3 : (k == 3) = false := by simpa using h3
  have b4 : (k == 4) = false := by simpa using h4
  have b5 : (k == 5) = false := by simpa using h5
  have b6 : (k == 6) = false := by simpa using h6
  have b7 : (k == 7) = false := by simpa using h7
  have b8 : (k == 8) = false := by simpa using h8
  have b9 : (k == 9) = false := by simpa using h9
  have b10 : (k == 10) = false := by simpa using h10
  have b11 : (k == 11) = false := by simpa using h11
  have b12 : (k == 12) = false := by simpa using h12
  have b13 : (k == 13) = false := by simpa using h13
  have b14 : (k == 14) = false := by simpa using h14
  have b15 : (k == 15) = false := by simpa using h15
  have b16 : (k == 16) = false := by simpa using h16
  have b17 : (k == 17) = false := by simpa using h17
  go_enter Try.func26, Try.ntmps26
  go_wp2
  go_ret
  exact ⟨rfl, rfl⟩
set_option maxHeartbeats 1000000 in
theorem fields_any (w : World) (k : Int) : Calls Try.prog 31 #[.int .i64 k] w fun e w' => e = .returned (.string (fldS k)) ∧ w = w' := by
  by_cases h1 : k = 1
  · subst h1
    have hs : fldS 1 = ⟨#[66]⟩ := by decide
    rw [hs]
    clear hs
    go_enter Try.func31, Try.ntmps31
    go_wp2
    go_ret
    exact ⟨rfl, rfl⟩
  by_cases h2 : k = 2
  · subst h2
    have hs : fldS 2 = ⟨#[66, 70, 84, 76]⟩ := by decide
    rw [hs]
    clear hs
    go_enter Try.func31, Try.ntmps31
    go_wp2
    go_ret
    exact ⟨rfl, rfl⟩
  by_cases h3 : k = 3
  · subst h3
    have hs : fldS 3 = ⟨#[66]⟩ := by decide
    rw [hs]
    clear hs
    go_enter Try.func31, Try.ntmps31
    go_wp2
    go_ret
    exact ⟨rfl, rfl⟩
  by_cases h4 : k = 4
  · subst h4
    have hs : fldS 4 = ⟨#[66, 71, 83, 77, 80]⟩ := by decide
    rw [hs]
    clear hs
    go_enter Try.func31, Try.ntmps31
    go_wp2
    go_ret
    exact ⟨rfl, rfl⟩
  by_cases h5 : k = 5
  · subst h5
    have hs : fldS 5 = ⟨#[66, 71, 84, 82, 77]⟩ := by decide
    rw [hs]
    clear hs
    go_enter Try.func31, Try.ntmps31
    go_wp2
    go_ret
    exact ⟨rfl, rfl⟩
  by_cases h6 : k = 6
  · subst h6
    have hs : fldS 6 = ⟨#[66, 71, 77]⟩ := by decide
    rw [hs]
    clear hs
    go_enter Try.func31, Try.ntmps31
    go_wp2
    go_ret
    exact ⟨rfl, rfl⟩
  by_cases h7 : k = 7
  · subst h7
    have hs : fldS 7 = ⟨#[66, 71, 77]⟩ := by decide
    rw [hs]
    clear hs
    go_enter Try.func31, Try.ntmps31
    go_wp2
    go_ret
    exact ⟨rfl, rfl⟩
  by_cases h8 : k = 8
  · subst h8
    have hs : fldS 8 = ⟨#[66, 71, 77]⟩ := by decide
    rw [hs]
    clear hs
    go_enter Try.func31, Try.ntmps31
    go_wp2
    go_ret
    exact ⟨rfl, rfl⟩
  by_cases h9 : k = 9
  · subst h9
    have hs : fldS 9 = ⟨#[71, 77]⟩ := by decide
    rw [hs]
    clear hs
    go_enter Try.func31, Try.ntmps31
    go_wp2
    go_ret
    exact ⟨rfl, rfl⟩
  by_cases h10 : k = 10
  · subst h10
    have hs : fldS 10 = ⟨#[70, 84]⟩ := by decide
    rw [hs]
    clear hs
    go_enter Try.func31, Try.ntmps31
    go_wp2
    go_ret
    exact ⟨rfl, rfl⟩
  by_cases h11 : k = 11
  · subst h11
    have hs : fldS 11 = ⟨#[66, 82]⟩ := by decide
    rw [hs]
    clear hs
    go_enter Try.func31, Try.ntmps31
    go_wp2
    go_ret
    exact ⟨rfl, rfl⟩
  by_cases h12 : k = 12
  · subst h12
    have hs : fldS 12 = ⟨#[66, 70, 84, 82]⟩ := by decide
    rw [hs]
    clear hs
    go_enter Try.func31, Try.ntmps31
    go_wp2
    go_ret
    exact ⟨rfl, rfl⟩
  by_cases h13 : k = 13
  · subst h13
    have hs : fldS 13 = ⟨#[71, 77, 80]⟩ := by decide
    rw [hs]
    clear hs
    go_enter Try.func31, Try.ntmps31
    go_wp2
    go_ret
    exact ⟨rfl, rfl⟩
  by_cases h14 : k = 14
  · subst h14
    have hs : fldS 14 = ⟨#[71, 77, 80]⟩ := by decide
    rw [hs]
    clear hs
    go_enter Try.func31, Try.ntmps31
    go_wp2
    go_ret
    exact ⟨rfl, rfl⟩
  by_cases h15 : k = 15
  · subst h15
    have hs : fldS 15 = ⟨#[66, 70]⟩ := by decide
    rw [hs]
    clear hs
    go_enter Try.func31, Try.ntmps31
    go_wp2
    go_ret
    exact ⟨rfl, rfl⟩
  by_cases h16 : k = 16
  · subst h16
    have hs : fldS 16 = ⟨#[66, 70, 84]⟩ := by decide
    rw [hs]
    clear hs
    go_enter Try.func31, Try.ntmps31
    go_wp2
    go_ret
    exact ⟨rfl, rfl⟩
  by_cases h17 : k = 17
  · subst h17
    have hs : fldS 17 = ⟨#[66, 71]⟩ := by decide
    rw [hs]
    clear hs
    go_enter Try.func31, Try.ntmps31
    go_wp2
    go_ret
    exact ⟨rfl, rfl⟩
  have hs : fldS k = ByteArray.empty := by
    have : flds k = [] := flds_none (fun i a b e => by omega)
    unfold fldS; rw [this]; rfl
  rw [hs]
  clear hs
  have b1 : (k == 1) = false := by simpa using h1
  have b2 : (k == 2) = false := by simpa using h2
  have b3 : (k == 3) = false := by simpa using h3
  have b4 : (k == 4) = false := by simpa using h4
  have b5 : (k == 5) = false := by simpa using h5
  have b6 : (k == 6) = false := by simpa using h6
  have b7 : (k == 7) = false := by simpa using h7
  have b8 : (k == 8) = false := by simpa using h8
  have b9 : (k == 9) = false := by simpa using h9
  have b10 : (k == 10) = false := by simpa using h10
  have b11 : (k == 11) = false := by simpa using h11
  have b12 : (k == 12) = false := by simpa using h12
  have b13 : (k == 13) = false := by simpa using h13
  have b14 : (k == 14) = false := by simpa using h14
  have b15 : (k == 15) = false := by simpa using h15
  have b16 : (k == 16) = false := by simpa using h16
  have b17 : (k == 17) = false := by simpa using h17
  go_enter Try.func31, Try.ntmps31
  go_wp2
  go_ret
  exact ⟨rfl, rfl⟩
end Go.Proofs.Ytlcpnpoleaanmaa
