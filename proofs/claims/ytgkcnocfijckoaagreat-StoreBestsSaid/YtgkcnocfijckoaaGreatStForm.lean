/- The forms of records at an empty store: the plain law. No conditions. -/
import Derived.Test.YtgkcnocfijckoaaGreatSF
namespace Go.Proofs.YtgkcnocfijckoaaGreat
open Go.RowKit Sg
set_option linter.unusedVariables false
set_option linter.unusedSimpArgs false
theorem stRaw_ok {y : RSt} (h : y.2 = 0) : stRaw y.1.length y = (y.1, ([], 0)) := by
  obtain ⟨l, e⟩ := y
  simp only at h
  subst h
  exact stRaw_all l
theorem doW_nil (im : Int → ByteArray) (z : RSt) (hz : z.1.length ≤ 2000) : (doW [] [] im z).1 = (if (stRaw 32 (stNum z).2).2.2 = 0 then 6 else ((stRaw 32 (stNum z).2).2.2 : Int)) := by
  obtain ⟨n, z1, h1⟩ : ∃ n z1, stNum z = (n, z1) := ⟨_, _, rfl⟩
  obtain ⟨b2, z2, h2⟩ : ∃ b z2, stRaw 32 z1 = (b, z2) := ⟨_, _, rfl⟩
  have hl : z2.1.length ≤ 2000 := by
    have a1 := (stNum_left z).len
    have a2 := (stRaw_left 32 z1).len
    rw [h1] at a1; rw [h2] at a2
    simp only at a1 a2; omega
  rw [h1]; dsimp only
  rw [h2]; dsimp only
  by_cases he : z2.2 = 0
  · rw [doW_at h1 h2 (stRaw_ok he), if_neg (by simp), if_neg (by show ¬ 524288 < z2.1.length; omega), if_pos (fun h => by have := h.1; simp at this), if_pos he]
  · rw [doW_at h1 h2 (stRaw_err he), if_pos he, if_neg he]
theorem doD_nil (im : Int → ByteArray) (z : RSt) : ((stRaw 32 (stNum (stNum z).2).2).2.2 ≠ 0 → (doD [] [] im z).1 = ((stRaw 32 (stNum (stNum z).2).2).2.2 : Int)) ∧ ((stRaw 32 (stNum (stNum z).2).2).2.2 = 0 → (stNum z).1 ≤ (stNum (stNum z).2).1 → (doD [] [] im z).1 = 2) ∧
    ((stRaw 32 (stNum (stNum z).2).2).2.2 = 0 → ¬ (stNum z).1 ≤ (stNum (stNum z).2).1 → (doD [] [] im z).1 ≠ 0) := by
  obtain ⟨n, z0, h0⟩ : ∃ n z1, stNum z = (n, z1) := ⟨_, _, rfl⟩
  obtain ⟨b, z1, h1⟩ : ∃ n z1, stNum z0 = (n, z1) := ⟨_, _, rfl⟩
  obtain ⟨b2, z2, h2⟩ : ∃ b z2, stRaw 32 z1 = (b, z2) := ⟨_, _, rfl⟩
  rw [h0]; dsimp only
  rw [h1]; dsimp only
  rw [h2]; dsimp only
  obtain ⟨d0, e0, hde0⟩ : ∃ d e, readD [] = (d, e) := ⟨_, _, rfl⟩
  obtain ⟨d, e, hde⟩ : ∃ d e, readD z2.1 = (d, e) := ⟨_, _, rfl⟩
  obtain ⟨A0, hA0⟩ : ∃ A, applyI [] (im b) d0 = A := ⟨_, rfl⟩
  obtain ⟨B0, hB0⟩ : ∃ A, applyB [] (im b) d0 = A := ⟨_, rfl⟩
  obtain ⟨A, hA⟩ : ∃ A, applyI [] (im b) d = A := ⟨_, rfl⟩
  obtain ⟨B, hB⟩ : ∃ A, applyB [] (im b) d = A := ⟨_, rfl⟩
  have hh : hasN [] (b : Int) = false := rfl
  refine ⟨fun he => ?_, fun he hn => ?_, fun he hn => ?_⟩
  · rw [doD_at h0 h1 h2 (stRaw_err he) hde0 hA0 hB0, if_pos he]
  · rw [doD_at h0 h1 h2 (stRaw_ok he) hde hA hB, if_neg (by simp), if_pos hn]
  · rw [doD_at h0 h1 h2 (stRaw_ok he) hde hA hB, if_neg (by simp), if_neg hn]
    by_cases h3 : e = 0
    · rw [if_neg (by simpa using h3), if_pos hh]; show (8 : Int) ≠ 0; decide
    · rw [if_pos h3]; simpa using h3
theorem doG_nil (im : Int → ByteArray) (z : RSt) : (doG [] [] im z).1 = ((stEnd (stNum (stNum z).2).2).2 : Int) := by
  obtain ⟨n, z0, h0⟩ : ∃ n z1, stNum z = (n, z1) := ⟨_, _, rfl⟩
  obtain ⟨b, z1, h1⟩ : ∃ n z1, stNum z0 = (n, z1) := ⟨_, _, rfl⟩
  rw [h0]; dsimp only
  rw [h1]; dsimp only
  rw [doG_at h0 h1 rfl]
  by_cases he : (stEnd z1).2 = 0
  · rw [if_neg (by simpa using he), if_neg (by rintro ⟨g, hg, _⟩; cases hg), he]; rfl
  · rw [if_pos he]
end Go.Proofs.YtgkcnocfijckoaaGreat
