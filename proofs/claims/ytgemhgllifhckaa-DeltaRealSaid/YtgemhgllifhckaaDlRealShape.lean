/- The shape and the number of the steps under any book. Conditions: as named in each theorem. -/
import Derived.Test.YtgemhgllifhckaaQF
namespace Go.Proofs.Ytgemhgllifhckaa
open Go.RowKit Sg
set_option linter.unusedVariables false
set_option linter.unusedSimpArgs false
theorem mkStep_sh {mf : ByteArray → Int → Int} {s : ByteArray} {b z : Nat} (hb : 0 < b) (hz : z ≤ 524288) (hmf : ∀ t wn, mf t wn < ((z / b : Nat) : Int)) {x : Ms} (h : ShL x.L) : ShL (mkStep mf s b x).L := by
  unfold mkStep
  split
  · exact h
  · rename_i hn
    obtain ⟨v, hv⟩ : ∃ v, v = mf (s.extract x.at_ (x.at_ + b)) x.wn := ⟨_, rfl⟩
    have hl := hmf (s.extract x.at_ (x.at_ + b)) x.wn
    rw [← hv] at hn hl ⊢
    obtain ⟨i, rfl⟩ : ∃ i : Nat, v = i := ⟨v.toNat, by omega⟩
    have h1 : i + 1 ≤ z / b := by omega
    have h2 : (i + 1) * b ≤ z := Nat.le_trans (Nat.mul_le_mul_right b h1) (Nat.div_mul_le_self z b)
    rw [Nat.add_mul, Nat.one_mul] at h2
    obtain ⟨m, hm⟩ : ∃ m, m = i * b := ⟨_, rfl⟩
    have hm2 : (i : Int) * (b : Int) = (m : Int) := by rw [hm]; simp
    rw [hm2]
    rw [← hm] at h2
    exact ShL.copy (h.append (ShL.texts _)) (by omega) (by omega) (by omega)
theorem mkRun_sh {mf : ByteArray → Int → Int} {s : ByteArray} {b z : Nat} (hb : 0 < b) (hz : z ≤ 524288) (hmf : ∀ t wn, mf t wn < ((z / b : Nat) : Int)) : ∀ (k : Nat) (x : Ms), s.size - x.at_ ≤ k → ShL x.L → ShL (mkRun mf s b x).L := by
  intro k
  induction k with
  | zero => intro x h1 h; rw [mkRun_end (by omega)]; exact h
  | succ k ih =>
    intro x h1 h
    by_cases h2 : x.at_ + b ≤ s.size
    · rw [mkRun_go hb h2]
      exact ih _ (by have := mkStep_at mf s b x hb; omega) (mkStep_sh hb hz hmf h)
    · rw [mkRun_end h2]; exact h
theorem steps_sh {mf : ByteArray → Int → Int} {tf : ByteArray → Bool} {s : ByteArray} {b z : Nat} (hb : 0 < b) (hz : z ≤ 524288) (hmf : ∀ t wn, mf t wn < ((z / b : Nat) : Int)) (htf : ∀ t, tf t = true → 0 < z % b) : ShL (stepsM mf tf s z b) := by
  have h0 : ShL ms0.L := fun x hx => by cases hx
  have h1 := mkRun_sh (s := s) hb hz hmf s.size ms0 (Nat.sub_le _ _) h0
  unfold stepsM endL
  split
  · rename_i h
    have := htf _ h.2
    have h3 := Nat.mod_le z b
    exact ShL.copy (h1.append (ShL.texts _)) (by omega) (by omega) (by omega)
  · exact h1.append (ShL.texts _)
theorem mkRun_lenR (mf : ByteArray → Int → Int) (s : ByteArray) (b : Nat) (hb : 0 < b) : ∀ (k : Nat) (x : Ms), s.size - x.at_ ≤ k → x.at_ ≤ s.size → x.L.length + x.t.length ≤ x.at_ → (mkRun mf s b x).at_ ≤ s.size ∧ (mkRun mf s b x).L.length + (mkRun mf s b x).t.length ≤ (mkRun mf s b x).at_ := by
  intro k
  induction k with
  | zero =>
    intro x h1 h2 h3
    rw [mkRun_end (by omega)]; exact ⟨h2, h3⟩
  | succ k ih =>
    intro x h1 h2 h3
    by_cases h : x.at_ + b ≤ s.size
    · rw [mkRun_go hb h]
      have hst := mkStep_at mf s b x hb
      refine ih _ (by omega) ?_ ?_
      · unfold mkStep; split <;> (simp only; omega)
      · unfold mkStep; split
        · simp only [List.length_append]
          have := List.length_take_le 1 (s.data.toList.drop x.at_)
          omega
        · simp only [List.length_nil]
          have h4 := copyL_len (x.L ++ texts (toS x.t)) (mf (s.extract x.at_ (x.at_ + b)) x.wn * b) b
          have h5 := texts_len (toS x.t)
          rw [toS_size] at h5
          rw [List.length_append] at h4
          omega
    · rw [mkRun_end h]; exact ⟨h2, h3⟩
theorem steps_lenR (mf : ByteArray → Int → Int) (tf : ByteArray → Bool) (s : ByteArray) (z b : Nat) (hb : 0 < b) : (stepsM mf tf s z b).length ≤ 2 * s.size + 1 := by
  obtain ⟨h1, h2⟩ := mkRun_lenR mf s b hb s.size ms0 (Nat.sub_le _ _) (Nat.zero_le _) (Nat.le_refl _)
  unfold stepsM endL
  obtain ⟨x, hx⟩ : ∃ x, x = mkRun mf s b ms0 := ⟨_, rfl⟩
  rw [← hx] at h1 h2 ⊢
  have hr : (s.extract x.at_ s.size).data.toList.length ≤ s.size := by
    rw [ext_drop, List.length_drop, Array.length_toList]; exact Nat.sub_le _ _
  split
  · have h4 := copyL_len (x.L ++ texts (toS (x.t ++ (s.extract x.at_ s.size).data.toList.take ((s.extract x.at_ s.size).size - z % b)))) ((z - z % b : Nat) : Int) ((z % b : Nat) : Int)
    have h5 := texts_len (toS (x.t ++ (s.extract x.at_ s.size).data.toList.take ((s.extract x.at_ s.size).size - z % b)))
    have h6 := List.length_take_le ((s.extract x.at_ s.size).size - z % b) (s.extract x.at_ s.size).data.toList
    have h7 := List.length_take_le' ((s.extract x.at_ s.size).size - z % b) (s.extract x.at_ s.size).data.toList
    rw [toS_size, List.length_append] at h5
    rw [List.length_append] at h4
    omega
  · have h5 := texts_len (toS (x.t ++ (s.extract x.at_ s.size).data.toList))
    rw [toS_size, List.length_append] at h5
    rw [List.length_append]
    omega
end Go.Proofs.Ytgemhgllifhckaa
