/- A signature and its bytes are each other's: the plain law. Conditions: as named in each theorem. -/
import Derived.Test.YtfcfgkhdlpgbdaaSignOf
import Derived.Test.YtfcfgkhdlpgbdaaSignBytesA
namespace Go.Proofs.Ytfcfgkhdlpgbdaa
open Go.RowKit
set_option linter.unusedVariables false

theorem rdMany_nums : ∀ (W : List Int) (r : List UInt8), (∀ x ∈ W, 0 ≤ x ∧ x ≤ 4294967295) → rdMany cntI W.length (numsL W ++ r, 0) = (W, (r, 0)) := by
  intro W
  induction W with
  | nil => intro r _; simp [rdMany, numsL]
  | cons x W ih =>
    intro r h
    have hx := h x (by simp)
    have e1 : numsL (x :: W) ++ r = numL x.toNat ++ (numsL W ++ r) := by unfold numsL; rw [List.flatMap_cons, List.append_assoc]
    have e2 : cntI (numL x.toNat ++ (numsL W ++ r), 0) = (x, (numsL W ++ r, 0)) := by
      unfold cntI
      rw [stCount_back 4294967295 x.toNat _ (by omega) (by omega)]
      simp only
      congr 1
      omega
    rw [List.length_cons, e1, rdMany, e2, if_pos rfl, ih r (fun y hy => h y (by simp [hy]))]
theorem rdMany_texts : ∀ (T : List ByteArray) (r : List UInt8), (∀ t ∈ T, t.size = 32) → rdMany rawB T.length (textsL T ++ r, 0) = (T, (r, 0)) := by
  intro T
  induction T with
  | nil => intro r _; simp [rdMany, textsL]
  | cons x T ih =>
    intro r h
    have hx := h x (by simp)
    have e1 : textsL (x :: T) ++ r = x.data.toList ++ (textsL T ++ r) := by unfold textsL; rw [List.flatMap_cons, List.append_assoc]
    have e2 : rawB (x.data.toList ++ (textsL T ++ r), 0) = (x, (textsL T ++ r, 0)) := by
      unfold rawB
      rw [stRaw_back 32 _ _ (by rw [Array.length_toList]; exact hx)]
      rfl
    rw [List.length_cons, e1, rdMany, e2, if_pos rfl, ih r (fun y hy => h y (by simp [hy]))]
theorem rdMany_nums_there : ∀ (n : Nat) (z : RSt), (rdMany cntI n z).2.2 = 0 → z.2 = 0 ∧ z.1 = numsL (rdMany cntI n z).1 ++ (rdMany cntI n z).2.1 ∧ (∀ x ∈ (rdMany cntI n z).1, 0 ≤ x ∧ x ≤ 4294967295) ∧ (rdMany cntI n z).1.length = n := by
  intro n
  induction n with
  | zero => intro z h; rw [rdMany] at h ⊢; exact ⟨h, by simp [numsL], by simp, rfl⟩
  | succ n ih =>
    intro z h
    rw [rdMany] at h ⊢
    split at h
    · rename_i h1
      rw [if_pos h1]
      obtain ⟨_, b, c, d⟩ := ih _ h
      have h2 := stCount_there (most := 4294967295) (z := z) h1
      have h3 := stCount_le 4294967295 z h1
      simp only at b c d ⊢
      refine ⟨h2.1, ?_, ?_, by rw [List.length_cons, d]⟩
      · rw [h2.2]
        unfold numsL at b ⊢
        rw [List.flatMap_cons, List.append_assoc, ← b]
        rfl
      · intro x hx
        rcases List.mem_cons.1 hx with rfl | hx
        · unfold cntI; simp only; omega
        · exact c x hx
    · rename_i h1; exact absurd h h1
theorem rdMany_texts_there : ∀ (n : Nat) (z : RSt), (rdMany rawB n z).2.2 = 0 → z.2 = 0 ∧ z.1 = textsL (rdMany rawB n z).1 ++ (rdMany rawB n z).2.1 ∧ (∀ x ∈ (rdMany rawB n z).1, x.size = 32) ∧ (rdMany rawB n z).1.length = n := by
  intro n
  induction n with
  | zero => intro z h; rw [rdMany] at h ⊢; exact ⟨h, by simp [textsL], by simp, rfl⟩
  | succ n ih =>
    intro z h
    rw [rdMany] at h ⊢
    split at h
    · rename_i h1
      rw [if_pos h1]
      obtain ⟨_, b, c, d⟩ := ih _ h
      have h2 := stRaw_there (n := 32) (z := z) h1
      simp only at b c d ⊢
      refine ⟨h2.1, ?_, ?_, by rw [List.length_cons, d]⟩
      · rw [h2.2.1]
        unfold textsL at b ⊢
        rw [List.flatMap_cons, List.append_assoc, ← b]
        rfl
      · intro x hx
        rcases List.mem_cons.1 hx with rfl | hx
        · show (stRaw 32 z).1.toArray.size = 32
          rw [List.size_toArray]; exact h2.2.2
        · exact c x hx
    · rename_i h1; exact absurd h h1
theorem sgOf_back {b z : Nat} {W : List Int} {T : List ByteArray} (h : sigOk b z W T) : sgOfP (sigL b z W T) = (b, z, W, T, 0) := by
  have h1 := h.1; have h2 := h.2.1; have h3 := h.2.2.1; have h4 := h.2.2.2.1
  have hl := h.2.2.2.2.1
  have hl2 := h.2.2.2.2.2.1
  simp only [Int.toNat_natCast] at hl
  have hW : ∀ x ∈ W, 0 ≤ x ∧ x ≤ 4294967295 := by
    intro x hx
    obtain ⟨i, hi, rfl⟩ := List.getElem_of_mem hx
    have hT : i < T.length := by omega
    have := h.2.2.2.2.2.2 i hi _ _ (List.getElem?_eq_getElem hi) (List.getElem?_eq_getElem hT)
    exact ⟨this.1, this.2.1⟩
  have hT := sigOk_32 h
  have e0 : sigL b z W T = numL b ++ (numL z ++ (numsL W ++ (textsL T ++ []))) := by
    unfold sigL sigNums numsL
    simp [List.append_assoc]
  have e1 : stNum (sigL b z W T, 0) = (b, (numL z ++ (numsL W ++ (textsL T ++ [])), 0)) := by rw [e0]; exact stNum_back b _ (by omega)
  have e2 : stNum (numL z ++ (numsL W ++ (textsL T ++ [])), 0) = (z, (numsL W ++ (textsL T ++ []), 0)) := stNum_back z _ (by omega)
  unfold sgOfP
  rw [e1]
  simp only
  rw [e2]
  simp only
  rw [if_pos trivial, if_pos ⟨by omega, by omega, by omega⟩, ← hl, rdMany_nums W _ hW]
  unfold sgOfW
  simp only
  rw [if_pos trivial, ← hl2, rdMany_texts T _ hT]
  unfold sgOfT stEnd
  simp
theorem sgOf_there {l : List UInt8} {b z : Nat} {W : List Int} {T : List ByteArray} (h : sgOfP l = (b, z, W, T, 0)) : sigOk b z W T ∧ sigL b z W T = l := by
  unfold sgOfP at h
  split at h
  · rename_i h0
    split at h
    · rename_i h1
      unfold sgOfW at h
      split at h
      · rename_i h2
        unfold sgOfT at h
        split at h
        · rename_i h3
          split at h
          · rename_i h4
            simp only [Prod.mk.injEq, and_true] at h
            obtain ⟨rfl, rfl, rfl, rfl⟩ := h
            obtain ⟨_, w1, w2, w3⟩ := rdMany_nums_there _ _ h2
            obtain ⟨_, t1, t2, t3⟩ := rdMany_texts_there _ _ h3
            have a1 := stNum_there (z := (stNum (l, 0)).2) h0
            have a2 := stNum_there (z := (l, 0)) a1.1
            have hend : (rdMany rawB (cnt (stNum (stNum (l, 0)).2).1 (stNum (l, 0)).1) (rdMany cntI (cnt (stNum (stNum (l, 0)).2).1 (stNum (l, 0)).1) (stNum (stNum (l, 0)).2).2).2).2.1 = [] := by
              unfold stEnd at h4
              split at h4
              · simp at h4
              · rename_i h5
                rcases Classical.em ((rdMany rawB (cnt (stNum (stNum (l, 0)).2).1 (stNum (l, 0)).1) (rdMany cntI (cnt (stNum (stNum (l, 0)).2).1 (stNum (l, 0)).1) (stNum (stNum (l, 0)).2).2).2).2.1 = []) with e | e
                · exact e
                · exact absurd ⟨h3, e⟩ h5
            refine ⟨⟨by omega, by omega, by omega, by omega, by rw [Int.toNat_natCast, Int.toNat_natCast]; exact w3, by rw [w3, t3], ?_⟩, ?_⟩
            · intro j hj x t hx ht
              have := w2 x (List.mem_of_getElem? hx)
              exact ⟨this.1, this.2, t2 t (List.mem_of_getElem? ht)⟩
            · have e : l = numL (stNum (l, 0)).1 ++ (numL (stNum (stNum (l, 0)).2).1 ++ (stNum (stNum (l, 0)).2).2.1) := by
                have h6 := a2.2
                simp only at h6
                rw [← a1.2]
                exact h6
              rw [w1, t1, hend] at e
              unfold sigL sigNums numsL
              rw [List.flatMap_cons, List.flatMap_cons]
              conv => rhs; rw [e]
              simp [List.append_assoc, numsL]
          · simp [sgBad] at h
            omega
        · simp [sgBad] at h
          omega
      · simp [sgBad] at h
        omega
    · simp [sgBad] at h
  · simp [sgBad] at h
    omega
end Go.Proofs.Ytfcfgkhdlpgbdaa
