/- What stays may be, and no road is longer: the plain law. No conditions. -/
import Derived.Test.YtoibbeiieelccaaKeepAfter3
namespace Go.Proofs.Ytoibbeiieelccaa
open Go.RowKit
set_option linter.unusedVariables false

/-- the same as Ok, said of the elements -/
structure OkE (gs : List G) : Prop where
  rng : ∀ x ∈ gs, ¬ Rng x
  up : (gl gs).Pairwise (· < ·)
  basis : ∀ x ∈ gs, x.basis = x.gen ∨ (x.basis ∈ gl gs ∧ x.basis < x.gen)
theorem up_pair {l : List Int} : Up l ↔ l.Pairwise (· < ·) := by
  rw [List.pairwise_iff_getElem]
  exact ⟨fun h i j hi hj hij => h i j hi hj hij, fun h i j hi hj hij => h i j hi hj hij⟩
theorem Ok.toE {gs : List G} (h : Ok gs) : OkE gs := by
  have hu := ok_up h
  refine ⟨?_, up_pair.1 hu, ?_⟩
  · intro x hx
    obtain ⟨k, hk, rfl⟩ := List.getElem_of_mem hx
    have := (chk_facts (h k hk)).1
    rw [getD_g hk] at this
    exact this
  · intro x hx
    obtain ⟨k, hk, rfl⟩ := List.getElem_of_mem hx
    have := (chk_facts (h k hk)).2.2
    rw [getD_g hk] at this
    by_cases he : gs[k].basis = gs[k].gen
    · exact .inl he
    · right
      have hin : gs[k].basis ∈ (gs.take k).map G.gen := Classical.byContradiction fun hn => this ⟨he, hn⟩
      have hin2 : gs[k].basis ∈ gl (gs.take k) := hin
      obtain ⟨h1, h2, _⟩ := mem_take hin2
      refine ⟨h1, ?_⟩
      have hl1 : idx gs gs[k].basis < (gl gs).length := by rw [gl_len]; exact idx_lt h1
      have hl2 : k < (gl gs).length := by rw [gl_len]; exact hk
      have h3 := hu _ k hl1 hl2 h2
      rw [gl_get hk hl2, gl_get (idx_lt h1) hl1, idx_gen h1] at h3
      exact h3
theorem OkE.toOk {gs : List G} (h : OkE gs) : Ok gs := by
  have hu := up_pair.2 h.up
  intro k hk
  have hx := List.getElem_mem hk
  refine chkAt_zero (getD_g hk) (h.rng _ hx) ?_ ?_
  · rintro ⟨h0, h1⟩
    rw [getD_g (show k - 1 < gs.length by omega)] at h1
    have hl1 : k - 1 < (gl gs).length := by rw [gl_len]; omega
    have hl2 : k < (gl gs).length := by rw [gl_len]; exact hk
    have h3 := hu (k - 1) k hl1 hl2 (by omega)
    rw [gl_get hk hl2, gl_get (by omega) hl1] at h3
    omega
  · rcases h.basis _ hx with h1 | ⟨h1, h2⟩
    · exact .inl h1
    · right
      show gs[k].basis ∈ gl (gs.take k)
      refine take_mem h1 (Nat.lt_of_not_le fun hle => ?_)
      have hl1 : idx gs gs[k].basis < (gl gs).length := by rw [gl_len]; exact idx_lt h1
      have hl2 : k < (gl gs).length := by rw [gl_len]; exact hk
      rcases Nat.lt_or_eq_of_le hle with h4 | h4
      · have h3 := hu k _ hl2 hl1 h4
        rw [gl_get hk hl2, gl_get (idx_lt h1) hl1, idx_gen h1] at h3
        omega
      · have h5 := idx_gen h1
        have h6 : (gs[idx gs gs[k].basis]'(idx_lt h1)) = gs[k] := by congr 1; exact h4.symm
        rw [h6] at h5
        omega
theorem basis_of {gs : List G} (h : OkE gs) {x : G} (hx : x ∈ gs) : basisOf gs x.gen = x.basis := by
  obtain ⟨k, hk, rfl⟩ := List.getElem_of_mem hx
  have hu := up_pair.2 h.up
  have hl2 : k < (gl gs).length := by rw [gl_len]; exact hk
  have h1 : idx gs gs[k].gen = k := by
    have := idx_first hl2 rfl (hu.notin hl2)
    rw [gl_get hk hl2] at this
    exact this
  unfold basisOf
  rw [h1, getD_g hk]

theorem after_gen (N whole : List Int) (x : G) : (afterX N whole x).gen = x.gen := by unfold afterX; split <;> rfl
theorem gl_after (gs : List G) (ws N whole : List Int) : gl (afterG gs ws N whole) = gl (gs.filter fun x => decide (x.gen ∈ ws)) := by
  unfold afterG gl
  rw [List.map_map]
  congr 1
  funext x
  exact after_gen N whole x
theorem mem_gl {gs : List G} {g : Int} : g ∈ gl gs ↔ ∃ x ∈ gs, x.gen = g := by simp [gl]
theorem mem_after_gl {gs : List G} {ws N whole : List Int} {g : Int} : g ∈ gl (afterG gs ws N whole) ↔ g ∈ gl gs ∧ g ∈ ws := by
  rw [gl_after, mem_gl, mem_gl]
  constructor
  · rintro ⟨x, hx, rfl⟩
    have := List.mem_filter.1 hx
    exact ⟨⟨x, this.1, rfl⟩, by simpa using this.2⟩
  · rintro ⟨⟨x, hx, rfl⟩, hw⟩
    exact ⟨x, List.mem_filter.2 ⟨hx, by simpa using hw⟩, rfl⟩
theorem mem_need {gs : List G} {ws : List Int} (h : OkE gs) {x : G} (hx : x ∈ gs) : x.gen ∈ needG gs ws ↔ (x.gen ∈ ws ∧ x.basis ∉ ws) := by
  unfold needG
  rw [List.mem_map]
  constructor
  · rintro ⟨y, hy, he⟩
    have hy2 := List.mem_filter.1 hy
    have hb : y.basis = x.basis := by rw [← basis_of h hy2.1, ← basis_of h hx, he]
    have := hy2.2
    simp at this
    rw [he, hb] at this
    exact this
  · rintro ⟨h1, h2⟩
    exact ⟨x, List.mem_filter.2 ⟨hx, by simp [h1, h2]⟩, rfl⟩

theorem after_ok {gs : List G} (h : OkE gs) (ws whole : List Int) (hw : ∀ b ∈ whole, 0 ≤ b ∧ b ≤ 524288) : OkE (afterG gs ws (needG gs ws) whole) := by
  refine ⟨?_, ?_, ?_⟩
  · intro y hy
    unfold afterG at hy
    obtain ⟨x, hx, rfl⟩ := List.mem_map.1 hy
    have hx1 := (List.mem_filter.1 hx).1
    have h0 := h.rng x hx1
    unfold afterX
    split
    · unfold Rng at h0 ⊢
      have hb : 0 ≤ whole.getD ((needG gs ws).idxOf x.gen) 0 ∧ whole.getD ((needG gs ws).idxOf x.gen) 0 ≤ 524288 := by
        rw [List.getD_eq_getElem?_getD]
        by_cases hl : (needG gs ws).idxOf x.gen < whole.length
        · rw [List.getElem?_eq_getElem hl]; exact hw _ (List.getElem_mem hl)
        · rw [List.getElem?_eq_none (by omega)]; decide
      simp only
      omega
    · exact h0
  · rw [gl_after]
    exact h.up.sublist (List.Sublist.map _ List.filter_sublist)
  · intro y hy
    unfold afterG at hy
    obtain ⟨x, hx, rfl⟩ := List.mem_map.1 hy
    have hx1 := List.mem_filter.1 hx
    have hxw : x.gen ∈ ws := by simpa using hx1.2
    unfold afterX
    split
    · exact .inl rfl
    · rename_i hn
      have hbw : x.basis ∈ ws := Classical.byContradiction fun hb => hn ((mem_need h hx1.1).2 ⟨hxw, hb⟩)
      rcases h.basis x hx1.1 with h1 | ⟨h1, h2⟩
      · exact .inl h1
      · exact .inr ⟨mem_after_gl.2 ⟨h1, hbw⟩, h2⟩
theorem road_shorter {gs : List G} (h : OkE gs) (ws whole : List Int) (hw : ∀ b ∈ whole, 0 ≤ b ∧ b ≤ 524288) : ∀ (n : Nat) (g : Int), idx gs g = n → g ∈ gl gs → g ∈ ws →
    (roadL (afterG gs ws (needG gs ws) whole) g).length ≤ (roadL gs g).length := by
  have hA := after_ok h ws whole hw
  intro n
  induction n using Nat.strongRecOn with
  | ind n ih =>
    intro g hn hg hgw
    have hgA := (mem_after_gl (N := needG gs ws) (whole := whole)).2 ⟨hg, hgw⟩
    obtain ⟨x, hx, rfl⟩ := mem_gl.1 hg
    have hxA : afterX (needG gs ws) whole x ∈ afterG gs ws (needG gs ws) whole := List.mem_map.2 ⟨x, List.mem_filter.2 ⟨hx, by simpa using hgw⟩, rfl⟩
    have hbA := basis_of hA hxA
    rw [after_gen] at hbA
    have hb := basis_of h hx
    rw [roadL_eq hA.toOk hgA, roadL_eq h.toOk hg, hbA, hb]
    by_cases hN : x.gen ∈ needG gs ws
    · have : (afterX (needG gs ws) whole x).basis = x.gen := by unfold afterX; rw [if_pos hN]
      rw [this, if_pos rfl]
      split <;> simp
    · have hax : (afterX (needG gs ws) whole x).basis = x.basis := by unfold afterX; rw [if_neg hN]
      rw [hax]
      by_cases he : x.basis = x.gen
      · rw [if_pos he, if_pos he]; exact Nat.le_refl _
      · rw [if_neg he, if_neg he]
        have hbi := basis_in h.toOk hg (by rw [hb]; exact he)
        rw [hb] at hbi
        have hbw : x.basis ∈ ws := Classical.byContradiction fun hnb => hN ((mem_need h hx).2 ⟨hgw, hnb⟩)
        have := ih (idx gs x.basis) (by omega) x.basis rfl hbi.1 hbw
        simp only [List.length_append]
        omega
end Go.Proofs.Ytoibbeiieelccaa
