/- Arguments opened by their kinds: the readings. No conditions. -/
import Derived.Test.YtabdmcgfiabaoaaQC
namespace Go.Proofs.Ytabdmcgfiabaoaa
open Go.RowKit Go.ChangeShapes Go.WideShapes Go.Deep
set_option linter.unusedVariables false
section
variable {H : Type} {enc : TypeId × Value → H} {P : Program} {w : World}
mutual
theorem Kd.of_trod : ∀ (k : Kd) (t : TypeId) (fuel : Nat) (cs : List Value) (x : DataW H × List MemPlace), k.fits P t = true → DataW.trod enc P w 0 (fun _ => true) true fuel t cs = some x → k.ok w cs
  | .int q, t, fuel, cs, x, hk, h => by
    simp only [Kd.fits] at hk
    split at hk
    · rename_i q' hu
      have := of_decide_eq_true hk
      subst this
      obtain ⟨n, h1, _, h2⟩ := DataW.trod_int hu h
      exact ⟨n, h1, h2⟩
    · cases hk
  | .str, t, fuel, cs, x, hk, h => by
    simp only [Kd.fits] at hk
    split at hk
    · rename_i hu
      obtain ⟨s, h1, _, h2⟩ := DataW.trod_string hu h
      exact ⟨s, h1, h2⟩
    · cases hk
  | .bl, t, fuel, cs, x, hk, h => by
    simp only [Kd.fits] at hk
    split at hk
    · rename_i hu
      obtain ⟨b, h1, _⟩ := DataW.trod_bool hu h
      exact ⟨b, h1⟩
    · cases hk
  | .agg l, t, fuel, cs, x, hk, h => by
    simp only [Kd.fits] at hk
    split at hk
    · rename_i fs hu
      simp only [Bool.and_eq_true, decide_eq_true_eq] at hk
      obtain ⟨xs, n, _, _, hl, hlen, hf⟩ := DataW.trod_struct hu h
      have hfs : ∀ (i : Nat) (f : Field), fs.toList[i]? = some f → DataW.trod enc P w 0 (fun _ => true) true n f.type ((cs.drop f.offset).take (P.cellsOf f.type)) = xs[i]? := fun i f hi => hf i f (by simpa using hi)
      exact Kd.of_trodL l 0 fs.toList n cs xs hk.1 (by rw [hl, hk.2]; omega) (by simpa using hlen) hfs
    · cases hk
  | .sl k, t, fuel, cs, x, hk, h => by
    simp only [Kd.fits] at hk
    split at hk
    · rename_i e hu
      simp only [Bool.and_eq_true, decide_eq_true_eq] at hk
      obtain ⟨⟨hke, hce⟩, hpos⟩ := hk
      rcases open_slice hu h with ⟨rfl, _⟩ | ⟨a, len, cap, m, n, D, Pl, rfl, _, hlc, hcm, hm, _, hx⟩
      · exact ⟨none, 0, 0, rfl, Nat.le_refl _, by decide, fun h0 => absurd h0 (by omega)⟩
      · refine ⟨some a, len, cap, rfl, hlc, hcm, fun h0 => ?_⟩
        simp only [if_true] at hm
        rw [hce] at hx
        have cellsAt : ∀ i, i < len → ∃ es, es.length = k.cells ∧ (∀ j v, es[j]? = some v → w.cell? (a.add (i * k.cells + j)) = some v) ∧ k.ok w es := by
          intro i hi
          obtain ⟨es, h1, h2⟩ := hx i (by omega)
          obtain ⟨_, h3, h4⟩ := World.cells?_some h1
          refine ⟨es, h3, fun j v hj => ?_, Kd.of_trod k e n es _ hke h2⟩
          have hj2 : j < k.cells := by rw [← h3]; exact (List.getElem?_eq_some_iff.1 hj).1
          have := h4 j hj2
          rw [add_add] at this
          rw [this, ← hj]
        obtain ⟨b, off, spot⟩ := a
        have hsp : spot = none := by
          obtain ⟨es, h3, h4, _⟩ := cellsAt 0 h0
          have h5 := h4 0 (es[0]'(by omega)) (List.getElem?_eq_getElem _)
          have h6 := World.cell?_spot h5
          simpa [Addr.add] using h6
        subst hsp
        refine ⟨b, off, rfl, ?_, fun i hi => ?_⟩
        · obtain ⟨es, h3, h4, _⟩ := cellsAt 0 h0
          have h5 := h4 0 (es[0]'(by omega)) (List.getElem?_eq_getElem _)
          have := World.block_lt_of_cell? w _ h5
          simpa [Addr.add] using this
        · obtain ⟨es, h3, h4, h5⟩ := cellsAt i hi
          refine ⟨es, h3, fun j v hj => ?_, h5⟩
          have := h4 j v hj
          have hadd : (⟨b, off, none⟩ : Addr).add (i * k.cells + j) = ⟨b, off + (i * k.cells + j), none⟩ := by unfold Addr.add; split <;> simp_all
          rw [hadd] at this
          exact this
    · cases hk
theorem Kd.of_trodL : ∀ (l : List Kd) (o : Nat) (fs : List Field) (n : Nat) (cs : List Value) (xs : List (DataW H × List MemPlace)), Kd.fitsL P l o fs = true → cs.length = o + Kd.cellsL l → xs.length = fs.length →
    (∀ (i : Nat) (f : Field), fs[i]? = some f → DataW.trod enc P w 0 (fun _ => true) true n f.type ((cs.drop f.offset).take (P.cellsOf f.type)) = xs[i]?) → Kd.okL w l (cs.drop o)
  | [], o, fs, n, cs, xs, hk, hl, hlen, hf => by
    simp only [Kd.cellsL] at hl
    simp only [Kd.okL]
    exact List.drop_of_length_le (by omega)
  | k :: l, o, fs, n, cs, xs, hk, hl, hlen, hf => by
    cases fs with
    | nil => simp [Kd.fitsL] at hk
    | cons f fs =>
      simp only [Kd.fitsL, Bool.and_eq_true, decide_eq_true_eq] at hk
      obtain ⟨⟨⟨ho, hc⟩, hkf⟩, hrest⟩ := hk
      simp only [Kd.cellsL] at hl
      cases xs with
      | nil => simp at hlen
      | cons y xs =>
        have h0 := hf 0 f rfl
        rw [ho, hc] at h0
        refine ⟨(cs.drop o).take k.cells, cs.drop (o + k.cells), ?_, ?_, Kd.of_trod k f.type n _ y hkf (by simpa using h0), ?_⟩
        · rw [← List.drop_drop, List.take_append_drop]
        · simp; omega
        · exact Kd.of_trodL l (o + k.cells) fs n cs xs hrest (by omega) (by simpa using hlen) (fun i g hg => by simpa using hf (i + 1) g (by simpa using hg))
end
theorem Kd.of_Trod {k : Kd} {t : TypeId} {v : Value} {d : DataW H} {pl : List MemPlace} (hk : k.fits P t = true) (h : DataW.Trod enc P w 0 (fun _ => true) true t v d pl) : k.ok w v.cells.toList := by
  obtain ⟨fuel, hf⟩ := h
  exact Kd.of_trod k t fuel _ _ hk hf
end
end Go.Proofs.Ytabdmcgfiabaoaa
