/- A row that the walk owns, read element by element. No conditions. -/
import Derived.Test.YtgemhgllifhckaaHeap
import Derived.Test.YtgemhgllifhckaaArgs
namespace Go.Proofs.Ytgemhgllifhckaa
open Go.RowKit
set_option linter.unusedVariables false

theorem flatLen {α : Type} (f : α → List Value) (size : Nat) (hf : ∀ x, (f x).length = size) (rs : List α) : (rs.flatMap f).length = rs.length * size := by
  induction rs with
  | nil => simp
  | cons x l ih => rw [List.flatMap_cons, List.length_append, ih, hf, List.length_cons, Nat.add_mul]; omega
theorem flatAt {α : Type} (f : α → List Value) (size : Nat) (hf : ∀ x, (f x).length = size) : ∀ (rs : List α) (i : Nat) (hi : i < rs.length) (j : Nat) (hj : j < size), (rs.flatMap f)[i * size + j]? = (f rs[i])[j]? := by
  intro rs
  induction rs with
  | nil => intro i hi; simp at hi
  | cons x l ih =>
    intro i hi j hj
    rw [List.flatMap_cons]
    cases i with
    | zero => rw [Nat.zero_mul, Nat.zero_add, List.getElem?_append_left (by rw [hf]; exact hj)]; rfl
    | succ i =>
      rw [List.getElem?_append_right (by rw [hf, Nat.add_mul]; omega), hf, show (i + 1) * size + j - size = i * size + j by rw [Nat.add_mul]; omega]
      exact ih i (by simpa using hi) j hj
theorem Rs.of_owns {α : Type} {f : α → List Value} {size : Nat} (hf : ∀ x, (f x).length = size) {w : World} {base n cap : Nat} {e : TypeId} {ao : Option Addr} {rs : List α} (hn : rs.length = n)
    (h : w.ownsRow base e size (.slice ao n cap) n (rs.flatMap f)) : Rs w ao n cap size rs f := by
  have h2 := h.2
  rcases h2 with ⟨h1, h0⟩ | ⟨g, cap', cur, h1, hb, hg, hnc, hcm, hcs, htk⟩
  · simp only [Value.slice.injEq] at h1
    obtain ⟨rfl, rfl, rfl⟩ := h1
    exact ⟨Nat.le_refl _, by decide, hn, fun h => absurd h (by omega)⟩
  · simp only [Value.slice.injEq, true_and] at h1
    obtain ⟨rfl, rfl⟩ := h1
    refine ⟨hnc, hcm, hn, fun _ => ⟨g, 0, rfl, (Array.getElem?_eq_some_iff.1 hg).1, fun i hi j v hj => ?_⟩⟩
    have hjs : j < size := by rw [← hf rs[i]]; exact (List.getElem?_eq_some_iff.1 hj).1
    have hb : i * size + j < n * size := by
      have : (i + 1) * size ≤ n * size := Nat.mul_le_mul_right _ (by omega)
      rw [Nat.add_mul] at this; omega
    have := h.cellAt (i * size + j) hb
    rw [flatAt f size hf rs i hi j hjs, hj] at this
    simpa using this
end Go.Proofs.Ytgemhgllifhckaa
