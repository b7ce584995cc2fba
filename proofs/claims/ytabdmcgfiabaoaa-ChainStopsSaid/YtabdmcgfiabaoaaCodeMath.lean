/- Numbers as bytes, seven bits each, and how they are read again: the plain law. No conditions. -/
import Derived.WalkKit
namespace Go.Proofs.Ytabdmcgfiabaoaa
set_option linter.unusedVariables false
/-- a reader: what is left, and the error -/
abbrev RSt := List UInt8 × Nat
/-- what is left is left of it -/
def Left (z y : RSt) : Prop := ∃ d, z.1 = d ++ y.1
theorem Left.refl (z : RSt) : Left z z := ⟨[], rfl⟩
theorem Left.trans {a b c : RSt} (h : Left a b) (k : Left b c) : Left a c := by
  obtain ⟨d, hd⟩ := h
  obtain ⟨e, he⟩ := k
  exact ⟨d ++ e, by rw [hd, he, List.append_assoc]⟩
theorem Left.len {a b : RSt} (h : Left a b) : b.1.length ≤ a.1.length := by obtain ⟨d, hd⟩ := h; rw [hd]; simp
end Go.Proofs.Ytabdmcgfiabaoaa
