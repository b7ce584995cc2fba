/- The two ways of a book in plain lists. No conditions. -/
import Derived.Test.YtabdmcgfiabaoaaMarksBook
namespace Go.Proofs.Ytabdmcgfiabaoaa
open Go.RowKit
set_option linter.unusedVariables false
theorem mem_addS (seen : List (List UInt8)) (s t : List UInt8) : t ∈ addS seen s ↔ t ∈ seen ∨ t = s := by
  unfold addS
  split
  · rename_i h
    constructor
    · exact .inl
    · rintro (h1 | rfl)
      · exact h1
      · exact h
  · simp
theorem idx_addS {seen : List (List UInt8)} {s t : List UInt8} (h : t ∈ seen) : (addS seen s).idxOf t = seen.idxOf t := by
  unfold addS
  split
  · rfl
  · rw [List.idxOf_append, if_pos h]
theorem idx_self (seen : List (List UInt8)) (s : List UInt8) : (addS seen s).idxOf s = seen.idxOf s := by
  unfold addS
  split
  · rfl
  · rename_i h
    rw [List.idxOf_append, if_neg h, List.idxOf_eq_length h]; simp
theorem addS_len (seen : List (List UInt8)) (s : List UInt8) : (addS seen s).length ≤ seen.length + 1 := by
  unfold addS; split <;> simp
theorem idx_inj {l : List (List UInt8)} {s t : List UInt8} (hs : s ∈ l) (ht : t ∈ l) (h : l.idxOf s = l.idxOf t) : s = t := by
  have a := List.getElem_idxOf (List.idxOf_lt_length_of_mem hs)
  have b := List.getElem_idxOf (List.idxOf_lt_length_of_mem ht)
  rw [← a, ← b]
  congr 1
theorem mark_as {w : World} {p m : Nat} {seen : List (List UInt8)} {s : ByteArray} (h : BookI w p m seen) (hs : s.size ≤ maxLen) (hn : seen.length ≤ 1000000000000) (n : Nat) (seen' : List (List UInt8)) (e1 : seen.idxOf s.data.toList + 1 = n) (e2 : addS seen s.data.toList = seen') :
    Calls Try.prog 39 #[.pointer (some ⟨p, 0, none⟩), .string s] w fun e w' =>
      e = .returned (.string (numS n)) ∧ BookI w' p m seen' ∧ w.grownBy w' (some m) := by
  subst e1; subst e2
  exact mark_ideal w p m seen s h hs hn
theorem BookI.next {w w' : World} {p m : Nat} {seen : List (List UInt8)} (h : BookI w p m seen) (hb : Below w.heap.size w w') : BookI w' p m seen := BookI.below h hb h.2.2.2.2.1.1 h.2.2.2.2.1.2
end Go.Proofs.Ytabdmcgfiabaoaa
