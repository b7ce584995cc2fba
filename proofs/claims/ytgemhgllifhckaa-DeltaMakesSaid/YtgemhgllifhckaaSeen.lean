/- The two ways of a book in plain lists. No conditions. -/
import Derived.Test.YtgemhgllifhckaaMarksBook
namespace Go.Proofs.Ytgemhgllifhckaa
open Go.RowKit
set_option linter.unusedVariables false

/-- the texts that a book has numbered behind a list of texts -/
def seenL (l : List (List UInt8)) : List (List UInt8) := l.foldl addS []
theorem seenL_snoc (l : List (List UInt8)) (s : List UInt8) : seenL (l ++ [s]) = addS (seenL l) s := by simp [seenL]
theorem mem_addS (seen : List (List UInt8)) (s t : List UInt8) : t ∈ addS seen s ↔ t ∈ seen ∨ t = s := by
  unfold addS
  split
  · rename_i h
    constructor
    · exact .inl
    · rintro (h1 | rfl)
      · exact h1
      · exact h
  · simp
theorem idx_addS {seen : List (List UInt8)} {s t : List UInt8} (h : t ∈ seen) : (addS seen s).idxOf t = seen.idxOf t := by
  unfold addS
  split
  · rfl
  · rw [List.idxOf_append, if_pos h]
theorem idx_self (seen : List (List UInt8)) (s : List UInt8) : (addS seen s).idxOf s = seen.idxOf s := by
  unfold addS
  split
  · rfl
  · rename_i h
    rw [List.idxOf_append, if_neg h, List.idxOf_eq_length h]; simp
theorem mem_fold (l : List (List UInt8)) : ∀ (a : List (List UInt8)) (t : List UInt8), t ∈ l.foldl addS a ↔ t ∈ a ∨ t ∈ l := by
  induction l with
  | nil => intro a t; simp
  | cons s l ih => intro a t; rw [List.foldl_cons, ih, mem_addS, List.mem_cons, or_assoc]
theorem mem_seenL (l : List (List UInt8)) (t : List UInt8) : t ∈ seenL l ↔ t ∈ l := by rw [seenL, mem_fold]; simp
theorem idx_fold (l : List (List UInt8)) : ∀ (a : List (List UInt8)) (t : List UInt8), t ∈ a → (l.foldl addS a).idxOf t = a.idxOf t := by
  induction l with
  | nil => intro a t _; rfl
  | cons s l ih => intro a t h; rw [List.foldl_cons, ih _ _ ((mem_addS _ _ _).2 (.inl h)), idx_addS h]
theorem idx_seenL (l m : List (List UInt8)) (t : List UInt8) (h : t ∈ l) : (seenL (l ++ m)).idxOf t = (seenL l).idxOf t := by
  rw [seenL, List.foldl_append]
  exact idx_fold m _ t ((mem_seenL l t).2 h)
theorem addS_len (seen : List (List UInt8)) (s : List UInt8) : (addS seen s).length ≤ seen.length + 1 := by
  unfold addS; split <;> simp
theorem seenL_len (l : List (List UInt8)) : (seenL l).length ≤ l.length := by
  have h : ∀ (l a : List (List UInt8)), (l.foldl addS a).length ≤ a.length + l.length := by
    intro l
    induction l with
    | nil => intro a; simp
    | cons s l ih => intro a; have := ih (addS a s); have := addS_len a s; simp only [List.foldl_cons, List.length_cons]; omega
  simpa [seenL] using h l []
theorem idx_inj {l : List (List UInt8)} {s t : List UInt8} (hs : s ∈ l) (ht : t ∈ l) (h : l.idxOf s = l.idxOf t) : s = t := by
  have a := List.getElem_idxOf (List.idxOf_lt_length_of_mem hs)
  have b := List.getElem_idxOf (List.idxOf_lt_length_of_mem ht)
  rw [← a, ← b]
  congr 1

theorem mark_as {w : World} {p m : Nat} {seen : List (List UInt8)} {s : ByteArray} (h : BookI w p m seen) (hs : s.size ≤ maxLen) (hn : seen.length ≤ 1000000000000) (n : Nat) (seen' : List (List UInt8)) (e1 : seen.idxOf s.data.toList + 1 = n) (e2 : addS seen s.data.toList = seen') :
    Calls Try.prog 40 #[.pointer (some ⟨p, 0, none⟩), .string s] w fun e w' =>
      e = .returned (.string (numS n)) ∧ BookI w' p m seen' ∧ w.grownBy w' (some m) := by
  subst e1; subst e2
  exact mark_ideal w p m seen s h hs hn
/-- the book stands in new memory, ahead of which nothing has turned -/
theorem book_step {w w1 w2 : World} {p m : Nat} (hB : Below w.heap.size w w1) (hm : w.heap.size ≤ m) (hg : w1.grownBy w2 (some m)) : Below w.heap.size w w2 :=
  hB.grown hg hB.size (by intro k hk; cases hk; exact hm)
theorem BookI.next {w w' : World} {p m : Nat} {seen : List (List UInt8)} (h : BookI w p m seen) (hb : Below w.heap.size w w') : BookI w' p m seen := BookI.below h hb h.2.2.2.2.1.1 h.2.2.2.2.1.2
end Go.Proofs.Ytgemhgllifhckaa
