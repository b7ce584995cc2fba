/- The two ways of a book in plain lists. No conditions. -/
import Derived.Test.YtgkcnocfijckoaaGreatMarksBook
import Derived.Deep.RegionHeld3
import Derived.BigQuiet
import Derived.Maps.AppendAt
namespace Go.Proofs.YtgkcnocfijckoaaGreat
open Go.RowKit
set_option linter.unusedVariables false
/-- the texts that a book has numbered behind a list of texts -/
def seenL (l : List (List UInt8)) : List (List UInt8) := l.foldl addS []
theorem seenL_snoc (l : List (List UInt8)) (s : List UInt8) : seenL (l ++ [s]) = addS (seenL l) s := by simp [seenL]
theorem mem_addS (seen : List (List UInt8)) (s t : List UInt8) : t ∈ addS seen s ↔ t ∈ seen ∨ t = s := by
  unfold addS
  split
  · rename_i h
    constructor
    · exact .inl
    · rintro (h1 | rfl)
      · exact h1
      · exact h
  · simp
theorem idx_addS {seen : List (List UInt8)} {s t : List UInt8} (h : t ∈ seen) : (addS seen s).idxOf t = seen.idxOf t := by
  unfold addS
  split
  · rfl
  · rw [List.idxOf_append, if_pos h]
theorem idx_self (seen : List (List UInt8)) (s : List UInt8) : (addS seen s).idxOf s = seen.idxOf s := by
  unfold addS
  split
  · rfl
  · rename_i h
    rw [List.idxOf_append, if_neg h, List.idxOf_eq_length h]; simp
theorem mem_fold (l : List (List UInt8)) : ∀ (a : List (List UInt8)) (t : List UInt8), t ∈ l.foldl addS a ↔ t ∈ a ∨ t ∈ l := by
  induction l with
  | nil => intro a t; simp
  | cons s l ih => intro a t; rw [List.foldl_cons, ih, mem_addS, List.mem_cons, or_assoc]
theorem mem_seenL (l : List (List UInt8)) (t : List UInt8) : t ∈ seenL l ↔ t ∈ l := by rw [seenL, mem_fold]; simp
theorem idx_fold (l : List (List UInt8)) : ∀ (a : List (List UInt8)) (t : List UInt8), t ∈ a → (l.foldl addS a).idxOf t = a.idxOf t := by
  induction l with
  | nil => intro a t _; rfl
  | cons s l ih => intro a t h; rw [List.foldl_cons, ih _ _ ((mem_addS _ _ _).2 (.inl h)), idx_addS h]
theorem idx_seenL (l m : List (List UInt8)) (t : List UInt8) (h : t ∈ l) : (seenL (l ++ m)).idxOf t = (seenL l).idxOf t := by
  rw [seenL, List.foldl_append]
  exact idx_fold m _ t ((mem_seenL l t).2 h)
theorem addS_len (seen : List (List UInt8)) (s : List UInt8) : (addS seen s).length ≤ seen.length + 1 := by
  unfold addS; split <;> simp
theorem seenL_len (l : List (List UInt8)) : (seenL l).length ≤ l.length := by
  have h : ∀ (l a : List (List UInt8)), (l.foldl addS a).length ≤ a.length + l.length := by
    intro l
    induction l with
    | nil => intro a; simp
    | cons s l ih => intro a; have := ih (addS a s); have := addS_len a s; simp only [List.foldl_cons, List.length_cons]; omega
  simpa [seenL] using h l []
theorem idx_inj {l : List (List UInt8)} {s t : List UInt8} (hs : s ∈ l) (ht : t ∈ l) (h : l.idxOf s = l.idxOf t) : s = t := by
  have a := List.getElem_idxOf (List.idxOf_lt_length_of_mem hs)
  have b := List.getElem_idxOf (List.idxOf_lt_length_of_mem ht)
  rw [← a, ← b]
  congr 1
theorem mark_as {w : World} {p m : Nat} {seen : List (List UInt8)} {s : ByteArray} (h : BookI w p m seen) (hs : s.size ≤ maxLen) (hn : seen.length ≤ 1000000000000) (n : Nat) (seen' : List (List UInt8)) (e1 : seen.idxOf s.data.toList + 1 = n) (e2 : addS seen s.data.toList = seen') :
    Calls Tryz.prog 46 #[.pointer (some ⟨p, 0, none⟩), .string s] w fun e w' =>
      e = .returned (.string (numS n)) ∧ BookI w' p m seen' ∧ w.grownBy w' (some m) := by
  subst e1; subst e2
  exact mark_ideal w p m seen s h hs hn
/-- the book stands in new memory, ahead of which nothing has turned -/
theorem book_step {w w1 w2 : World} {p m : Nat} (hB : Below w.heap.size w w1) (hm : w.heap.size ≤ m) (hg : w1.grownBy w2 (some m)) : Below w.heap.size w w2 :=
  hB.grown hg hB.size (by intro k hk; cases hk; exact hm)
theorem BookI.next {w w' : World} {p m : Nat} {seen : List (List UInt8)} (h : BookI w p m seen) (hb : Below w.heap.size w w') : BookI w' p m seen := BookI.below h hb h.2.2.2.2.1.1 h.2.2.2.2.1.2
end Go.Proofs.YtgkcnocfijckoaaGreat
namespace Go.Proofs.YtgkcnocfijckoaaGreat
open Go.RowKit
set_option linter.unusedVariables false
theorem infoStr : (Tryz.prog.info? 9).map (fun i => (i.zero, i.size, i.bytes)) = some (some (.string ByteArray.empty), 1, 16) := by kernel_rfl
/-- nothing but blocks of T and new memory has turned -/
structure Kept (T : Nat → Prop) (w w' : World) : Prop where
  os : w'.os = w.os
  tape : w'.tape = w.tape
  output : w'.output = w.output
  size : w.heap.size ≤ w'.heap.size
  block : ∀ k, k < w.heap.size → ¬ T k → w'.heap[k]? = w.heap[k]?
theorem Kept.refl (T : Nat → Prop) (w : World) : Kept T w w := ⟨rfl, rfl, rfl, Nat.le_refl _, fun _ _ _ => rfl⟩
theorem Kept.of_grown {w w' : World} {row : Option Nat} (h : w.grownBy w' row) : Kept (fun k => row = some k) w w' := ⟨h.os, h.tape, h.output, h.size, fun k hk hn => h.block k hk (fun e => hn e.symm)⟩
theorem Kept.of_below {w w' : World} (T : Nat → Prop) (h : Below w.heap.size w w') : Kept T w w' := ⟨h.os, h.tape, h.output, h.size, fun k hk _ => h.block k hk⟩
theorem Kept.mono {T U : Nat → Prop} {w w' : World} (h : Kept T w w') (hu : ∀ k, k < w.heap.size → T k → U k) : Kept U w w' := ⟨h.os, h.tape, h.output, h.size, fun k hk hn => h.block k hk (fun e => hn (hu k hk e))⟩
theorem Kept.trans {T U : Nat → Prop} {a b c : World} (h : Kept T a b) (k : Kept U b c) (hu : ∀ i, i < a.heap.size → U i → T i) : Kept T a c :=
  ⟨k.os.trans h.os, k.tape.trans h.tape, k.output.trans h.output, Nat.le_trans h.size k.size, fun i hi hn => (k.block i (Nat.lt_of_lt_of_le hi h.size) (fun e => hn (hu i hi e))).trans (h.block i hi hn)⟩
theorem Kept.below {T : Nat → Prop} {w w' : World} {B : Nat} {a : World} (hB : Below B a w) (h : Kept T w w') (hb : B ≤ w.heap.size) (ht : ∀ k, k < B → ¬ T k) : Below B a w' :=
  ⟨h.os.trans hB.os, h.tape.trans hB.tape, h.output.trans hB.output, Nat.le_trans hB.size h.size, fun k hk => (h.block k (Nat.lt_of_lt_of_le hk hb) (ht k hk)).trans (hB.block k hk)⟩
theorem Kept.cell {T : Nat → Prop} {w w' : World} (h : Kept T w w') {b i : Nat} (hb : b < w.heap.size) (ht : ¬ T b) : w'.cell? ⟨b, i, none⟩ = w.cell? ⟨b, i, none⟩ := by
  simp only [World.cell?, h.block b hb ht]
theorem Kept.set {T : Nat → Prop} {w w' : World} (h : Kept T w w') {p : Nat} (hp : T p) (i : Nat) (v : Value) : Kept T w (w'.setCell ⟨p, i, none⟩ v) := by
  refine ⟨h.os, h.tape, h.output, by simpa using h.size, fun k hk hn => ?_⟩
  rw [Below.heap_setCell _ _ _ _ (by intro e; exact hn (e ▸ hp))]
  exact h.block k hk hn
theorem BookI.kept {w w' : World} {p m : Nat} {seen : List (List UInt8)} (h : BookI w p m seen) {T : Nat → Prop} (hk : Kept T w w') (h1 : ¬ T p) (h2 : ¬ T m) : BookI w' p m seen := by
  obtain ⟨a, b, c, d, ⟨l1, l2⟩, D, ⟨es, clock, hx, F, hs, hD⟩, hB⟩ := h
  exact ⟨(hk.cell l1 h1).trans a, (hk.cell l1 h1).trans b, (hk.cell l1 h1).trans c, d, ⟨Nat.lt_of_lt_of_le l1 hk.size, Nat.lt_of_lt_of_le l2 hk.size⟩, D, ⟨es, clock, by rw [hk.block m l2 h2]; exact hx, F, hs, hD⟩, hB⟩
theorem owns_block {w w' : World} {base : Nat} {e : TypeId} {size n : Nat} {v : Value} {xs : List Value} (h : w.ownsRow base e size v n xs) (hb : ∀ k, v.ownBlock = some k → w'.heap[k]? = w.heap[k]?) : w'.ownsRow base e size v n xs := by
  obtain ⟨h1, h2⟩ := h
  refine ⟨h1, ?_⟩
  rcases h2 with h2 | ⟨g, cap, cur, rfl, hg, hh, r⟩
  · exact .inl h2
  · exact .inr ⟨g, cap, cur, rfl, hg, (hb g (by simp [Value.ownBlock])).trans hh, r⟩
theorem owns_lt {w : World} {base : Nat} {e : TypeId} {size n : Nat} {v : Value} {xs : List Value} (h : w.ownsRow base e size v n xs) {k : Nat} (hk : v.ownBlock = some k) : k < w.heap.size := by
  obtain ⟨h1, h2⟩ := h
  rcases h2 with ⟨_, rfl⟩ | ⟨g, cap, cur, rfl, hg, hh, r⟩
  · simp_all [Value.ownBlock]
  · simp [Value.ownBlock] at hk
    subst hk
    exact (Array.getElem?_eq_some_iff.1 hh).1
theorem owns_slice {w : World} {base : Nat} {e : TypeId} {size n : Nat} {v : Value} {xs : List Value} (h : w.ownsRow base e size v n xs) : ∃ ao cap, v = .slice ao n cap := by
  rcases h.2 with ⟨rfl, h0⟩ | ⟨g, cap, cur, rfl, _⟩
  · exact ⟨none, 0, by rw [h0]⟩
  · exact ⟨_, cap, rfl⟩
end Go.Proofs.YtgkcnocfijckoaaGreat
