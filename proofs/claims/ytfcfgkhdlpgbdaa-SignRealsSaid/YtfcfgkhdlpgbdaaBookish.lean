/- What a book does, whichever it is: a mark for each text; and rows of ints and of strings. Conditions: as named in each theorem. -/
import Derived.Test.YtfcfgkhdlpgbdaaRefBook
import Derived.Test.YtfcfgkhdlpgbdaaSignMath
namespace Go.Proofs.Ytfcfgkhdlpgbdaa
open Go.RowKit
set_option linter.unusedVariables false

/-- f, called on the pointer to q with a text, answers with its mark: state s goes to step s t, the mark is out s t; the book's blocks are those of C and F -/
structure Bookish (f : FuncId) (q : Nat) (C : Nat → Prop) (S : Type) (len : S → Nat) (step : S → ByteArray → S) (out : S → ByteArray → ByteArray) (K : World → S → Option Nat → Prop) : Prop where
  lt : ∀ w s F, K w s F → (∀ k, C k → k < w.heap.size) ∧ (∀ k, F = some k → k < w.heap.size)
  kept : ∀ w w' s F U, K w s F → Kept U w w' → (∀ k, C k → ¬ U k) → (∀ k, F = some k → ¬ U k) → K w' s F
  mark : ∀ w s F t, K w s F → t.size ≤ 524288 → len s ≤ 1000000000 → Calls Try.prog f #[.pointer (some ⟨q, 0, none⟩), .string t] w fun e w' =>
    ∃ F', e = .returned (.string (out s t)) ∧ K w' (step s t) F' ∧ Kept (fun k => C k ∨ F = some k) w w' ∧ (∀ k, F' = some k → F = some k ∨ w.heap.size ≤ k)
  grow : ∀ s t, len (step s t) ≤ len s + 1
/-- marks of texts, one behind the other -/
def bMark {S : Type} (step : S → ByteArray → S) (out : S → ByteArray → ByteArray) (z : S × List ByteArray) (p : ByteArray) : S × List ByteArray := (step z.1 p, z.2 ++ [out z.1 p])
def bMarks {S : Type} (step : S → ByteArray → S) (out : S → ByteArray → ByteArray) (s : S) (l : List ByteArray) : S × List ByteArray := l.foldl (bMark step out) (s, [])
theorem bMarks_snoc {S : Type} (step : S → ByteArray → S) (out : S → ByteArray → ByteArray) (s : S) (l : List ByteArray) (p : ByteArray) : bMarks step out s (l ++ [p]) = bMark step out (bMarks step out s l) p := by unfold bMarks; rw [List.foldl_append]; rfl
theorem bMarks_len {S : Type} (step : S → ByteArray → S) (out : S → ByteArray → ByteArray) (s : S) (l : List ByteArray) : (bMarks step out s l).2.length = l.length := by
  have h : ∀ (l : List ByteArray) (z : S × List ByteArray), (l.foldl (bMark step out) z).2.length = z.2.length + l.length := by
    intro l
    induction l with
    | nil => intro z; rfl
    | cons p l ih => intro z; rw [List.foldl_cons, ih]; unfold bMark; simp; omega
  unfold bMarks
  rw [h]; simp
theorem bMarks_grow {f : FuncId} {q : Nat} {C : Nat → Prop} {S : Type} {len : S → Nat} {step : S → ByteArray → S} {out : S → ByteArray → ByteArray} {K : World → S → Option Nat → Prop} (hb : Bookish f q C S len step out K) (s : S) (l : List ByteArray) :
    len (bMarks step out s l).1 ≤ len s + l.length := by
  have h : ∀ (l : List ByteArray) (z : S × List ByteArray), len (l.foldl (bMark step out) z).1 ≤ len z.1 + l.length := by
    intro l
    induction l with
    | nil => intro z; simp
    | cons p l ih => intro z; rw [List.foldl_cons]; have := ih (bMark step out z p); have := hb.grow z.1 p; unfold bMark at *; simp only [List.length_cons] at *; omega
  exact h l _
theorem bMarks_addS (seen : Bk) (l : List ByteArray) : bMarks (fun (s : Bk) (t : ByteArray) => addS s (bytesOf t)) (fun s t => numS (s.idxOf (bytesOf t) + 1)) seen l = marksOf seen l := rfl

/-- the document's book, not real, at q -/
def RefK (q : Nat) (w : World) (seen : Bk) (F : Option Nat) : Prop := ∃ v, RefB w q v seen ∧ v.ownBlock = F ∧ ∀ k, v.ownBlock = some k → k ≠ q
theorem ref_bookish (q : Nat) : Bookish 46 q (fun k => k = q) Bk List.length (fun s t => addS s (bytesOf t)) (fun s t => numS (s.idxOf (bytesOf t) + 1)) (RefK q) where
  lt := by
    rintro w s F ⟨v, h, rfl, hn⟩
    exact ⟨fun k hk => by subst hk; exact h.1.lt, fun k hk => by obtain ⟨_, ss, _, hO⟩ := h; exact owns_lt hO hk⟩
  kept := by
    rintro w w' s F U ⟨v, h, rfl, hn⟩ hk h1 h2
    exact ⟨v, h.kept hk (h1 q rfl) h2, rfl, hn⟩
  mark := by
    rintro w s F t ⟨v, h, rfl, hn⟩ ht hl
    refine (refMark_any w q v s t h hl).mono ?_
    rintro e w' ⟨v', rfl, h1, h2, h3⟩
    refine ⟨v'.ownBlock, rfl, ⟨v', h1, rfl, fun k hk => ?_⟩, h2, h3⟩
    rcases h3 k hk with h4 | h4
    · exact hn k h4
    · have := h.1.lt; omega
  grow := fun s t => addS_len s _
theorem refK_new {w : World} {q : Nat} (h : Blk w q [.bool false, .slice none 0 0] 38) : RefK q w [] none :=
  ⟨.slice none 0 0, ⟨h, [], rfl, World.ownsRow_nil _ _ _ _⟩, by simp [Value.ownBlock], by simp [Value.ownBlock]⟩

/-- an ideal book at p, its table at m -/
def IdealK (p m : Nat) (w : World) (seen : Bk) (F : Option Nat) : Prop := BookI w p m seen ∧ F = none
theorem ideal_bookish (p m : Nat) : Bookish 45 p (fun k => k = p ∨ k = m) Bk List.length (fun s t => addS s (bytesOf t)) (fun s t => numS (s.idxOf (bytesOf t) + 1)) (IdealK p m) where
  lt := by
    rintro w s F ⟨h, rfl⟩
    have := h.2.2.2.2.1
    exact ⟨fun k hk => hk.elim (fun e => e ▸ this.1) (fun e => e ▸ this.2), fun k hk => by cases hk⟩
  kept := by
    rintro w w' s F U ⟨h, rfl⟩ hk h1 h2
    exact ⟨h.kept hk (h1 p (.inl rfl)) (h1 m (.inr rfl)), rfl⟩
  mark := by
    rintro w s F t ⟨h, rfl⟩ ht hl
    refine (mark_ideal w p m s t h (Nat.le_trans ht (by decide)) (by omega)).mono ?_
    rintro e w' ⟨rfl, h1, h2⟩
    exact ⟨none, rfl, ⟨h1, rfl⟩, (Kept.of_grown h2).mono (fun k _ hk => by simp only [Option.some.injEq] at hk; exact .inl (.inr hk.symm)), fun k hk => by cases hk⟩
  grow := fun s t => addS_len s _
end Go.Proofs.Ytfcfgkhdlpgbdaa
