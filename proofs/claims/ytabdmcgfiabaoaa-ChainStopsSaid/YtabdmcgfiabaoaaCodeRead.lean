/- The program's reader of bytes. Conditions: as named in each theorem. -/
import Derived.Test.YtabdmcgfiabaoaaQA
import Derived.Test.YtabdmcgfiabaoaaCodeMath
import Derived.Laws.Bits64b
import Derived.IntWalk
import Derived.Test.YtabdmcgfiabaoaaOwnsBase
import Derived.BigQuiet
namespace Go.Proofs.Ytabdmcgfiabaoaa
open Go.RowKit
set_option linter.unusedVariables false
/-- a reader of s lies at p: what is left, and the error -/
def RdB (T : TypeId) (w : World) (p : Nat) (s : ByteArray) (z : RSt) : Prop := ∃ at_ : Nat, at_ ≤ s.size ∧ z.1 = s.data.toList.drop at_ ∧ Blk w p [.string s, .int .i64 at_, .int .i64 (z.2 : Nat)] T
theorem RdB.grown {T : TypeId} {w w' : World} {p : Nat} {s : ByteArray} {z : RSt} (h : RdB T w p s z) {row : Option Nat} (hg : w.grownBy w' row) (hne : some p ≠ row) : RdB T w' p s z := by
  obtain ⟨a, h1, h2, h3⟩ := h
  exact ⟨a, h1, h2, h3.grown hg hne⟩
theorem RdB.next {T : TypeId} {w w' : World} {p : Nat} {s : ByteArray} {z : RSt} (h : RdB T w p s z) (hb : Below w.heap.size w w') : RdB T w' p s z := by
  obtain ⟨a, h1, h2, h3⟩ := h
  exact ⟨a, h1, h2, h3.below hb h3.lt⟩
theorem RdB.lt {T : TypeId} {w : World} {p : Nat} {s : ByteArray} {z : RSt} (h : RdB T w p s z) : p < w.heap.size := by
  obtain ⟨a, h1, h2, h3⟩ := h
  exact h3.lt
theorem drop_at (s : ByteArray) (k : Nat) (h : k < s.size) : s.data.toList.drop k = s[k] :: s.data.toList.drop (k + 1) := by
  rw [List.drop_eq_getElem_cons (by simpa using h)]; rfl
end Go.Proofs.Ytabdmcgfiabaoaa
