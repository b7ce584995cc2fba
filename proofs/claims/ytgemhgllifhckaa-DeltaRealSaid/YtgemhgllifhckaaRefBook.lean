/- The document's book (not real): place, Mark. Conditions: as named in each theorem. -/
import Derived.Test.YtgemhgllifhckaaOwnsBase
import Derived.Test.YtgemhgllifhckaaQA
namespace Go.Proofs.Ytgemhgllifhckaa
open Go.RowKit
set_option linter.unusedVariables false
/-- the document's book at q, its row v behind q, has numbered these texts -/
def RefB (w : World) (q : Nat) (v : Value) (seen : List (List UInt8)) : Prop :=
  Blk w q [.bool false, v] 38 ∧ ∃ ss : List ByteArray, ss.map (fun s : ByteArray => s.data.toList) = seen ∧ w.ownsRow (q + 1) 9 1 v ss.length (ss.map .string)
theorem RefB.kept {w w' : World} {q : Nat} {v : Value} {seen : List (List UInt8)} (h : RefB w q v seen) {T : Nat → Prop} (hk : Kept T w w') (h1 : ¬ T q) (h2 : ∀ k, v.ownBlock = some k → ¬ T k) : RefB w' q v seen := by
  obtain ⟨hb, ss, hs, hO⟩ := h
  refine ⟨?_, ss, hs, owns_block hO (fun k e => hk.block k (owns_lt hO e) (h2 k e))⟩
  have hl := hb.lt
  unfold Blk at hb ⊢
  rw [hk.block q hl h1]; exact hb
theorem RefB.next {w w' : World} {q : Nat} {v : Value} {seen : List (List UInt8)} (h : RefB w q v seen) (hb : Below w.heap.size w w') : RefB w' q v seen :=
  h.kept (Kept.of_below (fun _ => False) hb) (by simp) (by simp)
end Go.Proofs.Ytgemhgllifhckaa
