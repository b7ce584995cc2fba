/- A list in a row, behind new memory. No conditions. -/
import Derived.Test.YtgemhgllifhckaaArgs
namespace Go.Proofs.Ytgemhgllifhckaa
open Go.RowKit
set_option linter.unusedVariables false
set_option linter.unusedSimpArgs false

theorem Rs.next {α : Type} {w w' : World} {ao : Option Addr} {len cap size : Nat} {rs : List α} {f : α → List Value} (h : Rs w ao len cap size rs f) (hb : Below w.heap.size w w') : Rs w' ao len cap size rs f := h.below hb (Nat.le_refl _)
end Go.Proofs.Ytgemhgllifhckaa
