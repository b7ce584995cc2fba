/- delta.Apply under an ideal book. Conditions: as named in each theorem. -/
import Derived.Test.YtabdmcgfiabaoaaDlMade
import Derived.Deep.RegionHeld3
namespace Go.Proofs.Ytabdmcgfiabaoaa
open Go.RowKit Sg
set_option linter.unusedVariables false
set_option linter.unusedSimpArgs false
theorem below_g {w a b : World} {m : Nat} (hk : Kept (fun k => some m = some k) w a) (hg : a.grownBy b (some m)) : Kept (fun k => some m = some k) w b := hk.trans (Kept.of_grown hg) (fun _ _ h => h)
theorem kept_b {w a b : World} {m : Nat} (hk : Kept (fun k => some m = some k) w a) (hb : Below a.heap.size a b) : Kept (fun k => some m = some k) w b := hk.trans (Kept.of_below (fun k => some m = some k) hb) (fun _ _ h => h)
end Go.Proofs.Ytabdmcgfiabaoaa
