/-
  No cell of these rows narrows 'for every input' (looked for: loops, veiled, ifaces, maps, wideKeys, modest, calm, conditions, laid).
  DERIVED. THE GIVEN ROWS OF THIS SEAT. 8 by the template 'for every input the law returns true; each argument reads behind the call as it read before'; 0 by the template 'total and deterministic' (their statements: YtgkcnocfijckoaaGreatTotals.lean).
  GIVEN WITH THE SEED: the statements are not yours to turn. If you find one false, say at which input.
  Laid BY PROGRAM, IN A SANDBOX (cutbox-rows.mjs): the forced cells as the released guide's own fill.sh prints them over the translation 0cd107d6a9051c9e… (all of the seat's roots in one cut). By AI agents, Wed Nov 11 2026. No macro, syntax, notation, axiom, sorry.
-/
import Derived.Test.YtgkcnocfijckoaaGreatChecked
import GoSem.Claim
import GoSem.ClaimJoined
import GoSem.ClaimMapViews
import Derived.JoinedTies
import Derived.KernelRfl
namespace Go.Proofs.YtgkcnocfijckoaaGreat
/- THE CELL 'sum', in the pinned program and in every row, IS THE sha256 OF THE DUMP (.gsa) THAT YtgkcnocfijckoaaGreatProg.lean LOADS. Nothing in Lean hashes anything: it is a label: what it is worth is what the hold of that sum in a sandbox is worth. -/
noncomputable def Tryz.pinned : Pinned := { name := "ytgkcnocfijckoaagreat", sum := "0cd107d6a9051c9e6d079a486b23484224b8448877fc6fc05819274c889ed18a", checked := Tryz.checked }
namespace Rows
def none {H : Type} : Left H := { results := [], args := [] }

/-- 'barquelaw16.StoreForms': WHATEVER THE INPUT: true; the input reads as it did. -/
def storeFormsSpec : ChangeSpec := { name := "storeForms", fn := fun _ => fun
  | [d] => { results := [.lit (.bool true)], args := [d] }
  | _ => none }
def storeFormsRow : OpenClaim := { program := "ytgkcnocfijckoaagreat", sum := "0cd107d6a9051c9e6d079a486b23484224b8448877fc6fc05819274c889ed18a", func := "barque/barquelaw16.StoreForms", spec := "storeForms", inPlace := ["slices.overlaps[barque/store.gen]", "internal/abi.NoEscape"], unfollowed := true, recurses := true, apart := false }
def StoreFormsSaid : Prop := storeFormsRow.holds Tryz.pinned (OpenSpec.ofChange storeFormsSpec)

/-- ITS FALSE NEIGHBOUR: 'it returns false'. Refute it at one input. -/
def storeFormsWrong : ChangeSpec := { name := "storeForms", fn := fun _ => fun
  | [d] => { results := [.lit (.bool false)], args := [d] }
  | _ => none }
def StoreFormsWrongFalsely : Prop := storeFormsRow.holds Tryz.pinned (OpenSpec.ofChange storeFormsWrong)

/-- 'barquelaw16.StoreBests': WHATEVER THE INPUT: true; the input reads as it did. -/
def storeBestsSpec : ChangeSpec := { name := "storeBests", fn := fun _ => fun
  | [d1, d2, d3, d4] => { results := [.lit (.bool true)], args := [d1, d2, d3, d4] }
  | _ => none }
def storeBestsRow : OpenClaim := { program := "ytgkcnocfijckoaagreat", sum := "0cd107d6a9051c9e6d079a486b23484224b8448877fc6fc05819274c889ed18a", func := "barque/barquelaw16.StoreBests", spec := "storeBests", inPlace := ["internal/abi.NoEscape", "slices.overlaps[barque/store.gen]"], unfollowed := true, recurses := true, apart := false }
def StoreBestsSaid : Prop := storeBestsRow.holds Tryz.pinned (OpenSpec.ofChange storeBestsSpec)

/-- ITS FALSE NEIGHBOUR: 'it returns false'. Refute it at one input. -/
def storeBestsWrong : ChangeSpec := { name := "storeBests", fn := fun _ => fun
  | [d1, d2, d3, d4] => { results := [.lit (.bool false)], args := [d1, d2, d3, d4] }
  | _ => none }
def StoreBestsWrongFalsely : Prop := storeBestsRow.holds Tryz.pinned (OpenSpec.ofChange storeBestsWrong)

/-- 'barquelaw16.StorePartlies': WHATEVER THE INPUT: true; the input reads as it did. -/
def storePartliesSpec : ChangeSpec := { name := "storePartlies", fn := fun _ => fun
  | [d1, d2, d3, d4] => { results := [.lit (.bool true)], args := [d1, d2, d3, d4] }
  | _ => none }
def storePartliesRow : OpenClaim := { program := "ytgkcnocfijckoaagreat", sum := "0cd107d6a9051c9e6d079a486b23484224b8448877fc6fc05819274c889ed18a", func := "barque/barquelaw16.StorePartlies", spec := "storePartlies", inPlace := ["internal/abi.NoEscape", "slices.overlaps[barque/store.gen]"], unfollowed := true, recurses := true, apart := false }
def StorePartliesSaid : Prop := storePartliesRow.holds Tryz.pinned (OpenSpec.ofChange storePartliesSpec)

/-- ITS FALSE NEIGHBOUR: 'it returns false'. Refute it at one input. -/
def storePartliesWrong : ChangeSpec := { name := "storePartlies", fn := fun _ => fun
  | [d1, d2, d3, d4] => { results := [.lit (.bool false)], args := [d1, d2, d3, d4] }
  | _ => none }
def StorePartliesWrongFalsely : Prop := storePartliesRow.holds Tryz.pinned (OpenSpec.ofChange storePartliesWrong)

/-- 'barquelaw16.StorePlays': WHATEVER THE INPUT: true; the input reads as it did. -/
def storePlaysSpec : ChangeSpec := { name := "storePlays", fn := fun _ => fun
  | [d] => { results := [.lit (.bool true)], args := [d] }
  | _ => none }
def storePlaysRow : OpenClaim := { program := "ytgkcnocfijckoaagreat", sum := "0cd107d6a9051c9e6d079a486b23484224b8448877fc6fc05819274c889ed18a", func := "barque/barquelaw16.StorePlays", spec := "storePlays", inPlace := ["internal/abi.NoEscape", "slices.overlaps[barque/store.gen]"], unfollowed := true, recurses := true, apart := false }
def StorePlaysSaid : Prop := storePlaysRow.holds Tryz.pinned (OpenSpec.ofChange storePlaysSpec)

/-- ITS FALSE NEIGHBOUR: 'it returns false'. Refute it at one input. -/
def storePlaysWrong : ChangeSpec := { name := "storePlays", fn := fun _ => fun
  | [d] => { results := [.lit (.bool false)], args := [d] }
  | _ => none }
def StorePlaysWrongFalsely : Prop := storePlaysRow.holds Tryz.pinned (OpenSpec.ofChange storePlaysWrong)

/-- 'barquelaw16.StoreDos': WHATEVER THE INPUT: true; the input reads as it did. -/
def storeDosSpec : ChangeSpec := { name := "storeDos", fn := fun _ => fun
  | [d1, d2] => { results := [.lit (.bool true)], args := [d1, d2] }
  | _ => none }
def storeDosRow : OpenClaim := { program := "ytgkcnocfijckoaagreat", sum := "0cd107d6a9051c9e6d079a486b23484224b8448877fc6fc05819274c889ed18a", func := "barque/barquelaw16.StoreDos", spec := "storeDos", inPlace := ["internal/abi.NoEscape", "slices.overlaps[barque/store.gen]"], unfollowed := true, recurses := true, apart := false }
def StoreDosSaid : Prop := storeDosRow.holds Tryz.pinned (OpenSpec.ofChange storeDosSpec)

/-- ITS FALSE NEIGHBOUR: 'it returns false'. Refute it at one input. -/
def storeDosWrong : ChangeSpec := { name := "storeDos", fn := fun _ => fun
  | [d1, d2] => { results := [.lit (.bool false)], args := [d1, d2] }
  | _ => none }
def StoreDosWrongFalsely : Prop := storeDosRow.holds Tryz.pinned (OpenSpec.ofChange storeDosWrong)

/-- 'barquelaw16.StoreRebases': WHATEVER THE INPUT: true; the input reads as it did. -/
def storeRebasesSpec : ChangeSpec := { name := "storeRebases", fn := fun _ => fun
  | [d1, d2] => { results := [.lit (.bool true)], args := [d1, d2] }
  | _ => none }
def storeRebasesRow : OpenClaim := { program := "ytgkcnocfijckoaagreat", sum := "0cd107d6a9051c9e6d079a486b23484224b8448877fc6fc05819274c889ed18a", func := "barque/barquelaw16.StoreRebases", spec := "storeRebases", inPlace := ["internal/abi.NoEscape", "slices.overlaps[barque/store.gen]"], unfollowed := true, recurses := true, apart := false }
def StoreRebasesSaid : Prop := storeRebasesRow.holds Tryz.pinned (OpenSpec.ofChange storeRebasesSpec)

/-- ITS FALSE NEIGHBOUR: 'it returns false'. Refute it at one input. -/
def storeRebasesWrong : ChangeSpec := { name := "storeRebases", fn := fun _ => fun
  | [d1, d2] => { results := [.lit (.bool false)], args := [d1, d2] }
  | _ => none }
def StoreRebasesWrongFalsely : Prop := storeRebasesRow.holds Tryz.pinned (OpenSpec.ofChange storeRebasesWrong)

/-- 'barquelaw16.StoreNobody': WHATEVER THE INPUT: true; the input reads as it did. -/
def storeNobodySpec : ChangeSpec := { name := "storeNobody", fn := fun _ => fun
  | [d1, d2] => { results := [.lit (.bool true)], args := [d1, d2] }
  | _ => none }
def storeNobodyRow : OpenClaim := { program := "ytgkcnocfijckoaagreat", sum := "0cd107d6a9051c9e6d079a486b23484224b8448877fc6fc05819274c889ed18a", func := "barque/barquelaw16.StoreNobody", spec := "storeNobody", inPlace := ["internal/abi.NoEscape", "slices.overlaps[barque/store.gen]", "internal/bytealg.MakeNoZero"], unfollowed := true, recurses := true, apart := false }
def StoreNobodySaid : Prop := storeNobodyRow.holds Tryz.pinned (OpenSpec.ofChange storeNobodySpec)

/-- ITS FALSE NEIGHBOUR: 'it returns false'. Refute it at one input. -/
def storeNobodyWrong : ChangeSpec := { name := "storeNobody", fn := fun _ => fun
  | [d1, d2] => { results := [.lit (.bool false)], args := [d1, d2] }
  | _ => none }
def StoreNobodyWrongFalsely : Prop := storeNobodyRow.holds Tryz.pinned (OpenSpec.ofChange storeNobodyWrong)

/-- 'barquelaw16.StoreAgain': WHATEVER THE INPUT: true; the input reads as it did. -/
def storeAgainSpec : ChangeSpec := { name := "storeAgain", fn := fun _ => fun
  | [d1, d2] => { results := [.lit (.bool true)], args := [d1, d2] }
  | _ => none }
def storeAgainRow : OpenClaim := { program := "ytgkcnocfijckoaagreat", sum := "0cd107d6a9051c9e6d079a486b23484224b8448877fc6fc05819274c889ed18a", func := "barque/barquelaw16.StoreAgain", spec := "storeAgain", inPlace := ["internal/abi.NoEscape", "slices.overlaps[barque/store.gen]", "internal/bytealg.MakeNoZero"], unfollowed := true, recurses := true, apart := false }
def StoreAgainSaid : Prop := storeAgainRow.holds Tryz.pinned (OpenSpec.ofChange storeAgainSpec)

/-- ITS FALSE NEIGHBOUR: 'it returns false'. Refute it at one input. -/
def storeAgainWrong : ChangeSpec := { name := "storeAgain", fn := fun _ => fun
  | [d1, d2] => { results := [.lit (.bool false)], args := [d1, d2] }
  | _ => none }
def StoreAgainWrongFalsely : Prop := storeAgainRow.holds Tryz.pinned (OpenSpec.ofChange storeAgainWrong)

/- THE SECOND FORM. 'bulk': how many values and letters a reading holds, each counted each time it is reached (what is shared counts as often as it is met; a slice's spare places count too). A statement '..UptoSaid' is the law's where the arguments, and the package variables that the reading takes, are together of bulk at most 1048576: NARROWER than '..Said'. Prove '..Said' where nothing that the law and all that it calls make is longer than what came in: it says more and counts as full. Else prove '..UptoSaid'. A law counts once. -/
mutual
def uptoBulk {H : Type} : DataW H → Nat
  | .lit (.string bytes) => bytes.length + 1
  | .lit _ => 1
  | .nil => 1
  | .ptr d => uptoBulk d + 1
  | .slice elems spare => uptoBulkAll elems + uptoBulkAll spare + 1
  | .agg parts => uptoBulkAll parts + 1
  | .iface _ d => uptoBulk d + 1
  | .map entries => uptoBulkEntries entries + 1
  | .held _ => 1
def uptoBulkAll {H : Type} : List (DataW H) → Nat
  | [] => 0
  | d :: r => uptoBulk d + uptoBulkAll r
def uptoBulkEntries {H : Type} : List (Lit × DataW H) → Nat
  | [] => 0
  | x :: r => uptoBulkEntry x + uptoBulkEntries r
def uptoBulkEntry {H : Type} : Lit × DataW H → Nat
  | (.string bytes, d) => bytes.length + uptoBulk d + 1
  | (_, d) => uptoBulk d + 1
 end
def uptoSmall : (H : Type) → List (DataW H) → Bool := fun _ ds => decide (uptoBulkAll ds ≤ 1048576)
def OpenSpec.upto (s : _root_.Go.ChangeSpec) : _root_.Go.OpenSpec := { _root_.Go.OpenSpec.ofChange s with cond := some uptoSmall }

/-- 'barquelaw16.StoreForms', WHERE WHAT IT READS IS OF BULK AT MOST 1048576: true; the input reads as it did. -/
def storeFormsUptoRow : OpenClaim := { program := "ytgkcnocfijckoaagreat", sum := "0cd107d6a9051c9e6d079a486b23484224b8448877fc6fc05819274c889ed18a", func := "barque/barquelaw16.StoreForms", spec := "storeForms", inPlace := ["slices.overlaps[barque/store.gen]", "internal/abi.NoEscape"], unfollowed := true, recurses := true, apart := false, narrowed := true }
def StoreFormsUptoSaid : Prop := storeFormsUptoRow.holds Tryz.pinned (OpenSpec.upto storeFormsSpec)

/-- 'barquelaw16.StoreBests', WHERE WHAT IT READS IS OF BULK AT MOST 1048576: true; the input reads as it did. -/
def storeBestsUptoRow : OpenClaim := { program := "ytgkcnocfijckoaagreat", sum := "0cd107d6a9051c9e6d079a486b23484224b8448877fc6fc05819274c889ed18a", func := "barque/barquelaw16.StoreBests", spec := "storeBests", inPlace := ["internal/abi.NoEscape", "slices.overlaps[barque/store.gen]"], unfollowed := true, recurses := true, apart := false, narrowed := true }
def StoreBestsUptoSaid : Prop := storeBestsUptoRow.holds Tryz.pinned (OpenSpec.upto storeBestsSpec)

/-- 'barquelaw16.StorePartlies', WHERE WHAT IT READS IS OF BULK AT MOST 1048576: true; the input reads as it did. -/
def storePartliesUptoRow : OpenClaim := { program := "ytgkcnocfijckoaagreat", sum := "0cd107d6a9051c9e6d079a486b23484224b8448877fc6fc05819274c889ed18a", func := "barque/barquelaw16.StorePartlies", spec := "storePartlies", inPlace := ["internal/abi.NoEscape", "slices.overlaps[barque/store.gen]"], unfollowed := true, recurses := true, apart := false, narrowed := true }
def StorePartliesUptoSaid : Prop := storePartliesUptoRow.holds Tryz.pinned (OpenSpec.upto storePartliesSpec)

/-- 'barquelaw16.StorePlays', WHERE WHAT IT READS IS OF BULK AT MOST 1048576: true; the input reads as it did. -/
def storePlaysUptoRow : OpenClaim := { program := "ytgkcnocfijckoaagreat", sum := "0cd107d6a9051c9e6d079a486b23484224b8448877fc6fc05819274c889ed18a", func := "barque/barquelaw16.StorePlays", spec := "storePlays", inPlace := ["internal/abi.NoEscape", "slices.overlaps[barque/store.gen]"], unfollowed := true, recurses := true, apart := false, narrowed := true }
def StorePlaysUptoSaid : Prop := storePlaysUptoRow.holds Tryz.pinned (OpenSpec.upto storePlaysSpec)

/-- 'barquelaw16.StoreDos', WHERE WHAT IT READS IS OF BULK AT MOST 1048576: true; the input reads as it did. -/
def storeDosUptoRow : OpenClaim := { program := "ytgkcnocfijckoaagreat", sum := "0cd107d6a9051c9e6d079a486b23484224b8448877fc6fc05819274c889ed18a", func := "barque/barquelaw16.StoreDos", spec := "storeDos", inPlace := ["internal/abi.NoEscape", "slices.overlaps[barque/store.gen]"], unfollowed := true, recurses := true, apart := false, narrowed := true }
def StoreDosUptoSaid : Prop := storeDosUptoRow.holds Tryz.pinned (OpenSpec.upto storeDosSpec)

/-- 'barquelaw16.StoreRebases', WHERE WHAT IT READS IS OF BULK AT MOST 1048576: true; the input reads as it did. -/
def storeRebasesUptoRow : OpenClaim := { program := "ytgkcnocfijckoaagreat", sum := "0cd107d6a9051c9e6d079a486b23484224b8448877fc6fc05819274c889ed18a", func := "barque/barquelaw16.StoreRebases", spec := "storeRebases", inPlace := ["internal/abi.NoEscape", "slices.overlaps[barque/store.gen]"], unfollowed := true, recurses := true, apart := false, narrowed := true }
def StoreRebasesUptoSaid : Prop := storeRebasesUptoRow.holds Tryz.pinned (OpenSpec.upto storeRebasesSpec)

/-- 'barquelaw16.StoreNobody', WHERE WHAT IT READS IS OF BULK AT MOST 1048576: true; the input reads as it did. -/
def storeNobodyUptoRow : OpenClaim := { program := "ytgkcnocfijckoaagreat", sum := "0cd107d6a9051c9e6d079a486b23484224b8448877fc6fc05819274c889ed18a", func := "barque/barquelaw16.StoreNobody", spec := "storeNobody", inPlace := ["internal/abi.NoEscape", "slices.overlaps[barque/store.gen]", "internal/bytealg.MakeNoZero"], unfollowed := true, recurses := true, apart := false, narrowed := true }
def StoreNobodyUptoSaid : Prop := storeNobodyUptoRow.holds Tryz.pinned (OpenSpec.upto storeNobodySpec)

/-- 'barquelaw16.StoreAgain', WHERE WHAT IT READS IS OF BULK AT MOST 1048576: true; the input reads as it did. -/
def storeAgainUptoRow : OpenClaim := { program := "ytgkcnocfijckoaagreat", sum := "0cd107d6a9051c9e6d079a486b23484224b8448877fc6fc05819274c889ed18a", func := "barque/barquelaw16.StoreAgain", spec := "storeAgain", inPlace := ["internal/abi.NoEscape", "slices.overlaps[barque/store.gen]", "internal/bytealg.MakeNoZero"], unfollowed := true, recurses := true, apart := false, narrowed := true }
def StoreAgainUptoSaid : Prop := storeAgainUptoRow.holds Tryz.pinned (OpenSpec.upto storeAgainSpec)

end Rows
end Go.Proofs.YtgkcnocfijckoaaGreat
