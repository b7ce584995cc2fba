/-
  No cell of these rows narrows 'for every input' (looked for: loops, veiled, ifaces, maps, wideKeys, modest, calm, conditions, laid).
  DERIVED. THE GIVEN ROWS OF THIS SEAT. 11 by the template 'for every input the law returns true; each argument reads behind the call as it read before'; 0 by the template 'total and deterministic' (their statements: YtfcfgkhdlpgbdaaTotals.lean).
  GIVEN WITH THE SEED: the statements are not yours to turn. If you find one false, say at which input.
  Laid BY PROGRAM, IN A SANDBOX (cutbox-rows.mjs): the forced cells as the released guide's own fill.sh prints them over the translation 963f6bbecb095b66… (all of the seat's roots in one cut). By AI agents, Wed Nov 11 2026. No macro, syntax, notation, axiom, sorry.
-/
import Derived.Test.YtfcfgkhdlpgbdaaChecked
import GoSem.Claim
import GoSem.ClaimJoined
import GoSem.ClaimMapViews
import Derived.JoinedTies
import Derived.KernelRfl
namespace Go.Proofs.Ytfcfgkhdlpgbdaa
/- THE CELL 'sum', in the pinned program and in every row, IS THE sha256 OF THE DUMP (.gsa) THAT YtfcfgkhdlpgbdaaProg.lean LOADS. Nothing in Lean hashes anything: it is a label: what it is worth is what the hold of that sum in a sandbox is worth. -/
noncomputable def Try.pinned : Pinned := { name := "ytfcfgkhdlpgbdaa", sum := "963f6bbecb095b663e32cc6a63a8f21d16c798f55296b8c36d90689a71a6ec35", checked := Try.checked }
namespace Rows
def none {H : Type} : Left H := { results := [], args := [] }

/-- 'barquelaw05.SignBlocks': WHATEVER THE INPUT: true; the input reads as it did. -/
def signBlocksSpec : ChangeSpec := { name := "signBlocks", fn := fun _ => fun
  | [d] => { results := [.lit (.bool true)], args := [d] }
  | _ => none }
def signBlocksRow : OpenClaim := { program := "ytfcfgkhdlpgbdaa", sum := "963f6bbecb095b663e32cc6a63a8f21d16c798f55296b8c36d90689a71a6ec35", func := "barque/barquelaw05.SignBlocks", spec := "signBlocks", apart := false }
def SignBlocksSaid : Prop := signBlocksRow.holds Try.pinned (OpenSpec.ofChange signBlocksSpec)

/-- ITS FALSE NEIGHBOUR: 'it returns false'. Refute it at one input. -/
def signBlocksWrong : ChangeSpec := { name := "signBlocks", fn := fun _ => fun
  | [d] => { results := [.lit (.bool false)], args := [d] }
  | _ => none }
def SignBlocksWrongFalsely : Prop := signBlocksRow.holds Try.pinned (OpenSpec.ofChange signBlocksWrong)

/-- 'barquelaw05.SignSigns': WHATEVER THE INPUT: true; the input reads as it did. -/
def signSignsSpec : ChangeSpec := { name := "signSigns", fn := fun _ => fun
  | [d1, d2] => { results := [.lit (.bool true)], args := [d1, d2] }
  | _ => none }
def signSignsRow : OpenClaim := { program := "ytfcfgkhdlpgbdaa", sum := "963f6bbecb095b663e32cc6a63a8f21d16c798f55296b8c36d90689a71a6ec35", func := "barque/barquelaw05.SignSigns", spec := "signSigns", apart := false }
def SignSignsSaid : Prop := signSignsRow.holds Try.pinned (OpenSpec.ofChange signSignsSpec)

/-- ITS FALSE NEIGHBOUR: 'it returns false'. Refute it at one input. -/
def signSignsWrong : ChangeSpec := { name := "signSigns", fn := fun _ => fun
  | [d1, d2] => { results := [.lit (.bool false)], args := [d1, d2] }
  | _ => none }
def SignSignsWrongFalsely : Prop := signSignsRow.holds Try.pinned (OpenSpec.ofChange signSignsWrong)

/-- 'barquelaw05.SignBytes': WHATEVER THE INPUT: true; the input reads as it did. -/
def signBytesSpec : ChangeSpec := { name := "signBytes", fn := fun _ => fun
  | [d] => { results := [.lit (.bool true)], args := [d] }
  | _ => none }
def signBytesRow : OpenClaim := { program := "ytfcfgkhdlpgbdaa", sum := "963f6bbecb095b663e32cc6a63a8f21d16c798f55296b8c36d90689a71a6ec35", func := "barque/barquelaw05.SignBytes", spec := "signBytes", inPlace := ["internal/abi.NoEscape"], apart := false }
def SignBytesSaid : Prop := signBytesRow.holds Try.pinned (OpenSpec.ofChange signBytesSpec)

/-- ITS FALSE NEIGHBOUR: 'it returns false'. Refute it at one input. -/
def signBytesWrong : ChangeSpec := { name := "signBytes", fn := fun _ => fun
  | [d] => { results := [.lit (.bool false)], args := [d] }
  | _ => none }
def SignBytesWrongFalsely : Prop := signBytesRow.holds Try.pinned (OpenSpec.ofChange signBytesWrong)

/-- 'barquelaw05.SignNobody': WHATEVER THE INPUT: true; the input reads as it did. -/
def signNobodySpec : ChangeSpec := { name := "signNobody", fn := fun _ => fun
  | [d1, d2] => { results := [.lit (.bool true)], args := [d1, d2] }
  | _ => none }
def signNobodyRow : OpenClaim := { program := "ytfcfgkhdlpgbdaa", sum := "963f6bbecb095b663e32cc6a63a8f21d16c798f55296b8c36d90689a71a6ec35", func := "barque/barquelaw05.SignNobody", spec := "signNobody", apart := false }
def SignNobodySaid : Prop := signNobodyRow.holds Try.pinned (OpenSpec.ofChange signNobodySpec)

/-- ITS FALSE NEIGHBOUR: 'it returns false'. Refute it at one input. -/
def signNobodyWrong : ChangeSpec := { name := "signNobody", fn := fun _ => fun
  | [d1, d2] => { results := [.lit (.bool false)], args := [d1, d2] }
  | _ => none }
def SignNobodyWrongFalsely : Prop := signNobodyRow.holds Try.pinned (OpenSpec.ofChange signNobodyWrong)

/-- 'barquelaw05.SignReals': WHATEVER THE INPUT: true; the input reads as it did. -/
def signRealsSpec : ChangeSpec := { name := "signReals", fn := fun _ => fun
  | [d1, d2] => { results := [.lit (.bool true)], args := [d1, d2] }
  | _ => none }
def signRealsRow : OpenClaim := { program := "ytfcfgkhdlpgbdaa", sum := "963f6bbecb095b663e32cc6a63a8f21d16c798f55296b8c36d90689a71a6ec35", func := "barque/barquelaw05.SignReals", spec := "signReals", inPlace := ["math/bits.Add64"], unfollowed := true, recurses := true, apart := false }
def SignRealsSaid : Prop := signRealsRow.holds Try.pinned (OpenSpec.ofChange signRealsSpec)

/-- ITS FALSE NEIGHBOUR: 'it returns false'. Refute it at one input. -/
def signRealsWrong : ChangeSpec := { name := "signReals", fn := fun _ => fun
  | [d1, d2] => { results := [.lit (.bool false)], args := [d1, d2] }
  | _ => none }
def SignRealsWrongFalsely : Prop := signRealsRow.holds Try.pinned (OpenSpec.ofChange signRealsWrong)

/-- 'barquelaw05.SignReads': WHATEVER THE INPUT: true; the input reads as it did. -/
def signReadsSpec : ChangeSpec := { name := "signReads", fn := fun _ => fun
  | [d] => { results := [.lit (.bool true)], args := [d] }
  | _ => none }
def signReadsRow : OpenClaim := { program := "ytfcfgkhdlpgbdaa", sum := "963f6bbecb095b663e32cc6a63a8f21d16c798f55296b8c36d90689a71a6ec35", func := "barque/barquelaw05.SignReads", spec := "signReads", apart := false }
def SignReadsSaid : Prop := signReadsRow.holds Try.pinned (OpenSpec.ofChange signReadsSpec)

/-- ITS FALSE NEIGHBOUR: 'it returns false'. Refute it at one input. -/
def signReadsWrong : ChangeSpec := { name := "signReads", fn := fun _ => fun
  | [d] => { results := [.lit (.bool false)], args := [d] }
  | _ => none }
def SignReadsWrongFalsely : Prop := signReadsRow.holds Try.pinned (OpenSpec.ofChange signReadsWrong)

/-- 'barquelaw05.SignBack': WHATEVER THE INPUT: true; the input reads as it did. -/
def signBackSpec : ChangeSpec := { name := "signBack", fn := fun _ => fun
  | [d1, d2] => { results := [.lit (.bool true)], args := [d1, d2] }
  | _ => none }
def signBackRow : OpenClaim := { program := "ytfcfgkhdlpgbdaa", sum := "963f6bbecb095b663e32cc6a63a8f21d16c798f55296b8c36d90689a71a6ec35", func := "barque/barquelaw05.SignBack", spec := "signBack", inPlace := ["internal/abi.NoEscape"], apart := false }
def SignBackSaid : Prop := signBackRow.holds Try.pinned (OpenSpec.ofChange signBackSpec)

/-- ITS FALSE NEIGHBOUR: 'it returns false'. Refute it at one input. -/
def signBackWrong : ChangeSpec := { name := "signBack", fn := fun _ => fun
  | [d1, d2] => { results := [.lit (.bool false)], args := [d1, d2] }
  | _ => none }
def SignBackWrongFalsely : Prop := signBackRow.holds Try.pinned (OpenSpec.ofChange signBackWrong)

/-- 'barquelaw05.SignKept': WHATEVER THE INPUT: true; the input reads as it did. -/
def signKeptSpec : ChangeSpec := { name := "signKept", fn := fun _ => fun
  | [d1, d2] => { results := [.lit (.bool true)], args := [d1, d2] }
  | _ => none }
def signKeptRow : OpenClaim := { program := "ytfcfgkhdlpgbdaa", sum := "963f6bbecb095b663e32cc6a63a8f21d16c798f55296b8c36d90689a71a6ec35", func := "barque/barquelaw05.SignKept", spec := "signKept", unfollowed := true, recurses := true, apart := false }
def SignKeptSaid : Prop := signKeptRow.holds Try.pinned (OpenSpec.ofChange signKeptSpec)

/-- ITS FALSE NEIGHBOUR: 'it returns false'. Refute it at one input. -/
def signKeptWrong : ChangeSpec := { name := "signKept", fn := fun _ => fun
  | [d1, d2] => { results := [.lit (.bool false)], args := [d1, d2] }
  | _ => none }
def SignKeptWrongFalsely : Prop := signKeptRow.holds Try.pinned (OpenSpec.ofChange signKeptWrong)

/-- 'barquelaw05.SignFinds': WHATEVER THE INPUT: true; the input reads as it did. -/
def signFindsSpec : ChangeSpec := { name := "signFinds", fn := fun _ => fun
  | [d1, d2] => { results := [.lit (.bool true)], args := [d1, d2] }
  | _ => none }
def signFindsRow : OpenClaim := { program := "ytfcfgkhdlpgbdaa", sum := "963f6bbecb095b663e32cc6a63a8f21d16c798f55296b8c36d90689a71a6ec35", func := "barque/barquelaw05.SignFinds", spec := "signFinds", unfollowed := true, recurses := true, apart := false }
def SignFindsSaid : Prop := signFindsRow.holds Try.pinned (OpenSpec.ofChange signFindsSpec)

/-- ITS FALSE NEIGHBOUR: 'it returns false'. Refute it at one input. -/
def signFindsWrong : ChangeSpec := { name := "signFinds", fn := fun _ => fun
  | [d1, d2] => { results := [.lit (.bool false)], args := [d1, d2] }
  | _ => none }
def SignFindsWrongFalsely : Prop := signFindsRow.holds Try.pinned (OpenSpec.ofChange signFindsWrong)

/-- 'barquelaw05.SignMatches': WHATEVER THE INPUT: true; the input reads as it did. -/
def signMatchesSpec : ChangeSpec := { name := "signMatches", fn := fun _ => fun
  | [d1, d2, d3, d4, d5] => { results := [.lit (.bool true)], args := [d1, d2, d3, d4, d5] }
  | _ => none }
def signMatchesRow : OpenClaim := { program := "ytfcfgkhdlpgbdaa", sum := "963f6bbecb095b663e32cc6a63a8f21d16c798f55296b8c36d90689a71a6ec35", func := "barque/barquelaw05.SignMatches", spec := "signMatches", unfollowed := true, recurses := true, apart := false }
def SignMatchesSaid : Prop := signMatchesRow.holds Try.pinned (OpenSpec.ofChange signMatchesSpec)

/-- ITS FALSE NEIGHBOUR: 'it returns false'. Refute it at one input. -/
def signMatchesWrong : ChangeSpec := { name := "signMatches", fn := fun _ => fun
  | [d1, d2, d3, d4, d5] => { results := [.lit (.bool false)], args := [d1, d2, d3, d4, d5] }
  | _ => none }
def SignMatchesWrongFalsely : Prop := signMatchesRow.holds Try.pinned (OpenSpec.ofChange signMatchesWrong)

/-- 'barquelaw05.SignOwn': WHATEVER THE INPUT: true; the input reads as it did. -/
def signOwnSpec : ChangeSpec := { name := "signOwn", fn := fun _ => fun
  | [d1, d2] => { results := [.lit (.bool true)], args := [d1, d2] }
  | _ => none }
def signOwnRow : OpenClaim := { program := "ytfcfgkhdlpgbdaa", sum := "963f6bbecb095b663e32cc6a63a8f21d16c798f55296b8c36d90689a71a6ec35", func := "barque/barquelaw05.SignOwn", spec := "signOwn", unfollowed := true, recurses := true, apart := false }
def SignOwnSaid : Prop := signOwnRow.holds Try.pinned (OpenSpec.ofChange signOwnSpec)

/-- ITS FALSE NEIGHBOUR: 'it returns false'. Refute it at one input. -/
def signOwnWrong : ChangeSpec := { name := "signOwn", fn := fun _ => fun
  | [d1, d2] => { results := [.lit (.bool false)], args := [d1, d2] }
  | _ => none }
def SignOwnWrongFalsely : Prop := signOwnRow.holds Try.pinned (OpenSpec.ofChange signOwnWrong)

/- THE SECOND FORM. 'bulk': how many values and letters a reading holds, each counted each time it is reached (what is shared counts as often as it is met; a slice's spare places count too). A statement '..UptoSaid' is the law's where the arguments, and the package variables that the reading takes, are together of bulk at most 1048576: NARROWER than '..Said'. Prove '..Said' where nothing that the law and all that it calls make is longer than what came in: it says more and counts as full. Else prove '..UptoSaid'. A law counts once. -/
mutual
def uptoBulk {H : Type} : DataW H → Nat
  | .lit (.string bytes) => bytes.length + 1
  | .lit _ => 1
  | .nil => 1
  | .ptr d => uptoBulk d + 1
  | .slice elems spare => uptoBulkAll elems + uptoBulkAll spare + 1
  | .agg parts => uptoBulkAll parts + 1
  | .iface _ d => uptoBulk d + 1
  | .map entries => uptoBulkEntries entries + 1
  | .held _ => 1
def uptoBulkAll {H : Type} : List (DataW H) → Nat
  | [] => 0
  | d :: r => uptoBulk d + uptoBulkAll r
def uptoBulkEntries {H : Type} : List (Lit × DataW H) → Nat
  | [] => 0
  | x :: r => uptoBulkEntry x + uptoBulkEntries r
def uptoBulkEntry {H : Type} : Lit × DataW H → Nat
  | (.string bytes, d) => bytes.length + uptoBulk d + 1
  | (_, d) => uptoBulk d + 1
 end
def uptoSmall : (H : Type) → List (DataW H) → Bool := fun _ ds => decide (uptoBulkAll ds ≤ 1048576)
def OpenSpec.upto (s : _root_.Go.ChangeSpec) : _root_.Go.OpenSpec := { _root_.Go.OpenSpec.ofChange s with cond := some uptoSmall }

/-- 'barquelaw05.SignBlocks', WHERE WHAT IT READS IS OF BULK AT MOST 1048576: true; the input reads as it did. -/
def signBlocksUptoRow : OpenClaim := { program := "ytfcfgkhdlpgbdaa", sum := "963f6bbecb095b663e32cc6a63a8f21d16c798f55296b8c36d90689a71a6ec35", func := "barque/barquelaw05.SignBlocks", spec := "signBlocks", apart := false, narrowed := true }
def SignBlocksUptoSaid : Prop := signBlocksUptoRow.holds Try.pinned (OpenSpec.upto signBlocksSpec)

/-- 'barquelaw05.SignSigns', WHERE WHAT IT READS IS OF BULK AT MOST 1048576: true; the input reads as it did. -/
def signSignsUptoRow : OpenClaim := { program := "ytfcfgkhdlpgbdaa", sum := "963f6bbecb095b663e32cc6a63a8f21d16c798f55296b8c36d90689a71a6ec35", func := "barque/barquelaw05.SignSigns", spec := "signSigns", apart := false, narrowed := true }
def SignSignsUptoSaid : Prop := signSignsUptoRow.holds Try.pinned (OpenSpec.upto signSignsSpec)

/-- 'barquelaw05.SignBytes', WHERE WHAT IT READS IS OF BULK AT MOST 1048576: true; the input reads as it did. -/
def signBytesUptoRow : OpenClaim := { program := "ytfcfgkhdlpgbdaa", sum := "963f6bbecb095b663e32cc6a63a8f21d16c798f55296b8c36d90689a71a6ec35", func := "barque/barquelaw05.SignBytes", spec := "signBytes", inPlace := ["internal/abi.NoEscape"], apart := false, narrowed := true }
def SignBytesUptoSaid : Prop := signBytesUptoRow.holds Try.pinned (OpenSpec.upto signBytesSpec)

/-- 'barquelaw05.SignNobody', WHERE WHAT IT READS IS OF BULK AT MOST 1048576: true; the input reads as it did. -/
def signNobodyUptoRow : OpenClaim := { program := "ytfcfgkhdlpgbdaa", sum := "963f6bbecb095b663e32cc6a63a8f21d16c798f55296b8c36d90689a71a6ec35", func := "barque/barquelaw05.SignNobody", spec := "signNobody", apart := false, narrowed := true }
def SignNobodyUptoSaid : Prop := signNobodyUptoRow.holds Try.pinned (OpenSpec.upto signNobodySpec)

/-- 'barquelaw05.SignReals', WHERE WHAT IT READS IS OF BULK AT MOST 1048576: true; the input reads as it did. -/
def signRealsUptoRow : OpenClaim := { program := "ytfcfgkhdlpgbdaa", sum := "963f6bbecb095b663e32cc6a63a8f21d16c798f55296b8c36d90689a71a6ec35", func := "barque/barquelaw05.SignReals", spec := "signReals", inPlace := ["math/bits.Add64"], unfollowed := true, recurses := true, apart := false, narrowed := true }
def SignRealsUptoSaid : Prop := signRealsUptoRow.holds Try.pinned (OpenSpec.upto signRealsSpec)

/-- 'barquelaw05.SignReads', WHERE WHAT IT READS IS OF BULK AT MOST 1048576: true; the input reads as it did. -/
def signReadsUptoRow : OpenClaim := { program := "ytfcfgkhdlpgbdaa", sum := "963f6bbecb095b663e32cc6a63a8f21d16c798f55296b8c36d90689a71a6ec35", func := "barque/barquelaw05.SignReads", spec := "signReads", apart := false, narrowed := true }
def SignReadsUptoSaid : Prop := signReadsUptoRow.holds Try.pinned (OpenSpec.upto signReadsSpec)

/-- 'barquelaw05.SignBack', WHERE WHAT IT READS IS OF BULK AT MOST 1048576: true; the input reads as it did. -/
def signBackUptoRow : OpenClaim := { program := "ytfcfgkhdlpgbdaa", sum := "963f6bbecb095b663e32cc6a63a8f21d16c798f55296b8c36d90689a71a6ec35", func := "barque/barquelaw05.SignBack", spec := "signBack", inPlace := ["internal/abi.NoEscape"], apart := false, narrowed := true }
def SignBackUptoSaid : Prop := signBackUptoRow.holds Try.pinned (OpenSpec.upto signBackSpec)

/-- 'barquelaw05.SignKept', WHERE WHAT IT READS IS OF BULK AT MOST 1048576: true; the input reads as it did. -/
def signKeptUptoRow : OpenClaim := { program := "ytfcfgkhdlpgbdaa", sum := "963f6bbecb095b663e32cc6a63a8f21d16c798f55296b8c36d90689a71a6ec35", func := "barque/barquelaw05.SignKept", spec := "signKept", unfollowed := true, recurses := true, apart := false, narrowed := true }
def SignKeptUptoSaid : Prop := signKeptUptoRow.holds Try.pinned (OpenSpec.upto signKeptSpec)

/-- 'barquelaw05.SignFinds', WHERE WHAT IT READS IS OF BULK AT MOST 1048576: true; the input reads as it did. -/
def signFindsUptoRow : OpenClaim := { program := "ytfcfgkhdlpgbdaa", sum := "963f6bbecb095b663e32cc6a63a8f21d16c798f55296b8c36d90689a71a6ec35", func := "barque/barquelaw05.SignFinds", spec := "signFinds", unfollowed := true, recurses := true, apart := false, narrowed := true }
def SignFindsUptoSaid : Prop := signFindsUptoRow.holds Try.pinned (OpenSpec.upto signFindsSpec)

/-- 'barquelaw05.SignMatches', WHERE WHAT IT READS IS OF BULK AT MOST 1048576: true; the input reads as it did. -/
def signMatchesUptoRow : OpenClaim := { program := "ytfcfgkhdlpgbdaa", sum := "963f6bbecb095b663e32cc6a63a8f21d16c798f55296b8c36d90689a71a6ec35", func := "barque/barquelaw05.SignMatches", spec := "signMatches", unfollowed := true, recurses := true, apart := false, narrowed := true }
def SignMatchesUptoSaid : Prop := signMatchesUptoRow.holds Try.pinned (OpenSpec.upto signMatchesSpec)

/-- 'barquelaw05.SignOwn', WHERE WHAT IT READS IS OF BULK AT MOST 1048576: true; the input reads as it did. -/
def signOwnUptoRow : OpenClaim := { program := "ytfcfgkhdlpgbdaa", sum := "963f6bbecb095b663e32cc6a63a8f21d16c798f55296b8c36d90689a71a6ec35", func := "barque/barquelaw05.SignOwn", spec := "signOwn", unfollowed := true, recurses := true, apart := false, narrowed := true }
def SignOwnUptoSaid : Prop := signOwnUptoRow.holds Try.pinned (OpenSpec.upto signOwnSpec)

end Rows
end Go.Proofs.Ytfcfgkhdlpgbdaa
