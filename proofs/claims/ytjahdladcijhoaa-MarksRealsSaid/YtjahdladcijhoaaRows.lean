/-
  No cell of these rows narrows 'for every input' (looked for: loops, veiled, ifaces, maps, wideKeys, modest, calm, conditions, laid).
  DERIVED. THE GIVEN ROWS OF THIS SEAT. 8 by the template 'for every input the law returns true; each argument reads behind the call as it read before'; 0 by the template 'total and deterministic' (their statements: YtjahdladcijhoaaTotals.lean).
  GIVEN WITH THE SEED: the statements are not yours to turn. If you find one false, say at which input.
  Laid BY PROGRAM, IN A SANDBOX (cutbox-rows.mjs): the forced cells as the released guide's own fill.sh prints them over the translation 94d9bdd6ece1d0b2… (all of the seat's roots in one cut). By AI agents, Wed Nov 11 2026. No macro, syntax, notation, axiom, sorry.
-/
import Derived.Test.YtjahdladcijhoaaChecked
import GoSem.Claim
import GoSem.ClaimJoined
import GoSem.ClaimMapViews
import Derived.JoinedTies
import Derived.KernelRfl
namespace Go.Proofs.Ytjahdladcijhoaa
/- THE CELL 'sum', in the pinned program and in every row, IS THE sha256 OF THE DUMP (.gsa) THAT YtjahdladcijhoaaProg.lean LOADS. Nothing in Lean hashes anything: it is a label: what it is worth is what the hold of that sum in a sandbox is worth. -/
noncomputable def Try.pinned : Pinned := { name := "ytjahdladcijhoaa", sum := "94d9bdd6ece1d0b21b22db09049e4e416a081e25231e8708d0f8734a58f9c990", checked := Try.checked }
namespace Rows
def none {H : Type} : Left H := { results := [], args := [] }

/-- 'barquelaw03.MarksApart': WHATEVER THE INPUT: true; the input reads as it did. -/
def marksApartSpec : ChangeSpec := { name := "marksApart", fn := fun _ => fun
  | [d] => { results := [.lit (.bool true)], args := [d] }
  | _ => none }
def marksApartRow : OpenClaim := { program := "ytjahdladcijhoaa", sum := "94d9bdd6ece1d0b21b22db09049e4e416a081e25231e8708d0f8734a58f9c990", func := "barque/barquelaw03.MarksApart", spec := "marksApart", apart := false }
def MarksApartSaid : Prop := marksApartRow.holds Try.pinned (OpenSpec.ofChange marksApartSpec)

/-- ITS FALSE NEIGHBOUR: 'it returns false'. Refute it at one input. -/
def marksApartWrong : ChangeSpec := { name := "marksApart", fn := fun _ => fun
  | [d] => { results := [.lit (.bool false)], args := [d] }
  | _ => none }
def MarksApartWrongFalsely : Prop := marksApartRow.holds Try.pinned (OpenSpec.ofChange marksApartWrong)

/-- 'barquelaw03.MarksHonest': WHATEVER THE INPUT: true; the input reads as it did. -/
def marksHonestSpec : ChangeSpec := { name := "marksHonest", fn := fun _ => fun
  | [d1, d2, d3] => { results := [.lit (.bool true)], args := [d1, d2, d3] }
  | _ => none }
def marksHonestRow : OpenClaim := { program := "ytjahdladcijhoaa", sum := "94d9bdd6ece1d0b21b22db09049e4e416a081e25231e8708d0f8734a58f9c990", func := "barque/barquelaw03.MarksHonest", spec := "marksHonest", apart := false }
def MarksHonestSaid : Prop := marksHonestRow.holds Try.pinned (OpenSpec.ofChange marksHonestSpec)

/-- ITS FALSE NEIGHBOUR: 'it returns false'. Refute it at one input. -/
def marksHonestWrong : ChangeSpec := { name := "marksHonest", fn := fun _ => fun
  | [d1, d2, d3] => { results := [.lit (.bool false)], args := [d1, d2, d3] }
  | _ => none }
def MarksHonestWrongFalsely : Prop := marksHonestRow.holds Try.pinned (OpenSpec.ofChange marksHonestWrong)

/-- 'barquelaw03.MarksTwo': WHATEVER THE INPUT: true; the input reads as it did. -/
def marksTwoSpec : ChangeSpec := { name := "marksTwo", fn := fun _ => fun
  | [d1, d2] => { results := [.lit (.bool true)], args := [d1, d2] }
  | _ => none }
def marksTwoRow : OpenClaim := { program := "ytjahdladcijhoaa", sum := "94d9bdd6ece1d0b21b22db09049e4e416a081e25231e8708d0f8734a58f9c990", func := "barque/barquelaw03.MarksTwo", spec := "marksTwo", apart := false }
def MarksTwoSaid : Prop := marksTwoRow.holds Try.pinned (OpenSpec.ofChange marksTwoSpec)

/-- ITS FALSE NEIGHBOUR: 'it returns false'. Refute it at one input. -/
def marksTwoWrong : ChangeSpec := { name := "marksTwo", fn := fun _ => fun
  | [d1, d2] => { results := [.lit (.bool false)], args := [d1, d2] }
  | _ => none }
def MarksTwoWrongFalsely : Prop := marksTwoRow.holds Try.pinned (OpenSpec.ofChange marksTwoWrong)

/-- 'barquelaw03.MarksAsks': WHATEVER THE INPUT: true; the input reads as it did. -/
def marksAsksSpec : ChangeSpec := { name := "marksAsks", fn := fun _ => fun
  | [d1, d2] => { results := [.lit (.bool true)], args := [d1, d2] }
  | _ => none }
def marksAsksRow : OpenClaim := { program := "ytjahdladcijhoaa", sum := "94d9bdd6ece1d0b21b22db09049e4e416a081e25231e8708d0f8734a58f9c990", func := "barque/barquelaw03.MarksAsks", spec := "marksAsks", apart := false }
def MarksAsksSaid : Prop := marksAsksRow.holds Try.pinned (OpenSpec.ofChange marksAsksSpec)

/-- ITS FALSE NEIGHBOUR: 'it returns false'. Refute it at one input. -/
def marksAsksWrong : ChangeSpec := { name := "marksAsks", fn := fun _ => fun
  | [d1, d2] => { results := [.lit (.bool false)], args := [d1, d2] }
  | _ => none }
def MarksAsksWrongFalsely : Prop := marksAsksRow.holds Try.pinned (OpenSpec.ofChange marksAsksWrong)

/-- 'barquelaw03.MarksIdeals': WHATEVER THE INPUT: true; the input reads as it did. -/
def marksIdealsSpec : ChangeSpec := { name := "marksIdeals", fn := fun _ => fun
  | [d] => { results := [.lit (.bool true)], args := [d] }
  | _ => none }
def marksIdealsRow : OpenClaim := { program := "ytjahdladcijhoaa", sum := "94d9bdd6ece1d0b21b22db09049e4e416a081e25231e8708d0f8734a58f9c990", func := "barque/barquelaw03.MarksIdeals", spec := "marksIdeals", apart := false }
def MarksIdealsSaid : Prop := marksIdealsRow.holds Try.pinned (OpenSpec.ofChange marksIdealsSpec)

/-- ITS FALSE NEIGHBOUR: 'it returns false'. Refute it at one input. -/
def marksIdealsWrong : ChangeSpec := { name := "marksIdeals", fn := fun _ => fun
  | [d] => { results := [.lit (.bool false)], args := [d] }
  | _ => none }
def MarksIdealsWrongFalsely : Prop := marksIdealsRow.holds Try.pinned (OpenSpec.ofChange marksIdealsWrong)

/-- 'barquelaw03.MarksNobody': WHATEVER THE INPUT: true; the input reads as it did. -/
def marksNobodySpec : ChangeSpec := { name := "marksNobody", fn := fun _ => fun
  | [d1, d2] => { results := [.lit (.bool true)], args := [d1, d2] }
  | _ => none }
def marksNobodyRow : OpenClaim := { program := "ytjahdladcijhoaa", sum := "94d9bdd6ece1d0b21b22db09049e4e416a081e25231e8708d0f8734a58f9c990", func := "barque/barquelaw03.MarksNobody", spec := "marksNobody", apart := false }
def MarksNobodySaid : Prop := marksNobodyRow.holds Try.pinned (OpenSpec.ofChange marksNobodySpec)

/-- ITS FALSE NEIGHBOUR: 'it returns false'. Refute it at one input. -/
def marksNobodyWrong : ChangeSpec := { name := "marksNobody", fn := fun _ => fun
  | [d1, d2] => { results := [.lit (.bool false)], args := [d1, d2] }
  | _ => none }
def MarksNobodyWrongFalsely : Prop := marksNobodyRow.holds Try.pinned (OpenSpec.ofChange marksNobodyWrong)

/-- 'barquelaw03.MarksSums': WHATEVER THE INPUT: true; the input reads as it did. -/
def marksSumsSpec : ChangeSpec := { name := "marksSums", fn := fun _ => fun
  | [d] => { results := [.lit (.bool true)], args := [d] }
  | _ => none }
def marksSumsRow : OpenClaim := { program := "ytjahdladcijhoaa", sum := "94d9bdd6ece1d0b21b22db09049e4e416a081e25231e8708d0f8734a58f9c990", func := "barque/barquelaw03.MarksSums", spec := "marksSums", inPlace := ["math/bits.Add64"], unfollowed := true, recurses := true, apart := false }
def MarksSumsSaid : Prop := marksSumsRow.holds Try.pinned (OpenSpec.ofChange marksSumsSpec)

/-- ITS FALSE NEIGHBOUR: 'it returns false'. Refute it at one input. -/
def marksSumsWrong : ChangeSpec := { name := "marksSums", fn := fun _ => fun
  | [d] => { results := [.lit (.bool false)], args := [d] }
  | _ => none }
def MarksSumsWrongFalsely : Prop := marksSumsRow.holds Try.pinned (OpenSpec.ofChange marksSumsWrong)

/-- 'barquelaw03.MarksReals': WHATEVER THE INPUT: true; the input reads as it did. -/
def marksRealsSpec : ChangeSpec := { name := "marksReals", fn := fun _ => fun
  | [d] => { results := [.lit (.bool true)], args := [d] }
  | _ => none }
def marksRealsRow : OpenClaim := { program := "ytjahdladcijhoaa", sum := "94d9bdd6ece1d0b21b22db09049e4e416a081e25231e8708d0f8734a58f9c990", func := "barque/barquelaw03.MarksReals", spec := "marksReals", inPlace := ["math/bits.Add64"], unfollowed := true, recurses := true, apart := false }
def MarksRealsSaid : Prop := marksRealsRow.holds Try.pinned (OpenSpec.ofChange marksRealsSpec)

/-- ITS FALSE NEIGHBOUR: 'it returns false'. Refute it at one input. -/
def marksRealsWrong : ChangeSpec := { name := "marksReals", fn := fun _ => fun
  | [d] => { results := [.lit (.bool false)], args := [d] }
  | _ => none }
def MarksRealsWrongFalsely : Prop := marksRealsRow.holds Try.pinned (OpenSpec.ofChange marksRealsWrong)

/- THE SECOND FORM. 'bulk': how many values and letters a reading holds, each counted each time it is reached (what is shared counts as often as it is met; a slice's spare places count too). A statement '..UptoSaid' is the law's where the arguments, and the package variables that the reading takes, are together of bulk at most 1048576: NARROWER than '..Said'. Prove '..Said' where nothing that the law and all that it calls make is longer than what came in: it says more and counts as full. Else prove '..UptoSaid'. A law counts once. -/
mutual
def uptoBulk {H : Type} : DataW H → Nat
  | .lit (.string bytes) => bytes.length + 1
  | .lit _ => 1
  | .nil => 1
  | .ptr d => uptoBulk d + 1
  | .slice elems spare => uptoBulkAll elems + uptoBulkAll spare + 1
  | .agg parts => uptoBulkAll parts + 1
  | .iface _ d => uptoBulk d + 1
  | .map entries => uptoBulkEntries entries + 1
  | .held _ => 1
def uptoBulkAll {H : Type} : List (DataW H) → Nat
  | [] => 0
  | d :: r => uptoBulk d + uptoBulkAll r
def uptoBulkEntries {H : Type} : List (Lit × DataW H) → Nat
  | [] => 0
  | x :: r => uptoBulkEntry x + uptoBulkEntries r
def uptoBulkEntry {H : Type} : Lit × DataW H → Nat
  | (.string bytes, d) => bytes.length + uptoBulk d + 1
  | (_, d) => uptoBulk d + 1
 end
def uptoSmall : (H : Type) → List (DataW H) → Bool := fun _ ds => decide (uptoBulkAll ds ≤ 1048576)
def OpenSpec.upto (s : _root_.Go.ChangeSpec) : _root_.Go.OpenSpec := { _root_.Go.OpenSpec.ofChange s with cond := some uptoSmall }

/-- 'barquelaw03.MarksApart', WHERE WHAT IT READS IS OF BULK AT MOST 1048576: true; the input reads as it did. -/
def marksApartUptoRow : OpenClaim := { program := "ytjahdladcijhoaa", sum := "94d9bdd6ece1d0b21b22db09049e4e416a081e25231e8708d0f8734a58f9c990", func := "barque/barquelaw03.MarksApart", spec := "marksApart", apart := false, narrowed := true }
def MarksApartUptoSaid : Prop := marksApartUptoRow.holds Try.pinned (OpenSpec.upto marksApartSpec)

/-- 'barquelaw03.MarksHonest', WHERE WHAT IT READS IS OF BULK AT MOST 1048576: true; the input reads as it did. -/
def marksHonestUptoRow : OpenClaim := { program := "ytjahdladcijhoaa", sum := "94d9bdd6ece1d0b21b22db09049e4e416a081e25231e8708d0f8734a58f9c990", func := "barque/barquelaw03.MarksHonest", spec := "marksHonest", apart := false, narrowed := true }
def MarksHonestUptoSaid : Prop := marksHonestUptoRow.holds Try.pinned (OpenSpec.upto marksHonestSpec)

/-- 'barquelaw03.MarksTwo', WHERE WHAT IT READS IS OF BULK AT MOST 1048576: true; the input reads as it did. -/
def marksTwoUptoRow : OpenClaim := { program := "ytjahdladcijhoaa", sum := "94d9bdd6ece1d0b21b22db09049e4e416a081e25231e8708d0f8734a58f9c990", func := "barque/barquelaw03.MarksTwo", spec := "marksTwo", apart := false, narrowed := true }
def MarksTwoUptoSaid : Prop := marksTwoUptoRow.holds Try.pinned (OpenSpec.upto marksTwoSpec)

/-- 'barquelaw03.MarksAsks', WHERE WHAT IT READS IS OF BULK AT MOST 1048576: true; the input reads as it did. -/
def marksAsksUptoRow : OpenClaim := { program := "ytjahdladcijhoaa", sum := "94d9bdd6ece1d0b21b22db09049e4e416a081e25231e8708d0f8734a58f9c990", func := "barque/barquelaw03.MarksAsks", spec := "marksAsks", apart := false, narrowed := true }
def MarksAsksUptoSaid : Prop := marksAsksUptoRow.holds Try.pinned (OpenSpec.upto marksAsksSpec)

/-- 'barquelaw03.MarksIdeals', WHERE WHAT IT READS IS OF BULK AT MOST 1048576: true; the input reads as it did. -/
def marksIdealsUptoRow : OpenClaim := { program := "ytjahdladcijhoaa", sum := "94d9bdd6ece1d0b21b22db09049e4e416a081e25231e8708d0f8734a58f9c990", func := "barque/barquelaw03.MarksIdeals", spec := "marksIdeals", apart := false, narrowed := true }
def MarksIdealsUptoSaid : Prop := marksIdealsUptoRow.holds Try.pinned (OpenSpec.upto marksIdealsSpec)

/-- 'barquelaw03.MarksNobody', WHERE WHAT IT READS IS OF BULK AT MOST 1048576: true; the input reads as it did. -/
def marksNobodyUptoRow : OpenClaim := { program := "ytjahdladcijhoaa", sum := "94d9bdd6ece1d0b21b22db09049e4e416a081e25231e8708d0f8734a58f9c990", func := "barque/barquelaw03.MarksNobody", spec := "marksNobody", apart := false, narrowed := true }
def MarksNobodyUptoSaid : Prop := marksNobodyUptoRow.holds Try.pinned (OpenSpec.upto marksNobodySpec)

/-- 'barquelaw03.MarksSums', WHERE WHAT IT READS IS OF BULK AT MOST 1048576: true; the input reads as it did. -/
def marksSumsUptoRow : OpenClaim := { program := "ytjahdladcijhoaa", sum := "94d9bdd6ece1d0b21b22db09049e4e416a081e25231e8708d0f8734a58f9c990", func := "barque/barquelaw03.MarksSums", spec := "marksSums", inPlace := ["math/bits.Add64"], unfollowed := true, recurses := true, apart := false, narrowed := true }
def MarksSumsUptoSaid : Prop := marksSumsUptoRow.holds Try.pinned (OpenSpec.upto marksSumsSpec)

/-- 'barquelaw03.MarksReals', WHERE WHAT IT READS IS OF BULK AT MOST 1048576: true; the input reads as it did. -/
def marksRealsUptoRow : OpenClaim := { program := "ytjahdladcijhoaa", sum := "94d9bdd6ece1d0b21b22db09049e4e416a081e25231e8708d0f8734a58f9c990", func := "barque/barquelaw03.MarksReals", spec := "marksReals", inPlace := ["math/bits.Add64"], unfollowed := true, recurses := true, apart := false, narrowed := true }
def MarksRealsUptoSaid : Prop := marksRealsUptoRow.holds Try.pinned (OpenSpec.upto marksRealsSpec)

end Rows
end Go.Proofs.Ytjahdladcijhoaa
