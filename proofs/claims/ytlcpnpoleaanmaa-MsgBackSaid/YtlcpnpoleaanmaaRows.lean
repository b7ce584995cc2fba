/-
  No cell of these rows narrows 'for every input' (looked for: loops, veiled, ifaces, maps, wideKeys, modest, calm, conditions, laid).
  DERIVED. THE GIVEN ROWS OF THIS SEAT. 8 by the template 'for every input the law returns true; each argument reads behind the call as it read before'; 0 by the template 'total and deterministic' (their statements: YtlcpnpoleaanmaaTotals.lean).
  GIVEN WITH THE SEED: the statements are not yours to turn. If you find one false, say at which input.
  Laid BY PROGRAM, IN A SANDBOX (cutbox-rows.mjs): the forced cells as the released guide's own fill.sh prints them over the translation 5009266b7e0eba19… (all of the seat's roots in one cut). By AI agents, Wed Nov 11 2026. No macro, syntax, notation, axiom, sorry.
-/
import Derived.Test.YtlcpnpoleaanmaaChecked
import GoSem.Claim
import GoSem.ClaimJoined
import GoSem.ClaimMapViews
import Derived.JoinedTies
import Derived.KernelRfl
namespace Go.Proofs.Ytlcpnpoleaanmaa
/- THE CELL 'sum', in the pinned program and in every row, IS THE sha256 OF THE DUMP (.gsa) THAT YtlcpnpoleaanmaaProg.lean LOADS. Nothing in Lean hashes anything: it is a label: what it is worth is what the hold of that sum in a sandbox is worth. -/
noncomputable def Try.pinned : Pinned := { name := "ytlcpnpoleaanmaa", sum := "5009266b7e0eba19f4fe7da5bd2f31b7446c3cbfbc6253965952aefa8ca0cc94", checked := Try.checked }
namespace Rows
def none {H : Type} : Left H := { results := [], args := [] }

/-- 'barquelaw17.MsgRights': WHATEVER THE INPUT: true; the input reads as it did. -/
def msgRightsSpec : ChangeSpec := { name := "msgRights", fn := fun _ => fun
  | [d] => { results := [.lit (.bool true)], args := [d] }
  | _ => none }
def msgRightsRow : OpenClaim := { program := "ytlcpnpoleaanmaa", sum := "5009266b7e0eba19f4fe7da5bd2f31b7446c3cbfbc6253965952aefa8ca0cc94", func := "barque/barquelaw17.MsgRights", spec := "msgRights", inPlace := ["internal/bytealg.IndexByteString", "internal/abi.NoEscape"], unfollowed := true, recurses := true, apart := false }
def MsgRightsSaid : Prop := msgRightsRow.holds Try.pinned (OpenSpec.ofChange msgRightsSpec)

/-- ITS FALSE NEIGHBOUR: 'it returns false'. Refute it at one input. -/
def msgRightsWrong : ChangeSpec := { name := "msgRights", fn := fun _ => fun
  | [d] => { results := [.lit (.bool false)], args := [d] }
  | _ => none }
def MsgRightsWrongFalsely : Prop := msgRightsRow.holds Try.pinned (OpenSpec.ofChange msgRightsWrong)

/-- 'barquelaw17.MsgUnlike': WHATEVER THE INPUT: true; the input reads as it did. -/
def msgUnlikeSpec : ChangeSpec := { name := "msgUnlike", fn := fun _ => fun
  | [d1, d2] => { results := [.lit (.bool true)], args := [d1, d2] }
  | _ => none }
def msgUnlikeRow : OpenClaim := { program := "ytlcpnpoleaanmaa", sum := "5009266b7e0eba19f4fe7da5bd2f31b7446c3cbfbc6253965952aefa8ca0cc94", func := "barque/barquelaw17.MsgUnlike", spec := "msgUnlike", inPlace := ["internal/bytealg.IndexByteString", "internal/abi.NoEscape"], unfollowed := true, recurses := true, apart := false }
def MsgUnlikeSaid : Prop := msgUnlikeRow.holds Try.pinned (OpenSpec.ofChange msgUnlikeSpec)

/-- ITS FALSE NEIGHBOUR: 'it returns false'. Refute it at one input. -/
def msgUnlikeWrong : ChangeSpec := { name := "msgUnlike", fn := fun _ => fun
  | [d1, d2] => { results := [.lit (.bool false)], args := [d1, d2] }
  | _ => none }
def MsgUnlikeWrongFalsely : Prop := msgUnlikeRow.holds Try.pinned (OpenSpec.ofChange msgUnlikeWrong)

/-- 'barquelaw17.MsgBytes': WHATEVER THE INPUT: true; the input reads as it did. -/
def msgBytesSpec : ChangeSpec := { name := "msgBytes", fn := fun _ => fun
  | [d] => { results := [.lit (.bool true)], args := [d] }
  | _ => none }
def msgBytesRow : OpenClaim := { program := "ytlcpnpoleaanmaa", sum := "5009266b7e0eba19f4fe7da5bd2f31b7446c3cbfbc6253965952aefa8ca0cc94", func := "barque/barquelaw17.MsgBytes", spec := "msgBytes", inPlace := ["internal/bytealg.IndexByteString", "internal/abi.NoEscape"], unfollowed := true, recurses := true, apart := false }
def MsgBytesSaid : Prop := msgBytesRow.holds Try.pinned (OpenSpec.ofChange msgBytesSpec)

/-- ITS FALSE NEIGHBOUR: 'it returns false'. Refute it at one input. -/
def msgBytesWrong : ChangeSpec := { name := "msgBytes", fn := fun _ => fun
  | [d] => { results := [.lit (.bool false)], args := [d] }
  | _ => none }
def MsgBytesWrongFalsely : Prop := msgBytesRow.holds Try.pinned (OpenSpec.ofChange msgBytesWrong)

/-- 'barquelaw17.MsgCleans': WHATEVER THE INPUT: true; the input reads as it did. -/
def msgCleansSpec : ChangeSpec := { name := "msgCleans", fn := fun _ => fun
  | [d] => { results := [.lit (.bool true)], args := [d] }
  | _ => none }
def msgCleansRow : OpenClaim := { program := "ytlcpnpoleaanmaa", sum := "5009266b7e0eba19f4fe7da5bd2f31b7446c3cbfbc6253965952aefa8ca0cc94", func := "barque/barquelaw17.MsgCleans", spec := "msgCleans", inPlace := ["internal/bytealg.IndexByteString", "internal/abi.NoEscape"], unfollowed := true, recurses := true, apart := false }
def MsgCleansSaid : Prop := msgCleansRow.holds Try.pinned (OpenSpec.ofChange msgCleansSpec)

/-- ITS FALSE NEIGHBOUR: 'it returns false'. Refute it at one input. -/
def msgCleansWrong : ChangeSpec := { name := "msgCleans", fn := fun _ => fun
  | [d] => { results := [.lit (.bool false)], args := [d] }
  | _ => none }
def MsgCleansWrongFalsely : Prop := msgCleansRow.holds Try.pinned (OpenSpec.ofChange msgCleansWrong)

/-- 'barquelaw17.MsgReads': WHATEVER THE INPUT: true; the input reads as it did. -/
def msgReadsSpec : ChangeSpec := { name := "msgReads", fn := fun _ => fun
  | [d] => { results := [.lit (.bool true)], args := [d] }
  | _ => none }
def msgReadsRow : OpenClaim := { program := "ytlcpnpoleaanmaa", sum := "5009266b7e0eba19f4fe7da5bd2f31b7446c3cbfbc6253965952aefa8ca0cc94", func := "barque/barquelaw17.MsgReads", spec := "msgReads", inPlace := ["internal/bytealg.IndexByteString", "internal/abi.NoEscape"], unfollowed := true, recurses := true, apart := false }
def MsgReadsSaid : Prop := msgReadsRow.holds Try.pinned (OpenSpec.ofChange msgReadsSpec)

/-- ITS FALSE NEIGHBOUR: 'it returns false'. Refute it at one input. -/
def msgReadsWrong : ChangeSpec := { name := "msgReads", fn := fun _ => fun
  | [d] => { results := [.lit (.bool false)], args := [d] }
  | _ => none }
def MsgReadsWrongFalsely : Prop := msgReadsRow.holds Try.pinned (OpenSpec.ofChange msgReadsWrong)

/-- 'barquelaw17.MsgForged': WHATEVER THE INPUT: true; the input reads as it did. -/
def msgForgedSpec : ChangeSpec := { name := "msgForged", fn := fun _ => fun
  | [d1, d2, d3, d4, d5] => { results := [.lit (.bool true)], args := [d1, d2, d3, d4, d5] }
  | _ => none }
def msgForgedRow : OpenClaim := { program := "ytlcpnpoleaanmaa", sum := "5009266b7e0eba19f4fe7da5bd2f31b7446c3cbfbc6253965952aefa8ca0cc94", func := "barque/barquelaw17.MsgForged", spec := "msgForged", inPlace := ["internal/bytealg.IndexByteString", "internal/abi.NoEscape"], unfollowed := true, recurses := true, apart := false }
def MsgForgedSaid : Prop := msgForgedRow.holds Try.pinned (OpenSpec.ofChange msgForgedSpec)

/-- ITS FALSE NEIGHBOUR: 'it returns false'. Refute it at one input. -/
def msgForgedWrong : ChangeSpec := { name := "msgForged", fn := fun _ => fun
  | [d1, d2, d3, d4, d5] => { results := [.lit (.bool false)], args := [d1, d2, d3, d4, d5] }
  | _ => none }
def MsgForgedWrongFalsely : Prop := msgForgedRow.holds Try.pinned (OpenSpec.ofChange msgForgedWrong)

/-- 'barquelaw17.MsgNobody': WHATEVER THE INPUT: true; the input reads as it did. -/
def msgNobodySpec : ChangeSpec := { name := "msgNobody", fn := fun _ => fun
  | [d1, d2] => { results := [.lit (.bool true)], args := [d1, d2] }
  | _ => none }
def msgNobodyRow : OpenClaim := { program := "ytlcpnpoleaanmaa", sum := "5009266b7e0eba19f4fe7da5bd2f31b7446c3cbfbc6253965952aefa8ca0cc94", func := "barque/barquelaw17.MsgNobody", spec := "msgNobody", inPlace := ["internal/bytealg.IndexByteString", "internal/abi.NoEscape"], unfollowed := true, recurses := true, apart := false }
def MsgNobodySaid : Prop := msgNobodyRow.holds Try.pinned (OpenSpec.ofChange msgNobodySpec)

/-- ITS FALSE NEIGHBOUR: 'it returns false'. Refute it at one input. -/
def msgNobodyWrong : ChangeSpec := { name := "msgNobody", fn := fun _ => fun
  | [d1, d2] => { results := [.lit (.bool false)], args := [d1, d2] }
  | _ => none }
def MsgNobodyWrongFalsely : Prop := msgNobodyRow.holds Try.pinned (OpenSpec.ofChange msgNobodyWrong)

/-- 'barquelaw17.MsgBack': WHATEVER THE INPUT: true; the input reads as it did. -/
def msgBackSpec : ChangeSpec := { name := "msgBack", fn := fun _ => fun
  | [d1, d2] => { results := [.lit (.bool true)], args := [d1, d2] }
  | _ => none }
def msgBackRow : OpenClaim := { program := "ytlcpnpoleaanmaa", sum := "5009266b7e0eba19f4fe7da5bd2f31b7446c3cbfbc6253965952aefa8ca0cc94", func := "barque/barquelaw17.MsgBack", spec := "msgBack", inPlace := ["math/bits.Add64", "internal/bytealg.IndexByteString", "internal/abi.NoEscape"], unfollowed := true, recurses := true, apart := false }
def MsgBackSaid : Prop := msgBackRow.holds Try.pinned (OpenSpec.ofChange msgBackSpec)

/-- ITS FALSE NEIGHBOUR: 'it returns false'. Refute it at one input. -/
def msgBackWrong : ChangeSpec := { name := "msgBack", fn := fun _ => fun
  | [d1, d2] => { results := [.lit (.bool false)], args := [d1, d2] }
  | _ => none }
def MsgBackWrongFalsely : Prop := msgBackRow.holds Try.pinned (OpenSpec.ofChange msgBackWrong)

/- THE SECOND FORM. 'bulk': how many values and letters a reading holds, each counted each time it is reached (what is shared counts as often as it is met; a slice's spare places count too). A statement '..UptoSaid' is the law's where the arguments, and the package variables that the reading takes, are together of bulk at most 1048576: NARROWER than '..Said'. Prove '..Said' where nothing that the law and all that it calls make is longer than what came in: it says more and counts as full. Else prove '..UptoSaid'. A law counts once. -/
mutual
def uptoBulk {H : Type} : DataW H → Nat
  | .lit (.string bytes) => bytes.length + 1
  | .lit _ => 1
  | .nil => 1
  | .ptr d => uptoBulk d + 1
  | .slice elems spare => uptoBulkAll elems + uptoBulkAll spare + 1
  | .agg parts => uptoBulkAll parts + 1
  | .iface _ d => uptoBulk d + 1
  | .map entries => uptoBulkEntries entries + 1
  | .held _ => 1
def uptoBulkAll {H : Type} : List (DataW H) → Nat
  | [] => 0
  | d :: r => uptoBulk d + uptoBulkAll r
def uptoBulkEntries {H : Type} : List (Lit × DataW H) → Nat
  | [] => 0
  | x :: r => uptoBulkEntry x + uptoBulkEntries r
def uptoBulkEntry {H : Type} : Lit × DataW H → Nat
  | (.string bytes, d) => bytes.length + uptoBulk d + 1
  | (_, d) => uptoBulk d + 1
 end
def uptoSmall : (H : Type) → List (DataW H) → Bool := fun _ ds => decide (uptoBulkAll ds ≤ 1048576)
def OpenSpec.upto (s : _root_.Go.ChangeSpec) : _root_.Go.OpenSpec := { _root_.Go.OpenSpec.ofChange s with cond := some uptoSmall }

/-- 'barquelaw17.MsgRights', WHERE WHAT IT READS IS OF BULK AT MOST 1048576: true; the input reads as it did. -/
def msgRightsUptoRow : OpenClaim := { program := "ytlcpnpoleaanmaa", sum := "5009266b7e0eba19f4fe7da5bd2f31b7446c3cbfbc6253965952aefa8ca0cc94", func := "barque/barquelaw17.MsgRights", spec := "msgRights", inPlace := ["internal/bytealg.IndexByteString", "internal/abi.NoEscape"], unfollowed := true, recurses := true, apart := false, narrowed := true }
def MsgRightsUptoSaid : Prop := msgRightsUptoRow.holds Try.pinned (OpenSpec.upto msgRightsSpec)

/-- 'barquelaw17.MsgUnlike', WHERE WHAT IT READS IS OF BULK AT MOST 1048576: true; the input reads as it did. -/
def msgUnlikeUptoRow : OpenClaim := { program := "ytlcpnpoleaanmaa", sum := "5009266b7e0eba19f4fe7da5bd2f31b7446c3cbfbc6253965952aefa8ca0cc94", func := "barque/barquelaw17.MsgUnlike", spec := "msgUnlike", inPlace := ["internal/bytealg.IndexByteString", "internal/abi.NoEscape"], unfollowed := true, recurses := true, apart := false, narrowed := true }
def MsgUnlikeUptoSaid : Prop := msgUnlikeUptoRow.holds Try.pinned (OpenSpec.upto msgUnlikeSpec)

/-- 'barquelaw17.MsgBytes', WHERE WHAT IT READS IS OF BULK AT MOST 1048576: true; the input reads as it did. -/
def msgBytesUptoRow : OpenClaim := { program := "ytlcpnpoleaanmaa", sum := "5009266b7e0eba19f4fe7da5bd2f31b7446c3cbfbc6253965952aefa8ca0cc94", func := "barque/barquelaw17.MsgBytes", spec := "msgBytes", inPlace := ["internal/bytealg.IndexByteString", "internal/abi.NoEscape"], unfollowed := true, recurses := true, apart := false, narrowed := true }
def MsgBytesUptoSaid : Prop := msgBytesUptoRow.holds Try.pinned (OpenSpec.upto msgBytesSpec)

/-- 'barquelaw17.MsgCleans', WHERE WHAT IT READS IS OF BULK AT MOST 1048576: true; the input reads as it did. -/
def msgCleansUptoRow : OpenClaim := { program := "ytlcpnpoleaanmaa", sum := "5009266b7e0eba19f4fe7da5bd2f31b7446c3cbfbc6253965952aefa8ca0cc94", func := "barque/barquelaw17.MsgCleans", spec := "msgCleans", inPlace := ["internal/bytealg.IndexByteString", "internal/abi.NoEscape"], unfollowed := true, recurses := true, apart := false, narrowed := true }
def MsgCleansUptoSaid : Prop := msgCleansUptoRow.holds Try.pinned (OpenSpec.upto msgCleansSpec)

/-- 'barquelaw17.MsgReads', WHERE WHAT IT READS IS OF BULK AT MOST 1048576: true; the input reads as it did. -/
def msgReadsUptoRow : OpenClaim := { program := "ytlcpnpoleaanmaa", sum := "5009266b7e0eba19f4fe7da5bd2f31b7446c3cbfbc6253965952aefa8ca0cc94", func := "barque/barquelaw17.MsgReads", spec := "msgReads", inPlace := ["internal/bytealg.IndexByteString", "internal/abi.NoEscape"], unfollowed := true, recurses := true, apart := false, narrowed := true }
def MsgReadsUptoSaid : Prop := msgReadsUptoRow.holds Try.pinned (OpenSpec.upto msgReadsSpec)

/-- 'barquelaw17.MsgForged', WHERE WHAT IT READS IS OF BULK AT MOST 1048576: true; the input reads as it did. -/
def msgForgedUptoRow : OpenClaim := { program := "ytlcpnpoleaanmaa", sum := "5009266b7e0eba19f4fe7da5bd2f31b7446c3cbfbc6253965952aefa8ca0cc94", func := "barque/barquelaw17.MsgForged", spec := "msgForged", inPlace := ["internal/bytealg.IndexByteString", "internal/abi.NoEscape"], unfollowed := true, recurses := true, apart := false, narrowed := true }
def MsgForgedUptoSaid : Prop := msgForgedUptoRow.holds Try.pinned (OpenSpec.upto msgForgedSpec)

/-- 'barquelaw17.MsgNobody', WHERE WHAT IT READS IS OF BULK AT MOST 1048576: true; the input reads as it did. -/
def msgNobodyUptoRow : OpenClaim := { program := "ytlcpnpoleaanmaa", sum := "5009266b7e0eba19f4fe7da5bd2f31b7446c3cbfbc6253965952aefa8ca0cc94", func := "barque/barquelaw17.MsgNobody", spec := "msgNobody", inPlace := ["internal/bytealg.IndexByteString", "internal/abi.NoEscape"], unfollowed := true, recurses := true, apart := false, narrowed := true }
def MsgNobodyUptoSaid : Prop := msgNobodyUptoRow.holds Try.pinned (OpenSpec.upto msgNobodySpec)

/-- 'barquelaw17.MsgBack', WHERE WHAT IT READS IS OF BULK AT MOST 1048576: true; the input reads as it did. -/
def msgBackUptoRow : OpenClaim := { program := "ytlcpnpoleaanmaa", sum := "5009266b7e0eba19f4fe7da5bd2f31b7446c3cbfbc6253965952aefa8ca0cc94", func := "barque/barquelaw17.MsgBack", spec := "msgBack", inPlace := ["math/bits.Add64", "internal/bytealg.IndexByteString", "internal/abi.NoEscape"], unfollowed := true, recurses := true, apart := false, narrowed := true }
def MsgBackUptoSaid : Prop := msgBackUptoRow.holds Try.pinned (OpenSpec.upto msgBackSpec)

end Rows
end Go.Proofs.Ytlcpnpoleaanmaa
