/- What the laws of messages lean on: Bytes told either way, Same told by a bit. Conditions: as named in each theorem. -/
import Derived.Test.YtlcpnpoleaanmaaMsgBytes
import Derived.Test.YtlcpnpoleaanmaaMsgSame
import Derived.Test.YtlcpnpoleaanmaaMsgMem
import Derived.Test.YtlcpnpoleaanmaaMsgArgs
import Derived.RegionTactic
namespace Go.Proofs.Ytlcpnpoleaanmaa
open Go.RowKit
set_option linter.unusedVariables false

theorem Blk.range {w : World} {p : Nat} {cs : List Value} {T : TypeId} (h : Blk w p cs T) : w.rangeAt p 0 cs := fun j v hv => by rw [Nat.zero_add]; exact h.cell hv
theorem step_want {P : Program} {ops : Array Oper} {o : Oper} {a : Act} {w : World} {K : Act → World → Prop} {Q : Exit → Act → World → Prop} {E : Prop} (hg : o.guard = none) (h : Oper.wp P o a w K Q) :
    if Region.wanted o (yielded ops a.tmps) = true then Oper.wp P o a w K Q else E := by
  have hw : Region.wanted o (yielded ops a.tmps) = true := by simp [Region.wanted, hg]
  rw [if_pos hw]; exact h
theorem boolOf (P : Prop) : ∃ b : Bool, b = true ↔ P := by
  rcases Classical.em P with h | h
  · exact ⟨true, fun _ => h, fun _ => rfl⟩
  · exact ⟨false, (fun h => by cases h), fun h2 => absurd h2 h⟩
theorem same_is (w : World) (m m2 : Mg) (ao : Option Addr) (n cap : Nat) (bo : Option Addr) (n2 cap2 : Nat) (hR : Rs w ao n cap 3 m.list enC) (hR2 : Rs w bo n2 cap2 3 m2.list enC) (hn : n ≤ 1000000000) (b : Bool) (hb : Hid (b = true ↔ m = m2)) :
    Calls Try.prog 17 #[.agg #[.int .i64 m.kind, .int .i64 m.src, .int .i64 m.dst, .int .i64 m.ballot, .int .i64 m.gen, .int .i64 m.basis, .int .i64 m.floor, .int .i64 m.top, .int .i64 m.read, .string m.mark, .int .i64 m.pat, .int .i64 m.pof, .string m.ptext, .slice ao n cap], .agg #[.int .i64 m2.kind, .int .i64 m2.src, .int .i64 m2.dst, .int .i64 m2.ballot, .int .i64 m2.gen, .int .i64 m2.basis, .int .i64 m2.floor, .int .i64 m2.top, .int .i64 m2.read, .string m2.mark, .int .i64 m2.pat, .int .i64 m2.pof, .string m2.ptext, .slice bo n2 cap2]] w fun e w' => e = .returned (.bool b) ∧ Below w.heap.size w w' := by
  refine (same_any w m m2 ao n cap bo n2 cap2 hR hR2 hn).mono ?_
  rintro e w' ⟨⟨r, rfl, hr⟩, hb2⟩
  have : r = b := by rw [Bool.eq_iff_iff, hr, hb.out]
  rw [this]; exact ⟨rfl, hb2⟩
/-- Bytes, whether the message may be or not -/
def BAny (w : World) (bp mm : Nat) (seen : List (List UInt8)) (m : Mg) (e : Ending) (w' : World) : Prop :=
  ∃ (s : ByteArray) (k : Nat) (seen' : List (List UInt8)), e = .returned (.tuple #[.string s, .int .i64 k]) ∧ (rightM m → k = 0 ∧ s = mgS m (seen.idxOf (bodyL m) + 1) ∧ seen' = addS seen (bodyL m)) ∧ (¬ rightM m → k = 1 ∧ s = ByteArray.empty ∧ seen' = seen) ∧ BookI w' bp mm seen' ∧ w.grownBy w' (some mm)
theorem bytes_either (w : World) (bp mm : Nat) (seen : List (List UInt8)) (hI : BookI w bp mm seen) (hs : seen.length ≤ 1000000000000) (m : Mg) (ao : Option Addr) (n cap : Nat) (hR : Rs w ao n cap 3 m.list enC) :
    Calls Try.prog 16 #[.pointer (some ⟨bp, 0, none⟩), .agg (mgC m (.slice ao n cap)).toArray] w (BAny w bp mm seen m) := by
  by_cases h : rightM m
  · refine (bytes_ideal w bp mm seen hI hs m ao n cap hR h).mono ?_
    rintro e w' ⟨rfl, h2, h3⟩
    exact ⟨_, 0, _, rfl, fun _ => ⟨rfl, rfl, rfl⟩, fun h4 => absurd h h4, h2, h3⟩
  · refine (bytes_no w _ m ao n cap hR h).mono ?_
    rintro e w' ⟨rfl, h2⟩
    exact ⟨_, 1, seen, rfl, fun h4 => absurd h4 h, fun _ => ⟨rfl, rfl, rfl⟩, hI.next h2, below_grown h2 _⟩
theorem mgS_eq {m m2 : Mg} {a b : Nat} (h : (mgS m a).data.toList = (mgS m2 b).data.toList) : bodyL m = bodyL m2 ∧ numB a = numB b := by
  rw [mgS_list, mgS_list] at h
  exact List.append_inj' h (by rw [numB_len, numB_len])
theorem Two.grown {w w' : World} {p1 p2 : Nat} {m m2 : Mg} {v v2 : Value} (h : Two w p1 p2 m m2 v v2) {row : Option Nat} (hg : w.grownBy w' row) (h1 : some p1 ≠ row) (h2 : some p2 ≠ row) : Two w' p1 p2 m m2 v v2 := ⟨h.1.grown hg h1, h.2.grown hg h2⟩
end Go.Proofs.Ytlcpnpoleaanmaa
