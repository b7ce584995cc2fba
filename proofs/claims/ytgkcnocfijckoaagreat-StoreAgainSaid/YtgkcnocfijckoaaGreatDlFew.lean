/- few: a delta of at most 200 steps; deltas that came in. Conditions: as named in each theorem. -/
import Derived.Test.YtgkcnocfijckoaaGreatQI
import Derived.Test.YtgkcnocfijckoaaGreatDlRights
import Derived.Laws.Rows
namespace Go.Proofs.YtgkcnocfijckoaaGreat
open Go.RowKit Sg
set_option linter.unusedVariables false
set_option linter.unusedSimpArgs false
def cut200 (n : Nat) : Nat := if 200 < n then 200 else n
theorem cut200_le (n : Nat) : cut200 n ≤ n ∧ cut200 n ≤ 200 := by unfold cut200; split <;> omega
def dlK : Kd := .agg [.str, .str, .int .i64, .sl stK]
theorem delta_of {w : World} {c : Array Value} (h : Kd.ok w dlK c.toList) :
    ∃ (b m : ByteArray) (s : Int) (ao : Option Addr) (n cap : Nat) (l : List St), c = #[.string b, .string m, .int .i64 s, .slice ao n cap] ∧ b.size ≤ maxLen ∧ m.size ≤ maxLen ∧ (Lit.int .i64 s).wf = true ∧ Rs w ao n cap 3 l St.c ∧ ∀ x ∈ l, x.ok := by
  simp only [dlK, Kd.ok, Kd.okL, Kd.cells] at h
  obtain ⟨a, a', ha, _, ⟨b, rfl, hb⟩, a2, a2', rfl, _, ⟨m, rfl, hm⟩, a3, a3', rfl, _, ⟨s, rfl, hs⟩, a4, a4', rfl, _, ⟨ao, n, cap, rfl, hs1⟩, rfl⟩ := h
  have h1 : (Kd.sl stK).ok w [.slice ao n cap] := by simp only [Kd.ok, Kd.cells]; exact ⟨ao, n, cap, rfl, hs1⟩
  obtain ⟨l, hl, hok⟩ := steps_of h1
  refine ⟨b, m, s, ao, n, cap, l, ?_, hb, hm, hs, hl, hok⟩
  apply Array.ext'
  simpa using ha
theorem Rs.few {w : World} {ao : Option Addr} {n cap : Nat} {L : List St} (h : Rs w ao n cap 3 L St.c) : Rs w ao (cut200 n) cap 3 (L.take (cut200 n)) St.c := h.take (cut200_le n).1
theorem deltaZ_run (w : World) : (zeroValue 55).run Tryz.prog w = .ok (.agg #[.string ByteArray.empty, .string ByteArray.empty, .int .i64 0, .slice none 0 0]) w := by kernel_rfl
theorem delta_new2 (w : World) (o : Obj) : Blk ((w.alloc o).alloc (Obj.cells #[.string ByteArray.empty, .string ByteArray.empty, .int .i64 0, .slice none 0 0] 55)) (w.heap.size + 1) [.string ByteArray.empty, .string ByteArray.empty, .int .i64 0, .slice none 0 0] 55 := by
  have := Blk.new (w.alloc o) [.string ByteArray.empty, .string ByteArray.empty, .int .i64 0, .slice none 0 0] 55
  rw [World.size_alloc] at this
  exact this
end Go.Proofs.YtgkcnocfijckoaaGreat
