/- few: a delta of at most 200 steps; deltas that came in. Conditions: as named in each theorem. -/
import Derived.Test.YtgemhgllifhckaaDlLaw
import Derived.Test.YtgemhgllifhckaaDlRights
import Derived.Laws.Rows
namespace Go.Proofs.Ytgemhgllifhckaa
open Go.RowKit Sg
set_option linter.unusedVariables false
set_option linter.unusedSimpArgs false

def cut200 (n : Nat) : Nat := if 200 < n then 200 else n
theorem cut200_le (n : Nat) : cut200 n ≤ n ∧ cut200 n ≤ 200 := by unfold cut200; split <;> omega
def dlK : Kd := .agg [.str, .str, .int .i64, .sl stK]
theorem delta_of {w : World} {c : Array Value} (h : Kd.ok w dlK c.toList) :
    ∃ (b m : ByteArray) (s : Int) (ao : Option Addr) (n cap : Nat) (l : List St), c = #[.string b, .string m, .int .i64 s, .slice ao n cap] ∧ b.size ≤ maxLen ∧ m.size ≤ maxLen ∧ (Lit.int .i64 s).wf = true ∧ Rs w ao n cap 3 l St.c ∧ ∀ x ∈ l, x.ok := by
  simp only [dlK, Kd.ok, Kd.okL, Kd.cells] at h
  obtain ⟨a, a', ha, _, ⟨b, rfl, hb⟩, a2, a2', rfl, _, ⟨m, rfl, hm⟩, a3, a3', rfl, _, ⟨s, rfl, hs⟩, a4, a4', rfl, _, ⟨ao, n, cap, rfl, hs1⟩, rfl⟩ := h
  have h1 : (Kd.sl stK).ok w [.slice ao n cap] := by simp only [Kd.ok, Kd.cells]; exact ⟨ao, n, cap, rfl, hs1⟩
  obtain ⟨l, hl, hok⟩ := steps_of h1
  refine ⟨b, m, s, ao, n, cap, l, ?_, hb, hm, hs, hl, hok⟩
  apply Array.ext'
  simpa using ha
theorem Rs.few {w : World} {ao : Option Addr} {n cap : Nat} {L : List St} (h : Rs w ao n cap 3 L St.c) : Rs w ao (cut200 n) cap 3 (L.take (cut200 n)) St.c := h.take (cut200_le n).1
theorem deltaZ_run (w : World) : (zeroValue 25).run Try.prog w = .ok (.agg #[.string ByteArray.empty, .string ByteArray.empty, .int .i64 0, .slice none 0 0]) w := by kernel_rfl
theorem delta_new2 (w : World) (o : Obj) : Blk ((w.alloc o).alloc (Obj.cells #[.string ByteArray.empty, .string ByteArray.empty, .int .i64 0, .slice none 0 0] 25)) (w.heap.size + 1) [.string ByteArray.empty, .string ByteArray.empty, .int .i64 0, .slice none 0 0] 25 := by
  have := Blk.new (w.alloc o) [.string ByteArray.empty, .string ByteArray.empty, .int .i64 0, .slice none 0 0] 25
  rw [World.size_alloc] at this
  exact this

set_option maxRecDepth 100000 in
set_option maxHeartbeats 1000000 in
theorem few_any (w : World) (b m : ByteArray) (s : Int) (ao : Option Addr) (n cap : Nat) (L : List St) (hW : Rs w ao n cap 3 L St.c) :
    Calls Try.prog 25 #[.agg #[.string b, .string m, .int .i64 s, .slice ao n cap]] w fun e w' => e = .returned (.agg #[.string b, .string m, .int .i64 s, .slice ao (cut200 n) cap]) ∧ Below w.heap.size w w' := by
  have hsz := deltaZ_run
  have hcn : n ≤ cap := hW.1
  have hcl : cap ≤ maxLen := hW.2.1
  unfold maxLen at hcl
  obtain ⟨V, hV⟩ : ∃ V, V = (w.alloc (Obj.cells #[.string b, .string m, .int .i64 s, .slice ao n cap] 25)).alloc (Obj.cells #[.string ByteArray.empty, .string ByteArray.empty, .int .i64 0, .slice none 0 0] 25) := ⟨_, rfl⟩
  obtain ⟨p1, hp1⟩ : ∃ p, p = w.heap.size := ⟨_, rfl⟩
  obtain ⟨p2, hp2⟩ : ∃ p, p = w.heap.size + 1 := ⟨_, rfl⟩
  have hG : Blk V p1 [.string b, .string m, .int .i64 s, .slice ao n cap] 25 := by rw [hV, hp1]; exact (Blk.new _ _ _).alloc _
  have hZ : Blk V p2 [.string ByteArray.empty, .string ByteArray.empty, .int .i64 0, .slice none 0 0] 25 := by rw [hV, hp2]; exact delta_new2 _ _
  have hB : Below w.heap.size w V := by rw [hV]; exact (below_alloc _ _).alloc (by simp) _
  have hne : p1 ≠ p2 := by omega
  have hw1 : w.heap.size ≤ p1 := by omega
  have hw2 : w.heap.size ≤ p2 := by omega
  have HV := Lib.hid hV
  have HP1 := Lib.hid hp1
  have HP2 := Lib.hid hp2
  have HB := Lib.hid (And.intro hB (And.intro hw1 hw2))
  have HNE := Lib.hid hne
  have HG := Lib.hid hG
  have HZ := Lib.hid hZ
  have g0 := hG.cell (i := 0) rfl
  have g1 := hG.cell (i := 1) rfl
  have g2 := hG.cell (i := 2) rfl
  have g3 := hG.cell (i := 3) rfl
  have gf3 := hG.frozen 3
  have z0 := hZ.cell (i := 0) rfl
  have z1 := hZ.cell (i := 1) rfl
  have z2 := hZ.cell (i := 2) rfl
  have z3 := hZ.cell (i := 3) rfl
  have f0 := hZ.frozen 0
  have f1 := hZ.frozen 1
  have f2 := hZ.frozen 2
  have f3 := hZ.frozen 3
  have hne' : ¬ p2 = p1 := by omega
  clear hV hp1 hp2 hB hG hZ hw1 hw2
  by_cases h1 : 200 < n
  · obtain ⟨g, off, rfl, _, _⟩ := rs_s hW (by omega)
    have e1 : Hid (cut200 n = 200) := Lib.hid (by unfold cut200; rw [if_pos h1])
    have i1 : (200 : Int) ≤ (cap : Int) := by omega
    have i2 : 200 ≤ cap := by omega
    clear hW
    go_enter Try.func25, Try.ntmps25
    go_upto_region 1 with fail
    rw [← HP2.out, ← HP1.out, ← HV.out]
    go_wp2
    refine bodyPost_ret (results_cell_row rfl _ _ p2 25 _ (0, 0) _ rfl (((((HZ.out.setOther (by exact HNE.out.symm) _).set 0 _).set 1 _).set 2 _).set 3 _) Try.underlying25 rfl (by kernel_rfl)) rfl ?_
    exact ⟨by rw [e1.out]; rfl, (((((HB.out.1.setCell HB.out.2.1 _).setCell HB.out.2.2 _).setCell HB.out.2.2 _).setCell HB.out.2.2 _).setCell HB.out.2.2 _)⟩
  · have e1 : Hid (cut200 n = n) := Lib.hid (by unfold cut200; rw [if_neg h1])
    clear hW
    go_enter Try.func25, Try.ntmps25
    go_upto_region 1 with fail
    rw [← HP2.out, ← HP1.out, ← HV.out]
    go_wp2
    refine bodyPost_ret (results_cell_row rfl _ _ p2 25 _ (0, 0) _ rfl ((((HZ.out.set 0 _).set 1 _).set 2 _).set 3 _) Try.underlying25 rfl (by kernel_rfl)) rfl ?_
    exact ⟨by rw [e1.out]; rfl, ((((HB.out.1.setCell HB.out.2.2 _).setCell HB.out.2.2 _).setCell HB.out.2.2 _).setCell HB.out.2.2 _)⟩
end Go.Proofs.Ytgemhgllifhckaa
