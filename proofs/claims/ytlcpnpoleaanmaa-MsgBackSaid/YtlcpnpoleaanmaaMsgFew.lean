/- few: a message of at most 80 entries. Conditions: none beyond the row. -/
import Derived.Test.YtlcpnpoleaanmaaMsgRightA
import Derived.Laws.Rows
namespace Go.Proofs.Ytlcpnpoleaanmaa
open Go.RowKit
set_option linter.unusedVariables false

def mgZ : List Value := mgC (mg0 0 0 0) (.slice none 0 0)
theorem mgZ_run (w : World) : (zeroValue 26).run Try.prog w = .ok (.agg #[.int .i64 0, .int .i64 0, .int .i64 0, .int .i64 0, .int .i64 0, .int .i64 0, .int .i64 0, .int .i64 0, .int .i64 0, .string ByteArray.empty, .int .i64 0, .int .i64 0, .string ByteArray.empty, .slice none 0 0]) w := by kernel_rfl
def cut80 (n : Nat) : Nat := if 80 < n then 80 else n
theorem cut80_le (n : Nat) : cut80 n ≤ n ∧ cut80 n ≤ 80 := by unfold cut80; split <;> omega
def fewM (m : Mg) : Mg := { m with list := m.list.take 80 }
theorem few_rows {w : World} {ao : Option Addr} {n cap : Nat} {m : Mg} (h : Rs w ao n cap 3 m.list enC) : Rs w ao (cut80 n) cap 3 (fewM m).list enC := by
  have hl := h.2.2.1
  by_cases h1 : 80 < n
  · have e : cut80 n = 80 := by unfold cut80; rw [if_pos h1]
    rw [e]
    exact h.take (by omega)
  · have e : cut80 n = n := by unfold cut80; rw [if_neg h1]
    rw [e]
    have : (fewM m).list = m.list := List.take_of_length_le (by omega)
    rw [this]; exact h
/-- all cells of a message put anew -/
theorem Blk.sets {w : World} {q : Nat} {m : Mg} {v : Value} {T : TypeId} (x0 x1 x2 x3 x4 x5 x6 x7 x8 x9 x10 x11 x12 x13 : Value) (h : Blk w q [x0, x1, x2, x3, x4, x5, x6, x7, x8, x9, x10, x11, x12, x13] T) :
    Blk ((((((((((((((w.setCell ⟨q, 0, none⟩ (.int .i64 m.kind)).setCell ⟨q, 1, none⟩ (.int .i64 m.src)).setCell ⟨q, 2, none⟩ (.int .i64 m.dst)).setCell ⟨q, 3, none⟩ (.int .i64 m.ballot)).setCell ⟨q, 4, none⟩ (.int .i64 m.gen)).setCell ⟨q, 5, none⟩ (.int .i64 m.basis)).setCell ⟨q, 6, none⟩ (.int .i64 m.floor)).setCell ⟨q, 7, none⟩ (.int .i64 m.top)).setCell ⟨q, 8, none⟩ (.int .i64 m.read)).setCell ⟨q, 9, none⟩ (.string m.mark)).setCell ⟨q, 10, none⟩ (.int .i64 m.pat)).setCell ⟨q, 11, none⟩ (.int .i64 m.pof)).setCell ⟨q, 12, none⟩ (.string m.ptext)).setCell ⟨q, 13, none⟩ (v)) q (mgC m v) T := by
  have h1 := Blk.set h 0 (.int .i64 m.kind)
  have h2 := Blk.set h1 1 (.int .i64 m.src)
  have h3 := Blk.set h2 2 (.int .i64 m.dst)
  have h4 := Blk.set h3 3 (.int .i64 m.ballot)
  have h5 := Blk.set h4 4 (.int .i64 m.gen)
  have h6 := Blk.set h5 5 (.int .i64 m.basis)
  have h7 := Blk.set h6 6 (.int .i64 m.floor)
  have h8 := Blk.set h7 7 (.int .i64 m.top)
  have h9 := Blk.set h8 8 (.int .i64 m.read)
  have h10 := Blk.set h9 9 (.string m.mark)
  have h11 := Blk.set h10 10 (.int .i64 m.pat)
  have h12 := Blk.set h11 11 (.int .i64 m.pof)
  have h13 := Blk.set h12 12 (.string m.ptext)
  have h14 := Blk.set h13 13 (v)
  rw [show mgC m v = ((((((((((((([x0, x1, x2, x3, x4, x5, x6, x7, x8, x9, x10, x11, x12, x13].set 0 (.int .i64 m.kind)).set 1 (.int .i64 m.src)).set 2 (.int .i64 m.dst)).set 3 (.int .i64 m.ballot)).set 4 (.int .i64 m.gen)).set 5 (.int .i64 m.basis)).set 6 (.int .i64 m.floor)).set 7 (.int .i64 m.top)).set 8 (.int .i64 m.read)).set 9 (.string m.mark)).set 10 (.int .i64 m.pat)).set 11 (.int .i64 m.pof)).set 12 (.string m.ptext)).set 13 (v) from by simp only [List.set_cons_succ, List.set_cons_zero, mgC]]
  exact h14

theorem set14 {w W : World} (h : Below w.heap.size w W) {q : Nat} (hq : w.heap.size ≤ q) (v0 v1 v2 v3 v4 v5 v6 v7 v8 v9 v10 v11 v12 v13 : Value) :
    Below w.heap.size w ((((((((((((((W.setCell ⟨q, 0, none⟩ v0).setCell ⟨q, 1, none⟩ v1).setCell ⟨q, 2, none⟩ v2).setCell ⟨q, 3, none⟩ v3).setCell ⟨q, 4, none⟩ v4).setCell ⟨q, 5, none⟩ v5).setCell ⟨q, 6, none⟩ v6).setCell ⟨q, 7, none⟩ v7).setCell ⟨q, 8, none⟩ v8).setCell ⟨q, 9, none⟩ v9).setCell ⟨q, 10, none⟩ v10).setCell ⟨q, 11, none⟩ v11).setCell ⟨q, 12, none⟩ v12).setCell ⟨q, 13, none⟩ v13) :=
  (((((((((((((h.setCell hq v0).setCell hq v1).setCell hq v2).setCell hq v3).setCell hq v4).setCell hq v5).setCell hq v6).setCell hq v7).setCell hq v8).setCell hq v9).setCell hq v10).setCell hq v11).setCell hq v12).setCell hq v13

set_option maxRecDepth 100000 in
set_option maxHeartbeats 4000000 in
theorem few_any (w : World) (m : Mg) (ao : Option Addr) (n cap : Nat) (hR : Rs w ao n cap 3 m.list enC) :
    Calls Try.prog 11 #[.agg (mgC m (.slice ao n cap)).toArray] w fun e w' => e = .returned (.agg (mgC (fewM m) (.slice ao (cut80 n) cap)).toArray) ∧ Below w.heap.size w w' := by
  have hsz := mgZ_run
  have hcn : n ≤ cap := hR.1
  have hcl : cap ≤ maxLen := hR.2.1
  unfold maxLen at hcl
  obtain ⟨V1, hV1⟩ : ∃ V, V = w.alloc (.cells (mgC m (.slice ao n cap)).toArray 26) := ⟨_, rfl⟩
  obtain ⟨p1, hp1⟩ : ∃ p, p = w.heap.size := ⟨_, rfl⟩
  obtain ⟨V, hV⟩ : ∃ V, V = V1.alloc (.cells mgZ.toArray 26) := ⟨_, rfl⟩
  obtain ⟨p2, hp2⟩ : ∃ p, p = w.heap.size + 1 := ⟨_, rfl⟩
  have hG : Blk V p1 (mgC m (.slice ao n cap)) 26 := by rw [hV, hV1, hp1]; exact (Blk.new _ _ _).alloc _
  have hZ : Blk V p2 mgZ 26 := by
    have := Blk.new V1 mgZ 26
    rw [hV1, World.size_alloc] at this
    rw [hV, hp2, hV1]; exact this
  have hB : Below w.heap.size w V := by rw [hV, hV1]; exact (below_alloc' w _).alloc (by simp) _
  have hne : ¬ p2 = p1 := by omega
  have hne2 : ¬ p1 = p2 := by omega
  have hq1 : w.heap.size ≤ p1 := by omega
  have hq2 : w.heap.size ≤ p2 := by omega
  have c0 := hG.cell (i := 0) rfl
  have c1 := hG.cell (i := 1) rfl
  have c2 := hG.cell (i := 2) rfl
  have c3 := hG.cell (i := 3) rfl
  have c4 := hG.cell (i := 4) rfl
  have c5 := hG.cell (i := 5) rfl
  have c6 := hG.cell (i := 6) rfl
  have c7 := hG.cell (i := 7) rfl
  have c8 := hG.cell (i := 8) rfl
  have c9 := hG.cell (i := 9) rfl
  have c10 := hG.cell (i := 10) rfl
  have c11 := hG.cell (i := 11) rfl
  have c12 := hG.cell (i := 12) rfl
  have c13 := hG.cell (i := 13) rfl
  have f13 := hG.frozen 13
  have z0 := hZ.cell (i := 0) rfl
  have y0 := hZ.frozen 0
  have z1 := hZ.cell (i := 1) rfl
  have y1 := hZ.frozen 1
  have z2 := hZ.cell (i := 2) rfl
  have y2 := hZ.frozen 2
  have z3 := hZ.cell (i := 3) rfl
  have y3 := hZ.frozen 3
  have z4 := hZ.cell (i := 4) rfl
  have y4 := hZ.frozen 4
  have z5 := hZ.cell (i := 5) rfl
  have y5 := hZ.frozen 5
  have z6 := hZ.cell (i := 6) rfl
  have y6 := hZ.frozen 6
  have z7 := hZ.cell (i := 7) rfl
  have y7 := hZ.frozen 7
  have z8 := hZ.cell (i := 8) rfl
  have y8 := hZ.frozen 8
  have z9 := hZ.cell (i := 9) rfl
  have y9 := hZ.frozen 9
  have z10 := hZ.cell (i := 10) rfl
  have y10 := hZ.frozen 10
  have z11 := hZ.cell (i := 11) rfl
  have y11 := hZ.frozen 11
  have z12 := hZ.cell (i := 12) rfl
  have y12 := hZ.frozen 12
  have z13 := hZ.cell (i := 13) rfl
  have y13 := hZ.frozen 13
  unfold mgC at hV1 ⊢
  unfold mgZ mgC mg0 at hV
  simp only at hV ⊢
  have HV := Lib.hid hV
  have HV1 := Lib.hid hV1
  have HP1 := Lib.hid hp1
  have HP2 := Lib.hid hp2
  have HB := Lib.hid hB
  have HZ := Lib.hid hZ
  have HNE := Lib.hid hne2
  have HQ := Lib.hid (And.intro hq1 hq2)
  clear hV hV1 hp1 hp2 hB hZ hG hq1 hq2
  by_cases h1 : 80 < n
  · obtain ⟨b, off, rfl, -, -⟩ := hR.2.2.2 (by omega)
    have e1 : Hid (cut80 n = 80) := Lib.hid (by unfold cut80; rw [if_pos h1])
    have i1 : (80 : Int) ≤ (cap : Int) := by omega
    have i2 : 80 ≤ cap := by omega
    clear hR
    go_enter Try.func11, Try.ntmps11
    go_upto_region 1 with fail
    rw [← HP2.out, ← HP1.out, ← HV1.out, ← HV.out]
    go_wp2
    rw [e1.out]
    refine bodyPost_ret (results_cell_row rfl _ _ p2 26 _ (0, 0) _ rfl (Blk.sets (m := fewM m) (v := .slice (some ⟨b, off, none⟩) 80 cap) _ _ _ _ _ _ _ _ _ _ _ _ _ _ (HZ.out.setOther (by exact HNE.out ∘ Eq.symm) _)) Try.underlying26 rfl (by kernel_rfl)) rfl ?_
    exact ⟨rfl, set14 (HB.out.setCell HQ.out.1 _) HQ.out.2 _ _ _ _ _ _ _ _ _ _ _ _ _ _⟩
  · have e1 : Hid (cut80 n = n) := Lib.hid (by unfold cut80; rw [if_neg h1])
    have e2 : Hid (fewM m = m) := Lib.hid (by unfold fewM; rw [List.take_of_length_le (by have := hR.2.2.1; omega)])
    clear hR
    go_enter Try.func11, Try.ntmps11
    go_upto_region 1 with fail
    rw [← HP2.out, ← HP1.out, ← HV1.out, ← HV.out]
    go_wp2
    rw [e1.out]
    refine bodyPost_ret (results_cell_row rfl _ _ p2 26 _ (0, 0) _ rfl (Blk.sets (m := m) (v := .slice ao n cap) _ _ _ _ _ _ _ _ _ _ _ _ _ _ HZ.out) Try.underlying26 rfl (by kernel_rfl)) rfl ?_
    exact ⟨rfl, set14 HB.out HQ.out.2 _ _ _ _ _ _ _ _ _ _ _ _ _ _⟩
end Go.Proofs.Ytlcpnpoleaanmaa
