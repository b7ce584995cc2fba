/- few: a signature with at most 300 sums and marks. Conditions: as named in each theorem. -/
import Derived.Test.YtfcfgkhdlpgbdaaSignBytesR
import Derived.Test.YtfcfgkhdlpgbdaaSignAwake
namespace Go.Proofs.Ytfcfgkhdlpgbdaa
open Go.RowKit
set_option linter.unusedVariables false

def cut300 (n : Nat) : Nat := if 300 < n then 300 else n
theorem cut300_le (n : Nat) : cut300 n ≤ n ∧ cut300 n ≤ 300 := by unfold cut300; split <;> omega
set_option maxRecDepth 100000 in
set_option maxHeartbeats 1000000 in
theorem few_any (w : World) (b z : Int) (ao : Option Addr) (n cap : Nat) (bo : Option Addr) (m cap2 : Nat) (W : List Int) (T : List ByteArray)
    (hW : Rs w ao n cap 1 W (fun x => [.int .i64 x])) (hT : Rs w bo m cap2 1 T (fun x => [.string x])) :
    Calls Try.prog 25 #[.agg #[.int .i64 b, .int .i64 z, .slice ao n cap, .slice bo m cap2]] w fun e w' => e = .returned (.agg #[.int .i64 b, .int .i64 z, .slice ao (cut300 n) cap, .slice bo (cut300 m) cap2]) ∧ Below w.heap.size w w' := by
  have hsz := sigZ_run
  have hcn : n ≤ cap := hW.1
  have hcm : m ≤ cap2 := hT.1
  have hcl : cap ≤ maxLen := hW.2.1
  have hcl2 : cap2 ≤ maxLen := hT.2.1
  unfold maxLen at hcl hcl2
  obtain ⟨V, hV⟩ : ∃ V, V = (w.alloc (Obj.cells #[.int .i64 b, .int .i64 z, .slice ao n cap, .slice bo m cap2] 31)).alloc (Obj.cells #[.int .i64 0, .int .i64 0, .slice none 0 0, .slice none 0 0] 31) := ⟨_, rfl⟩
  obtain ⟨p1, hp1⟩ : ∃ p, p = w.heap.size := ⟨_, rfl⟩
  obtain ⟨p2, hp2⟩ : ∃ p, p = w.heap.size + 1 := ⟨_, rfl⟩
  have hG : Blk V p1 [.int .i64 b, .int .i64 z, .slice ao n cap, .slice bo m cap2] 31 := by rw [hV, hp1]; exact (Blk.new _ _ _).alloc _
  have hZ : Blk V p2 sigZ 31 := by rw [hV, hp2]; exact sigNew1 _ _
  have hB : Below w.heap.size w V := by rw [hV]; exact bl_alloc (bel_alloc _ _) _
  have hne : p1 ≠ p2 := by omega
  have hw1 : w.heap.size ≤ p1 := by omega
  have hw2 : w.heap.size ≤ p2 := by omega
  have HV := Lib.hid hV
  have HP1 := Lib.hid hp1
  have HP2 := Lib.hid hp2
  have HB := Lib.hid (And.intro hB (And.intro hw1 hw2))
  have HNE := Lib.hid hne
  have HG := Lib.hid hG
  have HZ := Lib.hid hZ
  have g0 := hG.cell (i := 0) rfl
  have g1 := hG.cell (i := 1) rfl
  have g2 := hG.cell (i := 2) rfl
  have g3 := hG.cell (i := 3) rfl
  have gf2 := hG.frozen 2
  have gf3 := hG.frozen 3
  have z0 := hZ.cell (i := 0) rfl
  have z1 := hZ.cell (i := 1) rfl
  have z2 := hZ.cell (i := 2) rfl
  have z3 := hZ.cell (i := 3) rfl
  have f0 := hZ.frozen 0
  have f1 := hZ.frozen 1
  have f2 := hZ.frozen 2
  have f3 := hZ.frozen 3
  have hne' : ¬ p2 = p1 := by omega
  clear hV hp1 hp2 hB hG hZ hw1 hw2
  by_cases h1 : 300 < n
  · obtain ⟨b1, o1, rfl, _, _⟩ := hW.cell1 (by omega)
    have e1 : Hid (cut300 n = 300) := Lib.hid (by unfold cut300; rw [if_pos h1])
    have i1 : (300 : Int) ≤ (cap : Int) := by omega
    have i2 : 300 ≤ cap := by omega
    by_cases h2 : 300 < m
    · obtain ⟨b2, o2, rfl, _, _⟩ := hT.cell1 (by omega)
      have e2 : Hid (cut300 m = 300) := Lib.hid (by unfold cut300; rw [if_pos h2])
      have i3 : (300 : Int) ≤ (cap2 : Int) := by omega
      have i4 : 300 ≤ cap2 := by omega
      clear hW hT
      go_enter Try.func25, Try.ntmps25
      go_upto_region 1 with fail
      rw [← HP2.out, ← HP1.out, ← HV.out]
      go_wp2
      refine bodyPost_ret (results_cell_row rfl _ _ p2 31 _ (0, 0) _ rfl ((((((HZ.out.setOther (by exact HNE.out.symm) _).setOther (by exact HNE.out.symm) _).set 0 _).set 1 _).set 2 _).set 3 _) Try.underlying31 rfl (by kernel_rfl)) rfl ?_
      exact ⟨by rw [e1.out, e2.out]; rfl, ((((((HB.out.1.setCell HB.out.2.1 _).setCell HB.out.2.1 _).setCell HB.out.2.2 _).setCell HB.out.2.2 _).setCell HB.out.2.2 _).setCell HB.out.2.2 _)⟩
    · have e2 : Hid (cut300 m = m) := Lib.hid (by unfold cut300; rw [if_neg h2])
      clear hW hT
      go_enter Try.func25, Try.ntmps25
      go_upto_region 1 with fail
      rw [← HP2.out, ← HP1.out, ← HV.out]
      go_wp2
      refine bodyPost_ret (results_cell_row rfl _ _ p2 31 _ (0, 0) _ rfl (((((HZ.out.setOther (by exact HNE.out.symm) _).set 0 _).set 1 _).set 2 _).set 3 _) Try.underlying31 rfl (by kernel_rfl)) rfl ?_
      exact ⟨by rw [e1.out, e2.out]; rfl, (((((HB.out.1.setCell HB.out.2.1 _).setCell HB.out.2.2 _).setCell HB.out.2.2 _).setCell HB.out.2.2 _).setCell HB.out.2.2 _)⟩
  · have e1 : Hid (cut300 n = n) := Lib.hid (by unfold cut300; rw [if_neg h1])
    by_cases h2 : 300 < m
    · obtain ⟨b2, o2, rfl, _, _⟩ := hT.cell1 (by omega)
      have e2 : Hid (cut300 m = 300) := Lib.hid (by unfold cut300; rw [if_pos h2])
      have i3 : (300 : Int) ≤ (cap2 : Int) := by omega
      have i4 : 300 ≤ cap2 := by omega
      clear hW hT
      go_enter Try.func25, Try.ntmps25
      go_upto_region 1 with fail
      rw [← HP2.out, ← HP1.out, ← HV.out]
      go_wp2
      refine bodyPost_ret (results_cell_row rfl _ _ p2 31 _ (0, 0) _ rfl (((((HZ.out.setOther (by exact HNE.out.symm) _).set 0 _).set 1 _).set 2 _).set 3 _) Try.underlying31 rfl (by kernel_rfl)) rfl ?_
      exact ⟨by rw [e1.out, e2.out]; rfl, (((((HB.out.1.setCell HB.out.2.1 _).setCell HB.out.2.2 _).setCell HB.out.2.2 _).setCell HB.out.2.2 _).setCell HB.out.2.2 _)⟩
    · have e2 : Hid (cut300 m = m) := Lib.hid (by unfold cut300; rw [if_neg h2])
      clear hW hT
      go_enter Try.func25, Try.ntmps25
      go_upto_region 1 with fail
      rw [← HP2.out, ← HP1.out, ← HV.out]
      go_wp2
      refine bodyPost_ret (results_cell_row rfl _ _ p2 31 _ (0, 0) _ rfl ((((HZ.out.set 0 _).set 1 _).set 2 _).set 3 _) Try.underlying31 rfl (by kernel_rfl)) rfl ?_
      exact ⟨by rw [e1.out, e2.out]; rfl, ((((HB.out.1.setCell HB.out.2.2 _).setCell HB.out.2.2 _).setCell HB.out.2.2 _).setCell HB.out.2.2 _)⟩
end Go.Proofs.Ytfcfgkhdlpgbdaa
