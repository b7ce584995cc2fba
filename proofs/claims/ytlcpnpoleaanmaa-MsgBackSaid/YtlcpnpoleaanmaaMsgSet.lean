/- A number of a message by its letter: the document's set. Conditions: none. -/
import Derived.Test.YtlcpnpoleaanmaaMsgClean
import Derived.Test.YtlcpnpoleaanmaaMsgMem
namespace Go.Proofs.Ytlcpnpoleaanmaa
open Go.RowKit
set_option linter.unusedVariables false

set_option maxRecDepth 100000 in
set_option maxHeartbeats 20000000 in
theorem set_any (w : World) (m : Mg) (ao : Option Addr) (n cap : Nat) (c : UInt8) (x : Int) :
    Calls Try.prog 41 #[.agg (mgC m (.slice ao n cap)).toArray, .int .u8 (c.toNat : Nat), .int .i64 x] w fun e w' => e = .returned (.agg (mgC (setM m c x) (.slice ao n cap)).toArray) ∧ Below w.heap.size w w' := by
  have hmz := mgZ_run
  obtain ⟨V1, hV1⟩ : ∃ V, V = w.alloc (.cells (mgC m (.slice ao n cap)).toArray 26) := ⟨_, rfl⟩
  obtain ⟨p1, hp1⟩ : ∃ p, p = w.heap.size := ⟨_, rfl⟩
  obtain ⟨V, hV⟩ : ∃ V, V = V1.alloc (.cells mgZ.toArray 26) := ⟨_, rfl⟩
  obtain ⟨p2, hp2⟩ : ∃ p, p = w.heap.size + 1 := ⟨_, rfl⟩
  have hG : Blk V p1 (mgC m (.slice ao n cap)) 26 := by rw [hV, hV1, hp1]; exact (Blk.new _ _ _).alloc _
  have hZ : Blk V p2 mgZ 26 := by
    have := Blk.new V1 mgZ 26
    rw [hV1, World.size_alloc] at this
    rw [hV, hp2, hV1]; exact this
  have hB : Below w.heap.size w V := by rw [hV, hV1]; exact (below_alloc' w _).alloc (by simp) _
  have hne : ¬ p2 = p1 := by omega
  have hne2 : ¬ p1 = p2 := by omega
  have hq1 : w.heap.size ≤ p1 := by omega
  have hq2 : w.heap.size ≤ p2 := by omega

  unfold mgC at hV1
  unfold mgZ mgC mg0 at hV
  simp only at hV
  have HV := Lib.hid hV
  have HV1 := Lib.hid hV1
  have HP1 := Lib.hid hp1
  have HP2 := Lib.hid hp2
  have HB := Lib.hid hB
  have HZ := Lib.hid hZ
  have HG := Lib.hid hG
  have HNE := Lib.hid hne2
  have HQ := Lib.hid (And.intro hq1 hq2)
  obtain ⟨M, hM⟩ : ∃ M, M = setM m c x := ⟨_, rfl⟩
  rw [← hM]
  unfold setM at hM
  clear hV hV1 hp1 hp2 hB hZ hG hq1 hq2
  by_cases h0 : c = 66
  case pos =>
    rw [if_pos h0] at hM
    have b0 := chEq (x := 66) rfl h0
    clear h0
    as_aux_lemma =>
      have HM : Hid (M = { m with ballot := x }) := Lib.hid hM
      clear hM
      have c := HG.out.cell (i := 3) rfl
      have f := HG.out.frozen 3
      have HG2 : Hid (Blk (V.setCell ⟨p1, 3, none⟩ (.int .i64 x)) p1 (mgC { m with ballot := x } (.slice ao n cap)) 26) := Lib.hid (HG.out.set 3 _)
      have HZ2 : Hid (Blk (V.setCell ⟨p1, 3, none⟩ (.int .i64 x)) p2 mgZ 26) := Lib.hid (HZ.out.setOther hne _)
      unfold mgC
      go_enter Try.func41, Try.ntmps41
      go_upto_region 1 with fail
      rw [← HP2.out, ← HP1.out, ← HV1.out, ← HV.out]
      go_wp2_with (first | (refine ld_mg HG2.out rfl rfl rfl ?_) | (refine st_mg (m := { m with ballot := x }) HZ2.out rfl rfl rfl rfl ?_))
      rw [HM.out]
      refine bodyPost_ret (results_cell_row rfl _ _ p2 26 _ (0, 0) _ rfl (putM_blk HZ2.out) Try.underlying26 rfl (by kernel_rfl)) rfl ?_
      exact ⟨rfl, putM_below (HB.out.setCell HQ.out.1 _) HQ.out.2 _ _⟩
  rw [if_neg h0] at hM
  have b0 := chNe (x := 66) rfl h0
  clear h0
  by_cases h1 : c = 71
  case pos =>
    rw [if_pos h1] at hM
    have b1 := chEq (x := 71) rfl h1
    clear h1
    as_aux_lemma =>
      have HM : Hid (M = { m with gen := x }) := Lib.hid hM
      clear hM
      have c := HG.out.cell (i := 4) rfl
      have f := HG.out.frozen 4
      have HG2 : Hid (Blk (V.setCell ⟨p1, 4, none⟩ (.int .i64 x)) p1 (mgC { m with gen := x } (.slice ao n cap)) 26) := Lib.hid (HG.out.set 4 _)
      have HZ2 : Hid (Blk (V.setCell ⟨p1, 4, none⟩ (.int .i64 x)) p2 mgZ 26) := Lib.hid (HZ.out.setOther hne _)
      unfold mgC
      go_enter Try.func41, Try.ntmps41
      go_upto_region 1 with fail
      rw [← HP2.out, ← HP1.out, ← HV1.out, ← HV.out]
      go_wp2_with (first | (refine ld_mg HG2.out rfl rfl rfl ?_) | (refine st_mg (m := { m with gen := x }) HZ2.out rfl rfl rfl rfl ?_))
      rw [HM.out]
      refine bodyPost_ret (results_cell_row rfl _ _ p2 26 _ (0, 0) _ rfl (putM_blk HZ2.out) Try.underlying26 rfl (by kernel_rfl)) rfl ?_
      exact ⟨rfl, putM_below (HB.out.setCell HQ.out.1 _) HQ.out.2 _ _⟩
  rw [if_neg h1] at hM
  have b1 := chNe (x := 71) rfl h1
  clear h1
  by_cases h2 : c = 83
  case pos =>
    rw [if_pos h2] at hM
    have b2 := chEq (x := 83) rfl h2
    clear h2
    as_aux_lemma =>
      have HM : Hid (M = { m with basis := x }) := Lib.hid hM
      clear hM
      have c := HG.out.cell (i := 5) rfl
      have f := HG.out.frozen 5
      have HG2 : Hid (Blk (V.setCell ⟨p1, 5, none⟩ (.int .i64 x)) p1 (mgC { m with basis := x } (.slice ao n cap)) 26) := Lib.hid (HG.out.set 5 _)
      have HZ2 : Hid (Blk (V.setCell ⟨p1, 5, none⟩ (.int .i64 x)) p2 mgZ 26) := Lib.hid (HZ.out.setOther hne _)
      unfold mgC
      go_enter Try.func41, Try.ntmps41
      go_upto_region 1 with fail
      rw [← HP2.out, ← HP1.out, ← HV1.out, ← HV.out]
      go_wp2_with (first | (refine ld_mg HG2.out rfl rfl rfl ?_) | (refine st_mg (m := { m with basis := x }) HZ2.out rfl rfl rfl rfl ?_))
      rw [HM.out]
      refine bodyPost_ret (results_cell_row rfl _ _ p2 26 _ (0, 0) _ rfl (putM_blk HZ2.out) Try.underlying26 rfl (by kernel_rfl)) rfl ?_
      exact ⟨rfl, putM_below (HB.out.setCell HQ.out.1 _) HQ.out.2 _ _⟩
  rw [if_neg h2] at hM
  have b2 := chNe (x := 83) rfl h2
  clear h2
  by_cases h3 : c = 70
  case pos =>
    rw [if_pos h3] at hM
    have b3 := chEq (x := 70) rfl h3
    clear h3
    as_aux_lemma =>
      have HM : Hid (M = { m with floor := x }) := Lib.hid hM
      clear hM
      have c := HG.out.cell (i := 6) rfl
      have f := HG.out.frozen 6
      have HG2 : Hid (Blk (V.setCell ⟨p1, 6, none⟩ (.int .i64 x)) p1 (mgC { m with floor := x } (.slice ao n cap)) 26) := Lib.hid (HG.out.set 6 _)
      have HZ2 : Hid (Blk (V.setCell ⟨p1, 6, none⟩ (.int .i64 x)) p2 mgZ 26) := Lib.hid (HZ.out.setOther hne _)
      unfold mgC
      go_enter Try.func41, Try.ntmps41
      go_upto_region 1 with fail
      rw [← HP2.out, ← HP1.out, ← HV1.out, ← HV.out]
      go_wp2_with (first | (refine ld_mg HG2.out rfl rfl rfl ?_) | (refine st_mg (m := { m with floor := x }) HZ2.out rfl rfl rfl rfl ?_))
      rw [HM.out]
      refine bodyPost_ret (results_cell_row rfl _ _ p2 26 _ (0, 0) _ rfl (putM_blk HZ2.out) Try.underlying26 rfl (by kernel_rfl)) rfl ?_
      exact ⟨rfl, putM_below (HB.out.setCell HQ.out.1 _) HQ.out.2 _ _⟩
  rw [if_neg h3] at hM
  have b3 := chNe (x := 70) rfl h3
  clear h3
  by_cases h4 : c = 84
  case pos =>
    rw [if_pos h4] at hM
    have b4 := chEq (x := 84) rfl h4
    clear h4
    as_aux_lemma =>
      have HM : Hid (M = { m with top := x }) := Lib.hid hM
      clear hM
      have c := HG.out.cell (i := 7) rfl
      have f := HG.out.frozen 7
      have HG2 : Hid (Blk (V.setCell ⟨p1, 7, none⟩ (.int .i64 x)) p1 (mgC { m with top := x } (.slice ao n cap)) 26) := Lib.hid (HG.out.set 7 _)
      have HZ2 : Hid (Blk (V.setCell ⟨p1, 7, none⟩ (.int .i64 x)) p2 mgZ 26) := Lib.hid (HZ.out.setOther hne _)
      unfold mgC
      go_enter Try.func41, Try.ntmps41
      go_upto_region 1 with fail
      rw [← HP2.out, ← HP1.out, ← HV1.out, ← HV.out]
      go_wp2_with (first | (refine ld_mg HG2.out rfl rfl rfl ?_) | (refine st_mg (m := { m with top := x }) HZ2.out rfl rfl rfl rfl ?_))
      rw [HM.out]
      refine bodyPost_ret (results_cell_row rfl _ _ p2 26 _ (0, 0) _ rfl (putM_blk HZ2.out) Try.underlying26 rfl (by kernel_rfl)) rfl ?_
      exact ⟨rfl, putM_below (HB.out.setCell HQ.out.1 _) HQ.out.2 _ _⟩
  rw [if_neg h4] at hM
  have b4 := chNe (x := 84) rfl h4
  clear h4
  as_aux_lemma =>
    have HM : Hid (M = { m with read := x }) := Lib.hid hM
    clear hM
    have c := HG.out.cell (i := 8) rfl
    have f := HG.out.frozen 8
    have HG2 : Hid (Blk (V.setCell ⟨p1, 8, none⟩ (.int .i64 x)) p1 (mgC { m with read := x } (.slice ao n cap)) 26) := Lib.hid (HG.out.set 8 _)
    have HZ2 : Hid (Blk (V.setCell ⟨p1, 8, none⟩ (.int .i64 x)) p2 mgZ 26) := Lib.hid (HZ.out.setOther hne _)
    unfold mgC
    go_enter Try.func41, Try.ntmps41
    go_upto_region 1 with fail
    rw [← HP2.out, ← HP1.out, ← HV1.out, ← HV.out]
    go_wp2_with (first | (refine ld_mg HG2.out rfl rfl rfl ?_) | (refine st_mg (m := { m with read := x }) HZ2.out rfl rfl rfl rfl ?_))
    rw [HM.out]
    refine bodyPost_ret (results_cell_row rfl _ _ p2 26 _ (0, 0) _ rfl (putM_blk HZ2.out) Try.underlying26 rfl (by kernel_rfl)) rfl ?_
    exact ⟨rfl, putM_below (HB.out.setCell HQ.out.1 _) HQ.out.2 _ _⟩
end Go.Proofs.Ytlcpnpoleaanmaa
