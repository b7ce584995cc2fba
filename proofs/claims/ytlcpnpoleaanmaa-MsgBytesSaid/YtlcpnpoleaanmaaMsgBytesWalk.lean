/- MsgBytes, walked: any message's bytes are the document's, their mark behind, or it is refused. No conditions. -/
import Derived.Test.YtlcpnpoleaanmaaMsgUse
import Derived.Test.YtlcpnpoleaanmaaMsgRightsWalk
import Derived.Test.YtlcpnpoleaanmaaMsgRefBody
namespace Go.Proofs.Ytlcpnpoleaanmaa
open Go.RowKit
set_option linter.unusedVariables false
set_option linter.unusedSimpArgs false

theorem mgS_cut1 (m : Mg) (n : Nat) : (mgS m n).extract 0 (bA (bodyL m)).size = bA (bodyL m) := by
  unfold mgS; exact ByteArray.extract_append_eq_left rfl
theorem mgS_cut2 (m : Mg) (n : Nat) : (mgS m n).extract (bA (bodyL m)).size ((bA (bodyL m)).size + 32) = numS n := by
  unfold mgS; exact ByteArray.extract_append_eq_right rfl (by rw [numS_size])
theorem is_own (w : World) (p mm : Nat) (m : Mg) (hb : (bA (bodyL m)).size ≤ 30000) (h : BookI w p mm (addS [] (bodyL m))) (B K : ByteArray) (hB : Hid (B = bA (bodyL m))) (hK : Hid (K = numS (([] : List (List UInt8)).idxOf (bodyL m) + 1))) :
    Calls Try.prog 19 #[.pointer (some ⟨p, 0, none⟩), .string B, .string K] w fun e w' => e = .returned (.bool true) ∧ Below w.heap.size w w' := by
  rw [hB.out, hK.out]
  have hs : addS [] (bodyL m) = [bodyL m] := by unfold addS; simp
  rw [hs] at h
  refine (is_ideal w p mm _ _ _ h (by unfold maxLen; omega) (by simp)).mono ?_
  rintro e w' ⟨rfl, h2⟩
  refine ⟨?_, h2⟩
  have hl : (bA (bodyL m)).data.toList = bodyL m := rfl
  have : decide ((bA (bodyL m)).data.toList ∈ [bodyL m] ∧ (numS (([] : List (List UInt8)).idxOf (bodyL m) + 1)).data.toList = numB (List.idxOf (bA (bodyL m)).data.toList [bodyL m] + 1)) = true := by
    refine decide_eq_true ⟨by rw [hl]; simp, ?_⟩
    rw [hl]
    simp
    rfl
  rw [this]

set_option maxRecDepth 100000 in
set_option maxHeartbeats 8000000 in
theorem msgBytes_walk (w : World) (c0 : Array Value) (o0 : mgK.ok w c0.toList) :
    Calls Try.prog 5 #[.agg c0] w fun e w' => e = .returned (.bool true) ∧ Below w.heap.size w w' := by
  obtain ⟨m, ao, n, cap, hcs, hR, hok⟩ := mg_of o0
  obtain rfl : c0 = (mgC m (.slice ao n cap)).toArray := by rw [← hcs]
  clear hcs o0 hok
  obtain ⟨V, hV⟩ : ∃ V, V = w.alloc (.cells (mgC m (.slice ao n cap)).toArray 26) := ⟨_, rfl⟩
  obtain ⟨p1, hp1⟩ : ∃ p, p = w.heap.size := ⟨_, rfl⟩
  have hG : Blk V p1 (mgC m (.slice ao n cap)) 26 := by rw [hV, hp1]; exact Blk.new _ _ _
  have hB : Below w.heap.size w V := by rw [hV]; exact below_alloc' _ _
  have hwp : w.heap.size ≤ p1 := by omega
  have HRW : Hid (∀ W, Below w.heap.size w W → Rs W ao n cap 3 m.list enC) := Lib.hid (fun W h => hR.below h (Nat.le_refl _))
  unfold mgC at hV ⊢
  have HV := Lib.hid hV
  have HP1 := Lib.hid hp1
  have HB := Lib.hid hB
  have HG := Lib.hid hG
  clear hV hp1 hB hG hR
  go_enter Try.func5, Try.ntmps5
  go_upto_region 1 with fail
  rw [← HP1.out, ← HV.out]
  go_cut [] (fun wx => Blk wx p1 (mgC (fewM m) (.slice ao (cut80 n) cap)) 26 ∧ Below w.heap.size w wx)
  case first =>
    go_wp2_with (refine ld_mg HG.out rfl rfl rfl ?_)
    refine (few_any V m ao n cap (HRW.out _ HB.out)).mono ?_
    rintro e w4 ⟨rfl, hb4⟩
    have HB4 := Lib.hid (below_then' HB.out hb4)
    have HG4 := Lib.hid (HG.out.below hb4 HG.out.lt)
    clear hb4
    go_wp2_with (refine st_mg (m := fewM m) (ao := ao) (n := cut80 n) (cap := cap) HG4.out rfl rfl rfl rfl ?_)
    go_meet
    case rel => exact ⟨putM_blk HG4.out, putM_below HB4.out hwp _ _⟩
  case rest =>
    obtain ⟨hG, hB⟩ := hcut
    obtain ⟨M, hM⟩ : ∃ M, M = fewM m := ⟨_, rfl⟩
    obtain ⟨N, hN⟩ : ∃ N, N = cut80 n := ⟨_, rfl⟩
    have hRM : ∀ W, Below w.heap.size w W → Rs W ao N cap 3 M.list enC := fun W h => by rw [hM, hN]; exact few_rows (HRW.out W h)
    have hN80 : N ≤ maxLen := by rw [hN]; have := (cut80_le n).2; unfold maxLen; omega
    rw [← hM, ← hN] at hG
    obtain ⟨b, hb⟩ := bool_of (rightM M)
    have HBB := Lib.hid hb
    have HRM := Lib.hid hRM
    have HG1 := Lib.hid hG
    have HB1 := Lib.hid hB
    clear hM hN hRM hG hB hb
    go_wp2_with fail
    refine (ideal_any wc).mono ?_
    rintro e w1 ⟨rfl, hI, hb1⟩
    obtain ⟨mm, hmm⟩ : ∃ mm, mm = wc.heap.size := ⟨_, rfl⟩
    have hwm : w.heap.size ≤ mm := by rw [hmm]; exact HB1.out.size
    have hp1m : p1 < mm := by rw [hmm]; exact HG1.out.lt
    rw [← hmm] at hI
    have HI := Lib.hid hI
    have HB2 := Lib.hid (below_then' HB1.out hb1)
    have HG2 := Lib.hid (HG1.out.below hb1 HG1.out.lt)
    rw [← hmm]
    clear hI hb1 hmm
    go_wp2_with (refine ld_mg HG2.out rfl rfl rfl ?_)
    refine (bytes_either w1 (mm + 1) mm [] HI.out (by simp) M ao N cap (HRM.out _ HB2.out)).mono ?_
    rintro e w2 ⟨s1, k1, seen1, rfl, hy1, hn1, hI1, hg1⟩
    have HG3 := Lib.hid (HG2.out.grown hg1 (by intro e; injection e with e; omega))
    have HB3 := Lib.hid (HB2.out.grown hg1 HB2.out.size (by intro k hk; cases hk; exact hwm))
    have HI1 := Lib.hid hI1
    have HY1 := Lib.hid (And.intro hy1 hn1)
    clear hI1 hg1 hy1 hn1
    go_wp2_with (refine ld_mg HG3.out rfl rfl rfl ?_)
    refine (rright_is w2 M ao N cap (HRM.out _ HB3.out) hN80 b HBB).mono ?_
    rintro e w3 ⟨rfl, hb3⟩
    have HB4 := Lib.hid (below_then' HB3.out hb3)
    have HG4 := Lib.hid (HG3.out.below hb3 HG3.out.lt)
    have HI4 := Lib.hid (HI1.out.next hb3)
    clear hb3
    cases b
    case false =>
      have r1 : ¬ rightM M := fun h => by have := HBB.out.2 h; cases this
      obtain ⟨e1, e2, -⟩ := HY1.out.2 r1
      subst e1
      subst e2
      clear r1 HI HI1 HY1 HBB HV HI4
      go_wp2_with fail
      refine (awake_any w3).mono ?_
      rintro e w4 ⟨rfl, hb4⟩
      have HB5 := Lib.hid (below_then' HB4.out hb4)
      clear hb4
      go_wp2
      go_ret
      exact ⟨rfl, HB5.out⟩
    case true =>
      have r1 : rightM M := HBB.out.1 rfl
      obtain ⟨e1, e2, e3⟩ := HY1.out.1 r1
      subst e1
      have HOK := Lib.hid r1
      have hI5 := HI4.out
      rw [e3] at hI5
      have HI5 := Lib.hid hI5
      obtain ⟨B, hBq⟩ : ∃ B, B = bA (bodyL M) := ⟨_, rfl⟩
      obtain ⟨K, hKq⟩ : ∃ K, K = numS (([] : List (List UInt8)).idxOf (bodyL M) + 1) := ⟨_, rfl⟩
      have hbs := bodyS_bd r1
      have z0 : s1.size = B.size + 32 := by rw [e2, hBq]; unfold mgS; rw [ByteArray.size_append, numS_size]
      have z1 : s1.extract 0 B.size = B := by rw [e2, hBq]; exact mgS_cut1 _ _
      have z2 : s1.extract B.size (B.size + 32) = K := by rw [e2, hBq, hKq]; exact mgS_cut2 _ _
      have HBS := Lib.hid hbs
      rw [← hBq] at hbs
      have HBQ := Lib.hid hBq
      have HKQ := Lib.hid hKq
      clear r1 HI HI1 HY1 HBB HV HI4 e2 e3 hI5 hBq hKq
      go_wp2_with (refine ld_mg HG4.out rfl rfl rfl ?_)
      refine (rbody_any w3 M ao N cap (HRM.out _ HB4.out) HOK.out).mono ?_
      rintro e w4 ⟨rfl, hb4⟩
      rw [← HBQ.out]
      have HB5 := Lib.hid (below_then' HB4.out hb4)
      have HI6 := Lib.hid (HI5.out.next hb4)
      clear hb4
      have q0 : (0 : Int) ≤ (B.size : Int) := by omega
      have q1 : (B.size : Int) ≤ (B.size : Int) + 32 := by omega
      have q2 : IntKind.i64.wrap ((B.size : Int) + 32) = (B.size : Int) + 32 := IntWalk.i64_in _ (by omega)
      go_wp2_with fail
      refine (is_own _ _ mm M HBS.out HI6.out B K HBQ HKQ).mono ?_
      rintro e w5 ⟨rfl, hb5⟩
      have HB6 := Lib.hid (below_then' HB5.out hb5)
      clear hb5
      go_wp2_with fail
      refine (awake_any w5).mono ?_
      rintro e w6 ⟨rfl, hb6⟩
      have HB7 := Lib.hid (below_then' HB6.out hb6)
      clear hb6
      go_wp2
      go_ret
      exact ⟨rfl, HB7.out⟩
end Go.Proofs.Ytlcpnpoleaanmaa
