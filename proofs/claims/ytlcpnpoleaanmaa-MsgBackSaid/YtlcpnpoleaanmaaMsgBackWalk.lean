/- MsgBack, walked: a message is read again from its bytes, under the ideal book and a real one. No conditions. -/
import Derived.Test.YtlcpnpoleaanmaaMsgBack
namespace Go.Proofs.Ytlcpnpoleaanmaa
open Go.RowKit
set_option linter.unusedVariables false
set_option linter.unusedSimpArgs false

set_option maxRecDepth 100000 in
set_option maxHeartbeats 8000000 in
theorem msgBack_walk (w : World) (c0 : Array Value) (o0 : mgK.ok w c0.toList) (real : Bool) :
    Calls Try.prog 10 #[.agg c0, .bool real] w fun e w' => e = .returned (.bool true) ∧ Below w.heap.size w w' := by
  obtain ⟨m, ao, n, cap, hcs, hR, hok⟩ := mg_of o0
  obtain rfl : c0 = (mgC m (.slice ao n cap)).toArray := by rw [← hcs]
  clear hcs o0 hok
  obtain ⟨V, hV⟩ : ∃ V, V = w.alloc (.cells (mgC m (.slice ao n cap)).toArray 26) := ⟨_, rfl⟩
  obtain ⟨p1, hp1⟩ : ∃ p, p = w.heap.size := ⟨_, rfl⟩
  have hG : Blk V p1 (mgC m (.slice ao n cap)) 26 := by rw [hV, hp1]; exact Blk.new _ _ _
  have hB : Below w.heap.size w V := by rw [hV]; exact below_alloc' _ _
  have hwp : w.heap.size ≤ p1 := by omega
  have HRW : Hid (∀ W, Below w.heap.size w W → Rs W ao n cap 3 m.list enC) := Lib.hid (fun W h => hR.below h (Nat.le_refl _))
  unfold mgC at hV ⊢
  have HV := Lib.hid hV
  have HP1 := Lib.hid hp1
  have HB := Lib.hid hB
  have HG := Lib.hid hG
  clear hV hp1 hB hG hR
  go_enter Try.func10, Try.ntmps10
  go_upto_region 1 with fail
  rw [← HP1.out, ← HV.out]
  go_cut [] (fun wx => Blk wx p1 (mgC (fewM m) (.slice ao (cut80 n) cap)) 26 ∧ Below w.heap.size w wx)
  case first =>
    go_wp2_with (refine ld_mg HG.out rfl rfl rfl ?_)
    refine (few_any V m ao n cap (HRW.out _ HB.out)).mono ?_
    rintro e w4 ⟨rfl, hb4⟩
    have HB4 := Lib.hid (below_then' HB.out hb4)
    have HG4 := Lib.hid (HG.out.below hb4 HG.out.lt)
    clear hb4
    go_wp2_with (refine st_mg (m := fewM m) (ao := ao) (n := cut80 n) (cap := cap) HG4.out rfl rfl rfl rfl ?_)
    go_meet
    case rel => exact ⟨putM_blk HG4.out, putM_below HB4.out hwp _ _⟩
  case rest =>
    obtain ⟨hG, hB⟩ := hcut
    obtain ⟨M, hM⟩ : ∃ M, M = fewM m := ⟨_, rfl⟩
    obtain ⟨N, hN⟩ : ∃ N, N = cut80 n := ⟨_, rfl⟩
    have hRM : ∀ W, Below w.heap.size w W → Rs W ao N cap 3 M.list enC := fun W h => by rw [hM, hN]; exact few_rows (HRW.out W h)
    have hN80 : N ≤ 1000 := by rw [hN]; have := (cut80_le n).2; omega
    rw [← hM, ← hN] at hG
    obtain ⟨b, hb⟩ := bool_of (rightM M)
    have HBB := Lib.hid hb
    have HRM := Lib.hid hRM
    have HG1 := Lib.hid hG
    have HB1 := Lib.hid hB
    clear hM hN hRM hG hB hb
    go_wp2_with fail
    refine (ideal_any wc).mono ?_
    rintro e w1 ⟨rfl, hI, hb1⟩
    obtain ⟨mm, hmm⟩ : ∃ mm, mm = wc.heap.size := ⟨_, rfl⟩
    have hwm : w.heap.size ≤ mm := by rw [hmm]; exact HB1.out.size
    have hp1m : p1 < mm := by rw [hmm]; exact HG1.out.lt
    rw [← hmm] at hI
    have HI := Lib.hid hI
    have HB2 := Lib.hid (below_then' HB1.out hb1)
    have HG2 := Lib.hid (HG1.out.below hb1 HG1.out.lt)
    rw [← hmm]
    clear hI hb1 hmm
    go_upto_if 13 with fail
    go_cut [5] (fun bv wx => ∃ bp, bv = .pointer (some ⟨bp, 0, none⟩) ∧ BkR mm wx (.pointer (some ⟨bp, 0, none⟩)) ∧ Blk wx p1 (mgC M (.slice ao N cap)) 26 ∧ Below w.heap.size w wx)
    case first =>
      cases real
      case false =>
        go_wp2
        go_meet
        case rel => exact ⟨_, rfl, bkR_ideal HI.out (by simp), HG2.out, HB2.out⟩
      case true =>
        go_wp2_with fail
        refine (real_any _).mono ?_
        rintro e w3 ⟨p, rfl, hR, hp, hb3⟩
        have HF := Lib.hid (And.intro (bkR_real mm hR) (And.intro (HG2.out.below hb3 HG2.out.lt) (below_then' HB2.out hb3)))
        clear hR hp hb3
        go_wp2
        go_meet
        case rel => exact ⟨_, rfl, HF.out⟩
    case rest =>
      obtain ⟨bp, rfl, hK, hG3, hB3⟩ := hcut
      have HG3 := Lib.hid hG3
      have HB3 := Lib.hid hB3
      cases b
      case false =>
        have r1 : ¬ rightM M := fun h => by have := HBB.out.2 h; cases this
        have HNO := Lib.hid (bytes_no wc (some ⟨bp, 0, none⟩) M ao N cap (HRM.out _ hB3) r1)
        clear r1 hK hG3 hB3
        go_wp2_with (refine ld_mg HG3.out rfl rfl rfl ?_)
        refine HNO.out.mono ?_
        rintro e w4 ⟨rfl, hb4⟩
        have HB4 := Lib.hid (below_then' HB3.out hb4)
        clear hb4
        go_wp2_with fail
        refine (awake_any w4).mono ?_
        rintro e w5 ⟨rfl, hb5⟩
        have HB5 := Lib.hid (below_then' HB4.out hb5)
        clear hb5
        go_wp2
        go_ret
        exact ⟨rfl, HB5.out⟩
      case true =>
        have r1 : rightM M := HBB.out.1 rfl
        have HR1 := Lib.hid r1
        have HBK := Lib.hid (bytes_book wc mm bp hK M ao N cap (HRM.out _ hB3) r1)
        have hbs := bodyS_bd r1
        clear r1 hK hG3 hB3
        go_wp2_with (refine ld_mg HG3.out rfl rfl rfl ?_)
        refine HBK.out.mono ?_
        rintro e w4 ⟨K, rfl, hK32, hg4, HIS⟩
        have HG4 := Lib.hid (HG3.out.grown hg4 (by intro e; injection e with e; omega))
        have HB4 := Lib.hid (HB3.out.grown hg4 HB3.out.size (by intro k hk; cases hk; exact hwm))
        obtain ⟨BL, hBL⟩ : ∃ BL, BL = bA (bodyL M) := ⟨_, rfl⟩
        rw [← hBL] at HIS hbs
        rw [← hBL]
        obtain ⟨S, hS⟩ : ∃ S, S = BL ++ K := ⟨_, rfl⟩
        have hSs : S.size = BL.size + 32 := by rw [hS, ByteArray.size_append, hK32]
        have hc1 : S.extract 0 BL.size = BL := by rw [hS]; exact cat_cut1 _ _
        have hc2 : S.extract BL.size S.size = K := by rw [hS]; exact cat_cut2 _ _
        rw [← hS]
        have HOF := Lib.hid (of_take w4 (.pointer (some ⟨bp, 0, none⟩)) S BL.size hSs (by omega) (Lib.hid (fun W hW => by
          rw [hc1, hc2]
          exact HIS.out W hW)))
        rw [hc1] at HOF
        have HBL := Lib.hid (show BL.data.toList = bodyL M by rw [hBL]; rfl)
        clear hg4 hS hSs hc1 hc2 hBL HIS hK32 HBK
        go_wp2_with fail
        refine HOF.out.mono ?_
        rintro e w5 ⟨m2, k2, bo, n2, cap2, rfl, hof, hrs2, hn2, hb5⟩
        rw [HBL.out] at hof
        obtain ⟨rfl, rfl⟩ := OfB.one hof (OfB.back HR1.out)
        have HG5 := Lib.hid (HG4.out.below hb5 HG4.out.lt)
        have HB5 := Lib.hid (below_then' HB4.out hb5)
        obtain ⟨V6, hV6⟩ : ∃ V, V = w5.alloc (.cells (mgC m2 (.slice bo n2 cap2)).toArray 26) := ⟨_, rfl⟩
        obtain ⟨p2, hp2⟩ : ∃ p, p = w5.heap.size := ⟨_, rfl⟩
        have hb6 : Below w5.heap.size w5 V6 := by rw [hV6]; exact below_alloc' _ _
        have hG2 : Blk V6 p2 (mgC m2 (.slice bo n2 cap2)) 26 := by rw [hV6, hp2]; exact Blk.new _ _ _
        have HG6 := Lib.hid (HG5.out.below hb6 HG5.out.lt)
        have HGG := Lib.hid hG2
        have HB6 := Lib.hid (below_then' HB5.out hb6)
        have HSM := Lib.hid (same_is V6 m2 m2 ao N cap bo n2 cap2 (HRM.out _ HB6.out) (hrs2.below hb6 (Nat.le_refl _)) (by omega) true (Lib.hid ⟨fun _ => rfl, fun _ => rfl⟩))
        have HV6 := Lib.hid hV6
        have HP2 := Lib.hid hp2
        unfold mgC at HV6 ⊢
        have hmz := mgZ_run
        clear hof hb5 hb6 hG2 hrs2 hV6 hp2 HOF
        go_upto_region 9 with fail
        rw [← HP2.out, ← HV6.out]
        obtain ⟨c0, c1, c2, c3, c4, c5, c6, c7, c8, c9, c10, c11, c12, c13⟩ := mg_cells HG6.out
        obtain ⟨g0, g1, g2, g3, g4, g5, g6, g7, g8, g9, g10, g11, g12, g13⟩ := mg_cells HGG.out
        go_wp2_with fail
        refine HSM.out.mono ?_
        rintro e w7 ⟨rfl, hb7⟩
        clear c0 c1 c2 c3 c4 c5 c6 c7 c8 c9 c10 c11 c12 c13 g0 g1 g2 g3 g4 g5 g6 g7 g8 g9 g10 g11 g12 g13
        have HB7 := Lib.hid (below_then' HB6.out hb7)
        clear hb7 HSM
        go_wp2_with fail
        refine (awake_any w7).mono ?_
        rintro e w8 ⟨rfl, hb8⟩
        have HB8 := Lib.hid (below_then' HB7.out hb8)
        clear hb8
        go_wp2
        go_ret
        exact ⟨rfl, HB8.out⟩
end Go.Proofs.Ytlcpnpoleaanmaa
