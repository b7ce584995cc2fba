/- MsgUnlike, walked: two messages that may be have not the same bytes. Conditions: none. -/
import Derived.Test.YtlcpnpoleaanmaaMsgUse
namespace Go.Proofs.Ytlcpnpoleaanmaa
open Go.RowKit
set_option linter.unusedVariables false
set_option linter.unusedSimpArgs false


set_option maxRecDepth 100000 in
set_option maxHeartbeats 20000000 in
theorem msgUnlike_walk (w : World) (a0 : Array Value) (o0 : mgK.ok w a0.toList) (a1 : Array Value) (o1 : mgK.ok w a1.toList) :
    Calls Try.prog 4 #[.agg a0, .agg a1] w fun e w' => e = .returned (.bool true) ∧ Below w.heap.size w w' := by
  obtain ⟨m, ao, n, cap, hcs, hR, hok⟩ := mg_of o0
  obtain rfl : a0 = (mgC m (.slice ao n cap)).toArray := by rw [← hcs]
  obtain ⟨m2, bo, n2, cap2, hcs2, hR2, hok2⟩ := mg_of o1
  obtain rfl : a1 = (mgC m2 (.slice bo n2 cap2)).toArray := by rw [← hcs2]
  clear hcs o0 hok hcs2 o1 hok2
  obtain ⟨V1, hV1⟩ : ∃ V, V = w.alloc (.cells (mgC m (.slice ao n cap)).toArray 26) := ⟨_, rfl⟩
  obtain ⟨p1, hp1⟩ : ∃ p, p = w.heap.size := ⟨_, rfl⟩
  obtain ⟨V, hV⟩ : ∃ V, V = V1.alloc (.cells (mgC m2 (.slice bo n2 cap2)).toArray 26) := ⟨_, rfl⟩
  obtain ⟨p2, hp2⟩ : ∃ p, p = w.heap.size + 1 := ⟨_, rfl⟩
  have hG1 : Blk V p1 (mgC m (.slice ao n cap)) 26 := by rw [hV, hV1, hp1]; exact (Blk.new _ _ _).alloc _
  have hG2 : Blk V p2 (mgC m2 (.slice bo n2 cap2)) 26 := by
    have := Blk.new V1 (mgC m2 (.slice bo n2 cap2)) 26
    rw [hV1, World.size_alloc] at this
    rw [hV, hp2, hV1]; exact this
  have hB : Below w.heap.size w V := by rw [hV, hV1]; exact (below_alloc' w _).alloc (by simp) _
  have HRW : Hid (∀ W, Below w.heap.size w W → Rs W ao n cap 3 m.list enC ∧ Rs W bo n2 cap2 3 m2.list enC) := Lib.hid (fun W h => ⟨hR.below h (Nat.le_refl _), hR2.below h (Nat.le_refl _)⟩)
  have hne : p1 ≠ p2 := by omega
  have hq1 : w.heap.size ≤ p1 := by omega
  have hq2 : w.heap.size ≤ p2 := by omega
  have hT : Two V p1 p2 m m2 (.slice ao n cap) (.slice bo n2 cap2) := ⟨hG1, hG2⟩
  have HNE := Lib.hid (And.intro hne (And.intro hq1 hq2))
  unfold mgC at hV1 hV ⊢
  have HV := Lib.hid hV
  have HV1 := Lib.hid hV1
  have HP1 := Lib.hid hp1
  have HP2 := Lib.hid hp2
  have HB := Lib.hid hB
  have HT := Lib.hid hT
  clear hV hV1 hp1 hp2 hB hG1 hG2 hR hR2 hT hne hq1 hq2
  go_enter Try.func4, Try.ntmps4
  go_upto_region 1 with fail
  rw [← HP2.out, ← HP1.out, ← HV1.out, ← HV.out]
  go_cut [] (fun wx => Two wx p1 p2 (fewM m) (fewM m2) (.slice ao (cut80 n) cap) (.slice bo (cut80 n2) cap2) ∧ Below w.heap.size w wx)
  case first =>
    have hu := Try.underlying26
    have hT : Two V.drew p1 p2 m m2 (.slice ao n cap) (.slice bo n2 cap2) := HT.out
    have hbw : Below w.heap.size w V.drew := below_drewN' HB.out 1
    refine wp_region_any (by kernel_rfl) ?_
    change wpAny _ _ _ _ _ _ _ (World.drew _)
    refine wpAny_ready (rs := [0, 2]) (by kernel_rfl) (by simp) ?_
    refine AllReady.cons rfl (fun K hK => ?_) ?_
    ·
      rw [if_pos (by rfl)]
      refine wp_load_mid 26 _ rfl p1 0 rfl _ _ (Blk.range hT.1) hu rfl (mgInfo _ _) ?_
      refine hK _ _ ?_
      clear hK K
      try simp only [Act.put, List.setIfInBounds_toArray, List.set_cons_zero, List.set_cons_succ]
      refine wpAny_ready (rs := [1, 2]) (by kernel_rfl) (by simp) ?_
      refine AllReady.cons rfl (fun K hK => ?_) ?_
      ·
        go_simp
        go_wp2_with (refine (few_any _ m ao n cap (HRW.out _ hbw).1).mono ?_; rintro e w4 ⟨rfl, hb4⟩; replace hT := Two.next hT hb4; replace hbw := below_then' hbw hb4; clear hb4)
        try (refine hK _ _ ?_)
        try clear hK K
        try simp only [Act.put, List.setIfInBounds_toArray, List.set_cons_zero, List.set_cons_succ]
        refine wpAny_ready (rs := [2]) (by kernel_rfl) (by simp) ?_
        refine AllReady.cons rfl (fun K hK => ?_) ?_
        ·
          rw [if_pos (by rfl)]
          refine wp_load_mid 26 _ rfl p2 0 rfl _ _ (Blk.range hT.2) hu rfl (mgInfo _ _) ?_
          refine hK _ _ ?_
          clear hK K
          try simp only [Act.put, List.setIfInBounds_toArray, List.set_cons_zero, List.set_cons_succ]
          refine wpAny_ready (rs := [3]) (by kernel_rfl) (by simp) ?_
          refine AllReady.cons rfl (fun K hK => ?_) ?_
          ·
            go_simp
            go_wp2_with (refine (few_any _ m2 bo n2 cap2 (HRW.out _ hbw).2).mono ?_; rintro e w4 ⟨rfl, hb4⟩; replace hT := Two.next hT hb4; replace hbw := below_then' hbw hb4; clear hb4)
            try (refine hK _ _ ?_)
            try clear hK K
            try simp only [Act.put, List.setIfInBounds_toArray, List.set_cons_zero, List.set_cons_succ]
            refine wpAny_ready (rs := [4]) (by kernel_rfl) (by simp) ?_
            refine AllReady.cons rfl (fun K hK => ?_) ?_
            ·
              rw [if_pos (by rfl)]
              refine wp_store_mid 26 _ _ rfl p1 0 (mgC (fewM m) (.slice ao (cut80 n) cap)).toArray rfl rfl (Blk.there hT.1 _ _ rfl) (mgInfo _ _) (mgOne _ _ _ _) ?_
              refine hK _ _ ?_
              clear hK K
              have hS1 := putM_blk (m := fewM m) (v := .slice ao (cut80 n) cap) hT.1
              have hS2 := putM_other hT.2 (Ne.symm HNE.out.1) (fewM m) (.slice ao (cut80 n) cap)
              have hB5 := putM_below hbw HNE.out.2.1 (fewM m) (.slice ao (cut80 n) cap)
              change wpAny _ _ _ _ _ _ _ (putM _ p1 (fewM m) (.slice ao (cut80 n) cap))
              generalize putM _ p1 (fewM m) (.slice ao (cut80 n) cap) = W5 at hS1 hS2 hB5 ⊢
              try simp only [Act.put, List.setIfInBounds_toArray, List.set_cons_zero, List.set_cons_succ]
              refine wpAny_ready (rs := [5]) (by kernel_rfl) (by simp) ?_
              refine AllReady.cons rfl (fun K hK => ?_) ?_
              ·
                rw [if_pos (by rfl)]
                refine wp_store_mid 26 _ _ rfl p2 0 (mgC (fewM m2) (.slice bo (cut80 n2) cap2)).toArray rfl rfl (Blk.there hS2 _ _ rfl) (mgInfo _ _) (mgOne _ _ _ _) ?_
                refine hK _ _ ?_
                clear hK K
                have hS3 := putM_other hS1 HNE.out.1 (fewM m2) (.slice bo (cut80 n2) cap2)
                have hS4 := putM_blk (m := fewM m2) (v := .slice bo (cut80 n2) cap2) hS2
                have hB6 := putM_below hB5 HNE.out.2.2 (fewM m2) (.slice bo (cut80 n2) cap2)
                change wpAny _ _ _ _ _ _ _ (putM _ p2 (fewM m2) (.slice bo (cut80 n2) cap2))
                generalize putM _ p2 (fewM m2) (.slice bo (cut80 n2) cap2) = W6 at hS3 hS4 hB6 ⊢
                try simp only [Act.put, List.setIfInBounds_toArray, List.set_cons_zero, List.set_cons_succ]
                refine wpAny_done (by kernel_rfl) ?_ _
                go_wp2_with fail
                go_meet
                case rel => exact ⟨⟨hS3, hS4⟩, hB6⟩
              exact AllReady.nil
            exact AllReady.nil
          exact AllReady.nil
        exact AllReady.nil
      refine AllReady.cons rfl (fun K hK => ?_) ?_
      ·
        rw [if_pos (by rfl)]
        refine wp_load_mid 26 _ rfl p2 0 rfl _ _ (Blk.range hT.2) hu rfl (mgInfo _ _) ?_
        refine hK _ _ ?_
        clear hK K
        try simp only [Act.put, List.setIfInBounds_toArray, List.set_cons_zero, List.set_cons_succ]
        refine wpAny_ready (rs := [1]) (by kernel_rfl) (by simp) ?_
        refine AllReady.cons rfl (fun K hK => ?_) ?_
        ·
          go_simp
          go_wp2_with (refine (few_any _ m ao n cap (HRW.out _ hbw).1).mono ?_; rintro e w4 ⟨rfl, hb4⟩; replace hT := Two.next hT hb4; replace hbw := below_then' hbw hb4; clear hb4)
          try (refine hK _ _ ?_)
          try clear hK K
          try simp only [Act.put, List.setIfInBounds_toArray, List.set_cons_zero, List.set_cons_succ]
          refine wpAny_ready (rs := [3]) (by kernel_rfl) (by simp) ?_
          refine AllReady.cons rfl (fun K hK => ?_) ?_
          ·
            go_simp
            go_wp2_with (refine (few_any _ m2 bo n2 cap2 (HRW.out _ hbw).2).mono ?_; rintro e w4 ⟨rfl, hb4⟩; replace hT := Two.next hT hb4; replace hbw := below_then' hbw hb4; clear hb4)
            try (refine hK _ _ ?_)
            try clear hK K
            try simp only [Act.put, List.setIfInBounds_toArray, List.set_cons_zero, List.set_cons_succ]
            refine wpAny_ready (rs := [4]) (by kernel_rfl) (by simp) ?_
            refine AllReady.cons rfl (fun K hK => ?_) ?_
            ·
              rw [if_pos (by rfl)]
              refine wp_store_mid 26 _ _ rfl p1 0 (mgC (fewM m) (.slice ao (cut80 n) cap)).toArray rfl rfl (Blk.there hT.1 _ _ rfl) (mgInfo _ _) (mgOne _ _ _ _) ?_
              refine hK _ _ ?_
              clear hK K
              have hS1 := putM_blk (m := fewM m) (v := .slice ao (cut80 n) cap) hT.1
              have hS2 := putM_other hT.2 (Ne.symm HNE.out.1) (fewM m) (.slice ao (cut80 n) cap)
              have hB5 := putM_below hbw HNE.out.2.1 (fewM m) (.slice ao (cut80 n) cap)
              change wpAny _ _ _ _ _ _ _ (putM _ p1 (fewM m) (.slice ao (cut80 n) cap))
              generalize putM _ p1 (fewM m) (.slice ao (cut80 n) cap) = W5 at hS1 hS2 hB5 ⊢
              try simp only [Act.put, List.setIfInBounds_toArray, List.set_cons_zero, List.set_cons_succ]
              refine wpAny_ready (rs := [5]) (by kernel_rfl) (by simp) ?_
              refine AllReady.cons rfl (fun K hK => ?_) ?_
              ·
                rw [if_pos (by rfl)]
                refine wp_store_mid 26 _ _ rfl p2 0 (mgC (fewM m2) (.slice bo (cut80 n2) cap2)).toArray rfl rfl (Blk.there hS2 _ _ rfl) (mgInfo _ _) (mgOne _ _ _ _) ?_
                refine hK _ _ ?_
                clear hK K
                have hS3 := putM_other hS1 HNE.out.1 (fewM m2) (.slice bo (cut80 n2) cap2)
                have hS4 := putM_blk (m := fewM m2) (v := .slice bo (cut80 n2) cap2) hS2
                have hB6 := putM_below hB5 HNE.out.2.2 (fewM m2) (.slice bo (cut80 n2) cap2)
                change wpAny _ _ _ _ _ _ _ (putM _ p2 (fewM m2) (.slice bo (cut80 n2) cap2))
                generalize putM _ p2 (fewM m2) (.slice bo (cut80 n2) cap2) = W6 at hS3 hS4 hB6 ⊢
                try simp only [Act.put, List.setIfInBounds_toArray, List.set_cons_zero, List.set_cons_succ]
                refine wpAny_done (by kernel_rfl) ?_ _
                go_wp2_with fail
                go_meet
                case rel => exact ⟨⟨hS3, hS4⟩, hB6⟩
              exact AllReady.nil
            exact AllReady.nil
          exact AllReady.nil
        exact AllReady.nil
      exact AllReady.nil
    refine AllReady.cons rfl (fun K hK => ?_) ?_
    ·
      rw [if_pos (by rfl)]
      refine wp_load_mid 26 _ rfl p2 0 rfl _ _ (Blk.range hT.2) hu rfl (mgInfo _ _) ?_
      refine hK _ _ ?_
      clear hK K
      try simp only [Act.put, List.setIfInBounds_toArray, List.set_cons_zero, List.set_cons_succ]
      refine wpAny_ready (rs := [0]) (by kernel_rfl) (by simp) ?_
      refine AllReady.cons rfl (fun K hK => ?_) ?_
      ·
        rw [if_pos (by rfl)]
        refine wp_load_mid 26 _ rfl p1 0 rfl _ _ (Blk.range hT.1) hu rfl (mgInfo _ _) ?_
        refine hK _ _ ?_
        clear hK K
        try simp only [Act.put, List.setIfInBounds_toArray, List.set_cons_zero, List.set_cons_succ]
        refine wpAny_ready (rs := [1]) (by kernel_rfl) (by simp) ?_
        refine AllReady.cons rfl (fun K hK => ?_) ?_
        ·
          go_simp
          go_wp2_with (refine (few_any _ m ao n cap (HRW.out _ hbw).1).mono ?_; rintro e w4 ⟨rfl, hb4⟩; replace hT := Two.next hT hb4; replace hbw := below_then' hbw hb4; clear hb4)
          try (refine hK _ _ ?_)
          try clear hK K
          try simp only [Act.put, List.setIfInBounds_toArray, List.set_cons_zero, List.set_cons_succ]
          refine wpAny_ready (rs := [3]) (by kernel_rfl) (by simp) ?_
          refine AllReady.cons rfl (fun K hK => ?_) ?_
          ·
            go_simp
            go_wp2_with (refine (few_any _ m2 bo n2 cap2 (HRW.out _ hbw).2).mono ?_; rintro e w4 ⟨rfl, hb4⟩; replace hT := Two.next hT hb4; replace hbw := below_then' hbw hb4; clear hb4)
            try (refine hK _ _ ?_)
            try clear hK K
            try simp only [Act.put, List.setIfInBounds_toArray, List.set_cons_zero, List.set_cons_succ]
            refine wpAny_ready (rs := [4]) (by kernel_rfl) (by simp) ?_
            refine AllReady.cons rfl (fun K hK => ?_) ?_
            ·
              rw [if_pos (by rfl)]
              refine wp_store_mid 26 _ _ rfl p1 0 (mgC (fewM m) (.slice ao (cut80 n) cap)).toArray rfl rfl (Blk.there hT.1 _ _ rfl) (mgInfo _ _) (mgOne _ _ _ _) ?_
              refine hK _ _ ?_
              clear hK K
              have hS1 := putM_blk (m := fewM m) (v := .slice ao (cut80 n) cap) hT.1
              have hS2 := putM_other hT.2 (Ne.symm HNE.out.1) (fewM m) (.slice ao (cut80 n) cap)
              have hB5 := putM_below hbw HNE.out.2.1 (fewM m) (.slice ao (cut80 n) cap)
              change wpAny _ _ _ _ _ _ _ (putM _ p1 (fewM m) (.slice ao (cut80 n) cap))
              generalize putM _ p1 (fewM m) (.slice ao (cut80 n) cap) = W5 at hS1 hS2 hB5 ⊢
              try simp only [Act.put, List.setIfInBounds_toArray, List.set_cons_zero, List.set_cons_succ]
              refine wpAny_ready (rs := [5]) (by kernel_rfl) (by simp) ?_
              refine AllReady.cons rfl (fun K hK => ?_) ?_
              ·
                rw [if_pos (by rfl)]
                refine wp_store_mid 26 _ _ rfl p2 0 (mgC (fewM m2) (.slice bo (cut80 n2) cap2)).toArray rfl rfl (Blk.there hS2 _ _ rfl) (mgInfo _ _) (mgOne _ _ _ _) ?_
                refine hK _ _ ?_
                clear hK K
                have hS3 := putM_other hS1 HNE.out.1 (fewM m2) (.slice bo (cut80 n2) cap2)
                have hS4 := putM_blk (m := fewM m2) (v := .slice bo (cut80 n2) cap2) hS2
                have hB6 := putM_below hB5 HNE.out.2.2 (fewM m2) (.slice bo (cut80 n2) cap2)
                change wpAny _ _ _ _ _ _ _ (putM _ p2 (fewM m2) (.slice bo (cut80 n2) cap2))
                generalize putM _ p2 (fewM m2) (.slice bo (cut80 n2) cap2) = W6 at hS3 hS4 hB6 ⊢
                try simp only [Act.put, List.setIfInBounds_toArray, List.set_cons_zero, List.set_cons_succ]
                refine wpAny_done (by kernel_rfl) ?_ _
                go_wp2_with fail
                go_meet
                case rel => exact ⟨⟨hS3, hS4⟩, hB6⟩
              exact AllReady.nil
            exact AllReady.nil
          exact AllReady.nil
        exact AllReady.nil
      exact AllReady.nil
    exact AllReady.nil
  case rest =>
    obtain ⟨hT, hB⟩ := hcut
    obtain ⟨M1, hM1⟩ : ∃ M, M = fewM m := ⟨_, rfl⟩
    obtain ⟨N1, hN1⟩ : ∃ N, N = cut80 n := ⟨_, rfl⟩
    obtain ⟨M2, hM2⟩ : ∃ M, M = fewM m2 := ⟨_, rfl⟩
    obtain ⟨N2, hN2⟩ : ∃ N, N = cut80 n2 := ⟨_, rfl⟩
    have HRM : Hid (∀ W, Below w.heap.size w W → Rs W ao N1 cap 3 M1.list enC ∧ Rs W bo N2 cap2 3 M2.list enC) := Lib.hid (fun W h => by rw [hM1, hN1, hM2, hN2]; exact ⟨few_rows (HRW.out W h).1, few_rows (HRW.out W h).2⟩)
    have hN80 : N1 ≤ 1000000000 := by rw [hN1]; have := (cut80_le n).2; omega
    rw [← hM1, ← hN1, ← hM2, ← hN2] at hT
    have HT1 := Lib.hid hT
    have HB1 := Lib.hid hB
    have hlt1 := hT.1.lt
    have hlt2 := hT.2.lt
    clear hM1 hM2 hN1 hN2 hT hB
    go_wp2_with fail
    refine (ideal_any wc).mono ?_
    rintro e w1 ⟨rfl, hI, hb1⟩
    obtain ⟨mm, hmm⟩ : ∃ mm, mm = wc.heap.size := ⟨_, rfl⟩
    have hwm : w.heap.size ≤ mm := by rw [hmm]; exact HB1.out.size
    rw [← hmm] at hI
    have hT1 := HT1.out.next hb1
    have HT2 := Lib.hid hT1
    have HI := Lib.hid hI
    have HB2 := Lib.hid (below_then' HB1.out hb1)
    have hp1m : p1 < mm := by rw [hmm]; exact hlt1
    have hp2m : p2 < mm := by rw [hmm]; exact hlt2
    rw [← hmm]
    clear hI hb1 hT1 hmm hlt1 hlt2
    go_wp2_with (refine ld_mg HT2.out.1 rfl rfl rfl ?_)
    refine (bytes_either w1 (mm + 1) mm [] HI.out (by simp) M1 ao N1 cap (HRM.out _ HB2.out).1).mono ?_
    rintro e w2 ⟨s1, k1, seen1, rfl, hy1, hn1, hI1, hg1⟩
    have HT3 := Lib.hid (HT2.out.grown hg1 (by intro e; injection e with e; omega) (by intro e; injection e with e; omega))
    have HB3 := Lib.hid (HB2.out.grown hg1 HB2.out.size (by intro k hk; cases hk; exact hwm))
    have HI1 := Lib.hid hI1
    have hsl : seen1.length ≤ 1 := by
      by_cases h : rightM M1
      · rw [(hy1 h).2.2]; unfold addS; simp
      · rw [(hn1 h).2.2]; simp
    have HY1 := Lib.hid (And.intro hy1 hn1)
    clear hI1 hg1 hy1 hn1
    go_wp2_with (refine ld_mg HT3.out.2 rfl rfl rfl ?_)
    refine (bytes_either w2 (mm + 1) mm seen1 HI1.out (by omega) M2 bo N2 cap2 (HRM.out _ HB3.out).2).mono ?_
    rintro e w3 ⟨s2, k2, seen2, rfl, hy2, hn2, hI2, hg2⟩
    have HT4 := Lib.hid (HT3.out.grown hg2 (by intro e; injection e with e; omega) (by intro e; injection e with e; omega))
    have HB4 := Lib.hid (HB3.out.grown hg2 HB3.out.size (by intro k hk; cases hk; exact hwm))
    have HY2 := Lib.hid (And.intro hy2 hn2)
    clear hI2 hg2 hy2 hn2
    by_cases r1 : rightM M1
    case neg =>
      have hk1 : k1 = 1 := (HY1.out.2 r1).1
      subst hk1
      clear r1
      go_wp2_with fail
      refine (awake_any w3).mono ?_
      rintro e w4 ⟨rfl, hb4⟩
      have HB5 := Lib.hid (below_then' HB4.out hb4)
      clear hb4
      go_wp2
      go_ret
      exact ⟨rfl, HB5.out⟩
    have hk1 : k1 = 0 := (HY1.out.1 r1).1
    subst hk1
    by_cases r2 : rightM M2
    case neg =>
      have hk2 : k2 = 1 := (HY2.out.2 r2).1
      subst hk2
      clear r1 r2
      go_wp2_with fail
      refine (awake_any w3).mono ?_
      rintro e w4 ⟨rfl, hb4⟩
      have HB5 := Lib.hid (below_then' HB4.out hb4)
      clear hb4
      go_wp2
      go_ret
      exact ⟨rfl, HB5.out⟩
    have hk2 : k2 = 0 := (HY2.out.1 r2).1
    subst hk2
    obtain ⟨b, hb⟩ := boolOf (M1 = M2)
    have hst : (s1.toList == s2.toList) = b := by
      obtain ⟨-, e1, e2⟩ := HY1.out.1 r1
      obtain ⟨-, e3, -⟩ := HY2.out.1 r2
      by_cases hq : M1 = M2
      · rw [hb.2 hq]
        refine beqS_t ?_
        rw [e1, e3, e2, ← hq, idx_self]
      · have hbf : b = false := by
          cases b
          · rfl
          · exact absurd (hb.1 rfl) hq
        rw [hbf]
        refine beqS_f ?_
        intro h
        rw [e1, e3] at h
        exact hq (body_inj r1 r2 (mgS_eq h).1)
    have HBB := Lib.hid hb
    obtain ⟨c0, c1, c2, c3, c4, c5, c6, c7, c8, c9, c10, c11, c12, c13⟩ := mg_cells HT4.out.1
    obtain ⟨g0, g1, g2', g3, g4, g5, g6, g7, g8, g9, g10, g11, g12, g13⟩ := mg_cells HT4.out.2
    clear r1 r2 hb HI HI1 HY1 HY2 HT HT1 HT2 HT3 HV HV1
    go_wp2_with fail
    refine (same_is w3 M1 M2 ao N1 cap bo N2 cap2 (HRM.out _ HB4.out).1 (HRM.out _ HB4.out).2 hN80 b HBB).mono ?_
    rintro e w4 ⟨rfl, hb4⟩
    have HB5 := Lib.hid (below_then' HB4.out hb4)
    clear hb4 c0 c1 c2 c3 c4 c5 c6 c7 c8 c9 c10 c11 c12 c13 g0 g1 g2' g3 g4 g5 g6 g7 g8 g9 g10 g11 g12 g13
    go_wp2_with fail
    refine (awake_any w4).mono ?_
    rintro e w5 ⟨rfl, hb5⟩
    have HB6 := Lib.hid (below_then' HB5.out hb5)
    clear hb5
    go_wp2
    go_ret
    exact ⟨rfl, HB6.out⟩
end Go.Proofs.Ytlcpnpoleaanmaa
