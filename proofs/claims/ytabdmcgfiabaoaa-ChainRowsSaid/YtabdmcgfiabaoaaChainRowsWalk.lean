/- ChainRows: the walk. Conditions: none. -/
import Derived.Test.YtabdmcgfiabaoaaChRowLaw
import Derived.Test.YtabdmcgfiabaoaaChFoldWalk
import Derived.Test.YtabdmcgfiabaoaaDlLaw
import Derived.Deep.RegionHeld3
namespace Go.Proofs.Ytabdmcgfiabaoaa
open Go.RowKit Sg
set_option linter.unusedVariables false
set_option linter.unusedSimpArgs false
set_option maxRecDepth 100000 in
set_option maxHeartbeats 4000000 in
theorem chainRows_walk (w : World) (ao0 : Option Addr) (len0 cap0 : Nat) (ol : (Kd.sl .str).ok w [.slice ao0 len0 cap0]) (block : Int) (wb : (Lit.int .i64 block).wf = true) :
    Calls Try.prog 10 #[.slice ao0 len0 cap0, .int .i64 block] w fun e w' => e = .returned (.bool true) ∧ Below w.heap.size w w' := by
  have hdz := dlZ_run
  obtain ⟨ss, hR0, hss⟩ := strs_of ol
  have HFW := Lib.hid (few_any w ao0 len0 cap0 ss hR0 hss)
  clear ol hR0 hss
  go_enter Try.func10, Try.ntmps10
  go_wp2_with fail
  refine HFW.out.mono ?_
  rintro e w1 ⟨v1, rfl, hT, hB1⟩
  obtain ⟨a1, k1, rfl⟩ := slice_of hT
  have htl := fewL_len ss
  have HTS := Lib.hid (fewL_size ss)
  obtain ⟨ts, hts⟩ : ∃ ts, ts = fewL ss := ⟨_, rfl⟩
  rw [← hts] at hT htl HTS
  rw [← hts]
  have HT := Lib.hid hT
  have HB1 := Lib.hid hB1
  clear hts hT HFW hB1
  have FIN : Hid (∀ W, Below w.heap.size w W → Calls Try.prog 12 #[] W fun e w' => e = .returned (.bool true) ∧ Below w.heap.size w w') := Lib.hid (fun W hW => (chAwake_any W).mono (fun e w' ⟨h1, h2⟩ => ⟨h1, bl_nx hW h2⟩))
  by_cases h4 : ts.length < 2
  · go_wp2_with fail
    refine (FIN.out w1 HB1.out).mono ?_
    rintro e w2 ⟨rfl, hb2⟩
    go_wp2
    go_ret
    exact ⟨rfl, hb2⟩
  · by_cases h16 : block < 16
    · go_wp2_with fail
      refine (FIN.out w1 HB1.out).mono ?_
      rintro e w2 ⟨rfl, hb2⟩
      go_wp2
      go_ret
      exact ⟨rfl, hb2⟩
    · by_cases h1024 : 1024 < block
      · go_wp2_with fail
        refine (FIN.out w1 HB1.out).mono ?_
        rintro e w2 ⟨rfl, hb2⟩
        go_wp2
        go_ret
        exact ⟨rfl, hb2⟩
      · obtain ⟨B, rfl⟩ : ∃ B : Nat, block = B := ⟨block.toNat, by omega⟩
        have hB1 : 16 ≤ B := by omega
        have hB2 : B ≤ 1024 := by omega
        have hRt : Rs w1 a1 ts.length k1 1 ts (fun x => [.string x]) := RowS.rs HT.out rfl
        obtain ⟨g, off, rfl, hbw, hc⟩ := hRt.cell1 (by omega)
        obtain ⟨n, hn⟩ : ∃ n, n = ts.length := ⟨_, rfl⟩
        obtain ⟨n1, hn1⟩ : ∃ k, k = n - 1 := ⟨_, rfl⟩
        have c0 : w1.cell? ⟨g, off, none⟩ = some (.string (tx ts 0)) := hc 0 (by omega) _ (by have := tx_get (ts := ts) (i := 0) (by omega); rw [List.getElem?_eq_getElem (by omega)] at this; rw [Option.some.inj this])
        have cl : w1.cell? ⟨g, off + n1, none⟩ = some (.string (tx ts n1)) := hc n1 (by omega) _ (by have := tx_get (ts := ts) (i := n1) (by omega); rw [List.getElem?_eq_getElem (by omega)] at this; rw [Option.some.inj this])
        have htz : (tx ts 0).size ≤ 1000 := getD_size HTS.out 0
        have hlz : (tx ts n1).size ≤ 1000 := getD_size HTS.out n1
        rw [← hn] at hRt htl h4
        rw [← hn]
        obtain ⟨T0, hT0⟩ : ∃ T, T = tx ts 0 := ⟨_, rfl⟩
        obtain ⟨TL, hTL⟩ : ∃ T, T = tx ts n1 := ⟨_, rfl⟩
        rw [← hT0] at c0 htz
        rw [← hTL] at cl hlz
        have HTT := Lib.hid (And.intro hT0 (And.intro hTL (And.intro hn hn1)))
        have HRT := Lib.hid hRt
        have hw1 : (n : Int) - 1 = (n1 : Int) := by omega
        have hw2 : IntKind.i64.wrap ((n : Int) - 1) = (n1 : Int) := by rw [hw1]; exact IntWalk.i64_in _ (by omega)
        have hw3 : IntKind.i64.wrap (n1 : Int) = (n1 : Int) := IntWalk.i64_in _ (by omega)
        have hw4 : (n1 : Int) < (n : Int) := by omega
        have hw5 : (0 : Int) < (n : Int) := by omega
        have HNN : Hid (2 ≤ n ∧ n1 = n - 1 ∧ n ≤ 6) := Lib.hid ⟨by omega, hn1, htl⟩
        clear hT0 hTL hn hRt hc hn1
        go_wp2_with fail
        refine (ideal_any _).mono ?_
        rintro e w2 ⟨rfl, hI2, hbI⟩
        have hm2 : w1.heap.size + 2 ≤ w2.heap.size := by have := hI2.2.2.2.2.1.1; omega
        have HROW := Lib.hid (row_any w2 (w1.heap.size + 1) w1.heap.size [] (some ⟨g, off, none⟩) n k1 ts B hI2 (by simp) (HRT.out.next hbI) htl HTS.out hB1 hB2 (fun b o e => by injection e with e; injection e with e1 e2; omega))
        have HB2 := Lib.hid (bl_nx HB1.out hbI)
        have d0 := (hbI.cell (p := ⟨g, off, none⟩) hbw).trans c0
        have dl := (hbI.cell (p := ⟨g, off + n1, none⟩) hbw).trans cl
        obtain ⟨p, hp⟩ : ∃ p, p = w1.heap.size + 1 := ⟨_, rfl⟩
        obtain ⟨m, hm⟩ : ∃ p, p = w1.heap.size := ⟨_, rfl⟩
        have hgm : g < m := by omega
        have hmw : m < w2.heap.size := by omega
        have hmw1 : w.heap.size ≤ m := by rw [hm]; exact HB1.out.size
        rw [← hp, ← hm] at HROW
        rw [← hp]
        clear hI2 hbI c0 cl hbw hp hm hm2
        go_wp2_with fail
        refine HROW.out.mono ?_
        rintro e w3 ⟨v3, rfl, l, S, hl, hdl, hD, hI, hE, hlen, hmem, hK⟩
        have hgn : ¬ (some m = some g) := fun e => by injection e with e; omega
        have hgw2 : g < w2.heap.size := by omega
        have e0 := (hK.cell (i := off) hgw2 hgn).trans d0
        have el := (hK.cell (i := off + n1) hgw2 hgn).trans dl
        obtain ⟨a3, k3, rfl⟩ := owns_slice hD.1
        have hln : l.length = n1 := by rw [hl, HTT.out.2.2.2]
        rw [hln] at hD
        rw [hln]
        have hnn : n - 1 = n1 := HTT.out.2.2.2.symm
        rw [hnn] at hdl hmem hlen
        have HSL := Lib.hid (row_len (by omega) HTS.out hD hdl)
        rw [List.range_eq_range'] at hdl
        have hSl : S.length ≤ 90000000 := Nat.le_trans hlen (Nat.le_trans (Nat.add_le_add_left (Nat.mul_le_mul_left 3000000 (show n1 ≤ 5 by omega)) _) (by decide))
        have HRC := Lib.hid (runC_row (S := S) (ts := ts) (B := B) (by omega) HTS.out n1 0 0 (fun j h1 h2 => hmem j (by omega)))
        have HRUN := Lib.hid (chRun_any w3 p m S hI hSl T0 (by omega) a3 n1 k3 w2.heap.size l hD hln hmw (by omega) HSL.out)
        rw [hdl] at HRUN
        rw [HTT.out.1] at HRUN
        rw [HRC.out.1, HRC.out.2] at HRUN
        rw [← HTT.out.1, Nat.zero_add, ← HTT.out.2.1] at HRUN
        simp only at HRUN
        have HD := Lib.hid (And.intro hD (And.intro hln (And.intro hdl (And.intro hmem hK))))
        have hw3s : w2.heap.size ≤ w3.heap.size := hK.size
        clear hD hln hdl hmem hK hI hlen hl hE HRC HROW hnn d0 dl
        go_wp2_with fail
        refine HRUN.out.mono ?_
        rintro e w4 ⟨rfl, hI4, hk4⟩
        have hgw3 : g < w3.heap.size := by omega
        have d0 := (hk4.cell (i := off) hgw3 hgn).trans e0
        have dl := (hk4.cell (i := off + n1) hgw3 hgn).trans el
        have hD4 := HD.out.1.kept hmw hk4
        have HFOLD := Lib.hid (fold_any w4 a3 n1 k3 l (hD4.rs HD.out.2.1) hD4.good (by omega))
        have HB4 := Lib.hid (below_kept (below_kept HB2.out hmw1 HD.out.2.2.2.2) hmw1 hk4)
        have HI4 := Lib.hid hI4
        have hw4s : w3.heap.size ≤ w4.heap.size := hk4.size
        clear hD4 hI4 hk4 HRUN e0 el
        go_wp2_with fail
        refine HFOLD.out.mono ?_
        rintro e w5 ⟨E, ⟨Db, Dm, Ds, Dt⟩, v5, rfl, hfr, hdlen, hO5, hb5⟩
        simp only at hdlen hO5
        have hfr2 : FoldR ((List.range' 0 (n1 - 1 + 1)).map (dAt S ts B)) E ⟨Db, Dm, Ds, Dt⟩ := by
          rw [show n1 - 1 + 1 = n1 by omega, ← HD.out.2.2.1]; exact hfr
        obtain ⟨rfl, hM, hDb, hDm⟩ := fold_row (by omega) HTS.out (n1 - 1) hfr2
        rw [show n1 - 1 + 1 = n1 by omega, ← HTT.out.2.1] at hM hDm
        rw [← HTT.out.1] at hM hDb
        obtain ⟨a5, k5, rfl⟩ := owns_slice hO5
        simp only
        have hgw4 : g < w4.heap.size := by omega
        have e0 := (hb5.cell (p := ⟨g, off, none⟩) hgw4).trans d0
        have el := (hb5.cell (p := ⟨g, off + n1, none⟩) hgw4).trans dl
        obtain ⟨V, hV⟩ : ∃ V, V = w5.alloc (Obj.cells #[.string Db, .string Dm, .int .i64 Ds, .slice a5 Dt.length k5] 25) := ⟨_, rfl⟩
        obtain ⟨q, hq⟩ : ∃ q, q = w5.heap.size := ⟨_, rfl⟩
        have hbV : Below w5.heap.size w5 V := by rw [hV]; exact below_alloc _ _
        have hG : Blk V q [.string Db, .string Dm, .int .i64 Ds, .slice a5 Dt.length k5] 25 := by rw [hV, hq]; exact Blk.new _ _ _
        have hw5s : w4.heap.size ≤ w5.heap.size := hb5.size
        have y0 := (hbV.cell (p := ⟨g, off, none⟩) (by show g < w5.heap.size; omega)).trans e0
        have yl := (hbV.cell (p := ⟨g, off + n1, none⟩) (by show g < w5.heap.size; omega)).trans el
        have hI5 := (HI4.out.next hb5).next hbV
        have hOV : Own V w4.heap.size (.slice a5 Dt.length k5) Dt := hO5.below hbV
        have hok : (⟨Db, Dm, Ds, Dt⟩ : Dl).ok := by
          refine ⟨wfI _ (by have := hM.right.2.2.1; simp only at this ⊢; omega) (by have := hM.right.2.2.2.1; simp only at this ⊢; omega), by rw [hM.right.1]; decide, by rw [hM.right.2.1]; decide, fun x hx => ?_⟩
          obtain ⟨r1, r2, r3, r4, r5⟩ := rightS_pos (hM.right.2.2.2.2.1 x hx)
          exact ⟨wfI _ (by omega) (by omega), wfI _ (by omega) (by omega), by unfold maxLen; omega⟩
        have hnn := HNN.out
        have hmem0 := HD.out.2.2.2.1 0 (by omega)
        have hmemL := HD.out.2.2.2.1 (n1 - 1) (by omega)
        have hap := apply_mks (S := S) hM hDb hDm (by rw [HTT.out.1]; exact hmem0.1) (by rw [HTT.out.2.1]; have := hmemL.2; rw [show n1 - 1 + 1 = n1 by omega] at this; exact this)
        have hmw4 : m < w4.heap.size := by omega
        have HAP := Lib.hid (apply_i V.drew p m S (hI5.next (bl_drew (Below.refl _ V))) (by omega) T0 Db Dm Ds a5 Dt.length k5 Dt hok.1 hok.2.1 hok.2.2.1 (Own.rs rfl (hOV.below (bl_drew (Below.refl _ V)))) hok.2.2.2 hdlen (by omega) (fun W hW => Own.rs rfl (own_kept (hOV.below (bl_drew (Below.refl _ V))) hmw4 hW)))
        rw [hap.1, hap.2] at HAP
        simp only at HAP
        have q0 := hG.cell (i := 0) rfl
        have q1 := hG.cell (i := 1) rfl
        have q2 := hG.cell (i := 2) rfl
        have q3 := hG.cell (i := 3) rfl
        have HBV := Lib.hid (bl_nx (bl_nx HB4.out hb5) hbV)
        have HVV := Lib.hid (And.intro hV hq)
        have hVs : w5.heap.size ≤ V.heap.size := hbV.size
        have hgV : g < V.heap.size := by omega
        have hqV : q < V.heap.size := hG.lt
        have hqm : ¬ (some m = some q) := fun e => by injection e with e; omega
        clear hfr hfr2 hM hDb hDm hO5 hb5 hbV hI5 hOV hok hmem0 hmemL hap hG d0 dl e0 el hdlen hV hq
        have hw6 : 0 < n := by omega
        have hw7 : ¬ n = 0 := by omega
        have hw8 : ¬ (n : Int) ≤ 0 := by omega
        have hw5 : (0 : Int) < (n : Int) := by omega
        have hw1 : (n : Int) - 1 = (n1 : Int) := by omega
        have hw2 : IntKind.i64.wrap ((n : Int) - 1) = (n1 : Int) := by rw [hw1]; exact IntWalk.i64_in _ (by omega)
        have hw3 : IntKind.i64.wrap (n1 : Int) = (n1 : Int) := IntWalk.i64_in _ (by omega)
        have hw4 : (n1 : Int) < (n : Int) := by omega
        clear hnn
        go_upto_region 8 with fail
        rw [← HVV.out.1, ← HVV.out.2]
        go_region_held3 (fun w' => w'.cell? ⟨g, off, none⟩ = some (.string T0) ∧ w'.cell? ⟨q, 0, none⟩ = some (.string Db) ∧ w'.cell? ⟨q, 1, none⟩ = some (.string Dm) ∧ w'.cell? ⟨q, 2, none⟩ = some (.int .i64 Ds) ∧ w'.cell? ⟨q, 3, none⟩ = some (.slice a5 Dt.length k5))
          (first | exact ⟨y0, q0, q1, q2, q3⟩)
          (first | (go_at_call 29; refine HAP.out.mono ?_; rintro e w6 ⟨rfl, hI6, hk6⟩; replace y0 := (hk6.cell (i := off) (by exact hgV) hgn).trans y0; replace yl := (hk6.cell (i := off + n1) (by exact hgV) hgn).trans yl; replace q0 := (hk6.cell (i := 0) (by exact hqV) hqm).trans q0; replace q1 := (hk6.cell (i := 1) (by exact hqV) hqm).trans q1; replace q2 := (hk6.cell (i := 2) (by exact hqV) hqm).trans q2; replace q3 := (hk6.cell (i := 3) (by exact hqV) hqm).trans q3))
        all_goals
          have hse : (TL.toList == TL.toList) = true := by simp
          have hne : (n1 == n1) = true := by simp
          have HB6 := Lib.hid (below_kept (bl_nx HBV.out (bl_drew (Below.refl _ V))) hmw1 hk6)
          clear hk6 hI6 HAP y0 q0 q1 q2 q3
          go_wp2_with fail
          refine (FIN.out _ HB6.out).mono ?_
          rintro e w7 ⟨rfl, hb7⟩
          go_wp2
          go_ret
          exact ⟨rfl, hb7⟩
end Go.Proofs.Ytabdmcgfiabaoaa
