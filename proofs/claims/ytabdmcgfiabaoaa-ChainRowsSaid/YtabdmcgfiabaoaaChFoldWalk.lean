/- chain's Fold. Conditions: as named in each theorem. -/
import Derived.Test.YtabdmcgfiabaoaaQF
namespace Go.Proofs.Ytabdmcgfiabaoaa
open Go.RowKit
set_option linter.unusedVariables false
set_option maxRecDepth 100000 in
set_option maxHeartbeats 1000000 in
theorem fold_any (w : World) (ao : Option Addr) (len cap : Nat) (l : List DV) (hR : Rs w ao len cap 4 l DV.c) (hg : ∀ x ∈ l, x.good w) (hn : len ≤ 1000000) :
    Calls Try.prog 20 #[.slice ao len cap] w fun e w' => FoldPost (dls l) w e w' := by
  have hdz : ∀ w : World, (zeroValue 25).run Try.prog w = .ok (.agg #[.string ByteArray.empty, .string ByteArray.empty, .int .i64 0, .slice none 0 0]) w := fun w => by kernel_rfl
  have HLEN := Lib.hid hR.2.2.1
  obtain ⟨W, hW⟩ : ∃ W, W = w.alloc (Obj.cells #[.string ByteArray.empty, .string ByteArray.empty, .int .i64 0, .slice none 0 0] 25) := ⟨_, rfl⟩
  obtain ⟨p2, hp2⟩ : ∃ p, p = w.heap.size := ⟨_, rfl⟩
  have hZ : Blk W p2 [.string ByteArray.empty, .string ByteArray.empty, .int .i64 0, .slice none 0 0] 25 := by rw [hW, hp2]; exact Blk.new w _ _
  have hB : Below w.heap.size w W := by rw [hW]; exact below_alloc w _
  have hw2 : w.heap.size ≤ p2 := by omega
  by_cases h0 : len = 0
  · subst h0
    have hl0 : l = [] := List.eq_nil_of_length_eq_zero HLEN.out
    have HF : Hid (FoldR (dls l) 1 zeroD) := Lib.hid (by rw [hl0]; exact ⟨rfl, rfl⟩)
    have z0 := hZ.cell (i := 0) rfl
    have z1 := hZ.cell (i := 1) rfl
    have z2 := hZ.cell (i := 2) rfl
    have z3 := hZ.cell (i := 3) rfl
    have f0 := hZ.frozen 0
    have f1 := hZ.frozen 1
    have f2 := hZ.frozen 2
    have f3 := hZ.frozen 3
    have HZ := Lib.hid hZ
    have HB := Lib.hid hB
    rw [hW, hp2] at z0 z1 z2 z3 f0 f1 f2 f3
    have HW := Lib.hid hW
    have HP2 := Lib.hid hp2
    have HW2 := Lib.hid hw2
    clear hl0 hZ hB hW hp2 hw2
    go_enter Try.func20, Try.ntmps20
    go_wp2
    rw [← HW.out, ← HP2.out]
    refine bodyPost_ret (results_cell_tmp_row rfl _ _ p2 25 _ (0, 0) _ rfl HZ.out Try.underlying25 rfl (by kernel_rfl)) rfl ?_
    exact FoldPost.fail HF.out HB.out
  · obtain ⟨b, off, rfl, hbw, hc⟩ := rs_d hR (by omega)
    have hl1 : 0 < l.length := by rw [HLEN.out]; omega
    obtain ⟨c0, c1, c2, c3⟩ := hc 0 hl1
    have hgx := hg _ (List.getElem_mem hl1)
    have hdl : dls l = l[0].d :: dls (l.drop 1) := by
      unfold dls
      rw [List.map_drop]
      have e : l = l[0] :: l.drop 1 := by rw [← List.drop_eq_getElem_cons hl1, List.drop_zero]
      calc l.map DV.d = (l[0] :: l.drop 1).map DV.d := by rw [← e]
        _ = _ := by rw [List.map_cons, List.map_drop]
    obtain ⟨x, hx⟩ : ∃ x, x = l[0] := ⟨_, rfl⟩
    rw [← hx] at c0 c1 c2 c3 hgx hdl
    obtain ⟨⟨b0, m0, s0, l0⟩, a0, n0, k0⟩ := x
    simp only [Nat.zero_mul, Nat.add_zero] at c0 c1 c2 c3 hdl
    obtain ⟨hgR, hgok⟩ := hgx
    simp only at hgR hgok
    have hgRW := hgR.below hB (Nat.le_refl _)
    have d0 := (hB.cell (p := ⟨b, off, none⟩) hbw).trans c0
    have d1 := (hB.cell (p := ⟨b, off + 1, none⟩) hbw).trans c1
    have d2 := (hB.cell (p := ⟨b, off + 2, none⟩) hbw).trans c2
    have d3 := (hB.cell (p := ⟨b, off + 3, none⟩) hbw).trans c3
    rw [hW] at d0 d1 d2 d3
    have HW := Lib.hid hW
    have HP2 := Lib.hid hp2
    have HDL := Lib.hid hdl
    have HC := Lib.hid hc
    have HG := Lib.hid hg
    have hcl : len ≤ cap := hR.1
    have hle : (1 : Int) ≤ (len : Int) := by omega
    have hl0' : (0 : Int) < (len : Int) := by omega
    obtain ⟨o1, o2, o3, o4⟩ := hgok
    simp only at o1 o2 o3 o4
    clear hW hp2 hdl hc hg hx hgR hl1
    go_enter Try.func20, Try.ntmps20
    go_wp2_with fail
    rw [← HW.out, ← HP2.out]
    refine (deltaRight_any W b0 m0 s0 a0 n0 k0 l0 o1 o2 o3 hgRW o4).mono ?_
    rintro e w1 ⟨⟨r, rfl, hr⟩, hb1⟩
    have hZ1 := hZ.below hb1 hZ.lt
    have hB1 := hB.trans (hb1.mono hB.size)
    have hR1 := hgRW.below hb1 (Nat.le_refl _)
    clear d0 d1 d2 d3 hb1 hB hgRW hZ
    cases r with
    | false =>
      have HF : Hid (FoldR (dls l) 1 zeroD) := Lib.hid (by rw [HDL.out]; exact .inl ⟨(fun h => by have := hr.2 h; cases this), rfl, rfl⟩)
      have z0 := hZ1.cell (i := 0) rfl
      have z1 := hZ1.cell (i := 1) rfl
      have z2 := hZ1.cell (i := 2) rfl
      have z3 := hZ1.cell (i := 3) rfl
      have f0 := hZ1.frozen 0
      have f1 := hZ1.frozen 1
      have f2 := hZ1.frozen 2
      have f3 := hZ1.frozen 3
      clear hr hR1
      go_wp2
      refine bodyPost_ret (results_cell_tmp_row rfl _ _ p2 25 _ (0, 0) _ rfl ((((hZ1.set 0 _).set 1 _).set 2 _).set 3 _) Try.underlying25 rfl (by kernel_rfl)) rfl ?_
      exact FoldPost.fail HF.out ((((hB1.setCell hw2 _).setCell hw2 _).setCell hw2 _).setCell hw2 _)
    | true =>
      have hRP := hr.1 rfl
      have HRP := Lib.hid hRP
      obtain ⟨hwt, hll⟩ := right_weight hRP
      obtain ⟨htok, htl⟩ := tidyD_ok hRP ⟨o1, o2, o3, o4⟩
      simp only at hwt hll htl
      have HTOK := Lib.hid htok
      have hn0 : n0 ≤ 524288 := by have := hR1.2.2.1; omega
      obtain ⟨V, hV⟩ : ∃ V, V = w1.alloc (Obj.cells #[.string b0, .string m0, .int .i64 s0, .slice a0 n0 k0] 25) := ⟨_, rfl⟩
      obtain ⟨p4, hp4⟩ : ∃ p, p = w1.heap.size := ⟨_, rfl⟩
      have hDV : Blk V p4 [.string b0, .string m0, .int .i64 s0, .slice a0 n0 k0] 25 := by rw [hV, hp4]; exact Blk.new w1 _ _
      have hZV : Blk V p2 [.string ByteArray.empty, .string ByteArray.empty, .int .i64 0, .slice none 0 0] 25 := by rw [hV]; exact hZ1.alloc _
      have hbV : Below w1.heap.size w1 V := by rw [hV]; exact below_alloc _ _
      have hBV := hB1.trans (hbV.mono hB1.size)
      have hRV := hR1.below hbV (Nat.le_refl _)
      have n24 : p2 < p4 := by rw [hp4]; exact hZ1.lt
      have d0 := (hB1.cell (p := ⟨b, off, none⟩) hbw).trans c0
      have d1 := (hB1.cell (p := ⟨b, off + 1, none⟩) hbw).trans c1
      have d2 := (hB1.cell (p := ⟨b, off + 2, none⟩) hbw).trans c2
      have d3 := (hB1.cell (p := ⟨b, off + 3, none⟩) hbw).trans c3
      have x3 := hDV.cell (i := 3) rfl
      rw [hV, hp4] at x3
      have HV := Lib.hid hV
      have HP4 := Lib.hid hp4
      clear hr hRP htok hV hp4 hB1 hR1 hZ1 hbV
      go_wp2_with fail
      rw [← HV.out, ← HP4.out]
      refine (tidy_any V a0 n0 k0 l0 hRV (by omega) (by omega)).mono ?_
      rintro e w3 ⟨v3, rfl, hO3, hb3⟩
      obtain ⟨a3, k3, rfl⟩ := owns_slice hO3
      have hD3 := hDV.below hb3 hDV.lt
      have hZ3 := hZV.below hb3 hZV.lt
      have hB3 := hBV.trans (hb3.mono hBV.size)
      have hp4V : p4 < V.heap.size := hDV.lt
      have f4 := hD3.frozen 3
      have x3 := hD3.cell (i := 3) rfl
      obtain ⟨w4, hw4⟩ : ∃ w4, w4 = w3.setCell ⟨p4, 3, none⟩ (.slice a3 (tidyL l0).length k3) := ⟨_, rfl⟩
      have hD4 : Blk w4 p4 [.string b0, .string m0, .int .i64 s0, .slice a3 (tidyL l0).length k3] 25 := by rw [hw4]; exact hD3.set 3 _
      have hZ4 : Blk w4 p2 [.string ByteArray.empty, .string ByteArray.empty, .int .i64 0, .slice none 0 0] 25 := by rw [hw4]; exact hZ3.setOther (by simp; omega) _
      have hO4 : Own w4 (p4 + 1) (.slice a3 (tidyL l0).length k3) (tidyL l0) := by rw [hw4]; exact (hO3.weaken (by omega)).setFar (by omega) 3 _
      have hB4 : Below w.heap.size w w4 := by rw [hw4]; exact hB3.setCell (by simp; omega) _
      have HW4 := Lib.hid hw4
      clear hD3 hZ3 hB3 hb3 hO3 hDV hZV hBV hRV d0 d1 d2 d3 c0 c1 c2 c3 hw4
      by_cases hc1 : cap = 1
      · have hln : len = 1 := by omega
        have hl1n : dls (l.drop 1) = [] := by unfold dls; rw [List.drop_eq_nil_of_le (by rw [HLEN.out]; omega)]; rfl
        have HFD : Hid (FoldR (dls l) 0 ⟨b0, m0, s0, tidyL l0⟩) := Lib.hid (by rw [HDL.out, hl1n]; exact .inr ⟨HRP.out, rfl, rfl⟩)
        have HLL : Hid ((⟨b0, m0, s0, tidyL l0⟩ : Dl).steps.length ≤ 1000000) := Lib.hid (by simp only; omega)
        subst hc1 hln
        clear hl1n
        go_wp2
        rw [← HW4.out]
        refine wp_loop_rounds 1 ?_
        rw [rounds_succ]
        have e0 := hD4.cell (i := 0) rfl
        have e1 := hD4.cell (i := 1) rfl
        have e2 := hD4.cell (i := 2) rfl
        have e3 := hD4.cell (i := 3) rfl
        have g0 := hD4.frozen 0
        have g1 := hD4.frozen 1
        have g2 := hD4.frozen 2
        have g3 := hD4.frozen 3
        have z0 := hZ4.cell (i := 0) rfl
        have z1 := hZ4.cell (i := 1) rfl
        have z2 := hZ4.cell (i := 2) rfl
        have z3 := hZ4.cell (i := 3) rfl
        have f0 := hZ4.frozen 0
        have f1 := hZ4.frozen 1
        have f2 := hZ4.frozen 2
        have f3 := hZ4.frozen 3
        have hZe := (((hZ4.set 0 (.string b0)).set 1 (.string m0)).set 2 (.int .i64 s0)).set 3 (.slice a3 (tidyL l0).length k3)
        have hOe := ((((hO4.setFar (show p2 < p4 + 1 by omega) 0 (.string b0)).setFar (show p2 < p4 + 1 by omega) 1 (.string m0)).setFar (show p2 < p4 + 1 by omega) 2 (.int .i64 s0)).setFar (show p2 < p4 + 1 by omega) 3 (.slice a3 (tidyL l0).length k3)).weaken (base' := w.heap.size) (by omega)
        have hBe := (((hB4.setCell hw2 (.string b0) (p := ⟨p2, 0, none⟩)).setCell hw2 (.string m0) (p := ⟨p2, 1, none⟩)).setCell hw2 (.int .i64 s0) (p := ⟨p2, 2, none⟩)).setCell hw2 (.slice a3 (tidyL l0).length k3) (p := ⟨p2, 3, none⟩)
        have HZE := Lib.hid hZe
        have HOE := Lib.hid hOe
        have HBE := Lib.hid hBe
        clear hZe hOe hBe
        go_wp2
        refine bodyPost_ret (results_cell_tmp_row rfl _ _ p2 25 _ (0, 0) _ rfl HZE.out Try.underlying25 rfl (by kernel_rfl)) rfl ?_
        exact ⟨0, ⟨b0, m0, s0, tidyL l0⟩, .slice a3 (tidyL l0).length k3, rfl, HFD.out, HLL.out, HOE.out, HBE.out⟩
      · have hcap : 1 < cap := by omega
        go_wp2
        rw [← HW4.out]
        obtain ⟨ln, hln⟩ : ∃ n, n = len - 1 := ⟨_, rfl⟩
        obtain ⟨cn, hcn⟩ : ∃ n, n = cap - 1 := ⟨_, rfl⟩
        rw [← hln, ← hcn]
        have hlc : ln ≤ cn := by omega
        have hlnn : ln ≤ 1000000 := by omega
        have HLN := Lib.hid (show ln + 1 = len by omega)
        have HIMP0 : Hid (∀ E D', FoldS ⟨b0, m0, s0, tidyL l0⟩ (dls (l.drop (0 + 1))) E D' → FoldR (dls l) E D') := Lib.hid (fun E D' h => by rw [HDL.out]; exact .inr ⟨HRP.out, h⟩)
        have HLL : Hid ((tidyL l0).length ≤ 1000000) := Lib.hid (by omega)
        clear hc1 hcap hln hcn f4 x3 hle hl0' hwt hll htl hn0 o1 o2 o3 o4 hcl
        go_loopw [29] (fun i wr => ∃ (k : Nat) (Db Dm : ByteArray) (Ds : Int) (Dl2 : List St) (v : Value), i = .int .i64 k ∧ k ≤ ln ∧ Blk wr p4 [.string Db, .string Dm, .int .i64 Ds, v] 25 ∧ Blk wr p2 [.string ByteArray.empty, .string ByteArray.empty, .int .i64 0, .slice none 0 0] 25 ∧ Own wr (p4 + 1) v Dl2 ∧ (⟨Db, Dm, Ds, Dl2⟩ : Dl).ok ∧ Dl2.length ≤ 1000000 ∧ (∀ E D', FoldS ⟨Db, Dm, Ds, Dl2⟩ (dls (l.drop (k + 1))) E D' → FoldR (dls l) E D') ∧ Below w.heap.size w wr) (fun i _ => ln - (intOf i).toNat)
        case atStart => exact ⟨0, b0, m0, s0, tidyL l0, _, rfl, by omega, hD4, hZ4, hO4, HTOK.out, HLL.out, HIMP0.out, hB4⟩
        case round =>
          clear hD4 hZ4 hO4 hB4
          obtain ⟨k, Db, Dm, Ds, Dl2, v, rfl, hk, hD, hZ, hO, hok, hdl, himp, hB⟩ := hrel
          obtain ⟨aD, kD, rfl⟩ := owns_slice hO
          have HOK := Lib.hid hok
          have HIMP := Lib.hid himp
          clear hok himp
          have hp4w := hD.lt
          by_cases hlt : k < ln
          · have hks : k + 1 < l.length := by rw [HLEN.out, ← HLN.out]; omega
            obtain ⟨c0, c1, c2, c3⟩ := HC.out (k + 1) hks
            have hgx := HG.out _ (List.getElem_mem hks)
            have hdr : dls (l.drop (k + 1)) = l[k + 1].d :: dls (l.drop (k + 1 + 1)) := by
              unfold dls; rw [drop_cons hks, List.map_cons]
            obtain ⟨x, hx⟩ : ∃ x, x = l[k + 1] := ⟨_, rfl⟩
            rw [← hx] at c0 c1 c2 c3 hgx hdr
            obtain ⟨⟨bx, mx, sx, lx⟩, ax, nx, kx⟩ := x
            simp only at c0 c1 c2 c3 hgx hdr
            rw [show off + (k + 1) * 4 = off + 4 + k * 4 by omega] at c0 c1 c2 c3
            have d0 := (hB.cell (p := ⟨b, off + 4 + k * 4, none⟩) hbw).trans c0
            have d1 := (hB.cell (p := ⟨b, off + 4 + k * 4 + 1, none⟩) hbw).trans c1
            have d2 := (hB.cell (p := ⟨b, off + 4 + k * 4 + 2, none⟩) hbw).trans c2
            have d3 := (hB.cell (p := ⟨b, off + 4 + k * 4 + 3, none⟩) hbw).trans c3
            have HDR := Lib.hid hdr
            have HGX := Lib.hid hgx
            have i1 : (k : Int) < (ln : Int) := by omega
            obtain ⟨V, hV⟩ : ∃ V, V = wr.alloc (Obj.cells #[.string bx, .string mx, .int .i64 sx, .slice ax nx kx] 25) := ⟨_, rfl⟩
            have hXV : Blk V wr.heap.size [.string bx, .string mx, .int .i64 sx, .slice ax nx kx] 25 := by rw [hV]; exact Blk.new wr _ _
            have hDV : Blk V p4 [.string Db, .string Dm, .int .i64 Ds, .slice aD Dl2.length kD] 25 := by rw [hV]; exact hD.alloc _
            have hZV : Blk V p2 [.string ByteArray.empty, .string ByteArray.empty, .int .i64 0, .slice none 0 0] 25 := by rw [hV]; exact hZ.alloc _
            have hOV : Own V (p4 + 1) (.slice aD Dl2.length kD) Dl2 := by rw [hV]; exact hO.alloc _
            have hBV : Below w.heap.size w V := by rw [hV]; exact hB.alloc hB.size _
            have y0 := hXV.cell (i := 0) rfl
            have y1 := hXV.cell (i := 1) rfl
            have y2 := hXV.cell (i := 2) rfl
            have y3 := hXV.cell (i := 3) rfl
            have x0 := hDV.cell (i := 0) rfl
            have x1 := hDV.cell (i := 1) rfl
            have x2 := hDV.cell (i := 2) rfl
            have x3 := hDV.cell (i := 3) rfl
            rw [hV] at y0 y1 y2 y3 x0 x1 x2 x3
            have HV := Lib.hid hV
            have HDV := Lib.hid hDV
            have hp4V : p4 < V.heap.size := hDV.lt
            clear c0 c1 c2 c3 hx hdr hgx hks hD hZ hO hB hXV hDV hV
            go_wp2_with fail
            rw [← HV.out]
            refine (compose_any V Db Dm bx mx Ds sx Dl2 lx aD Dl2.length kD ax nx kx (hOV.rs rfl) (HGX.out.1.below hBV (Nat.le_refl _)) HOK.out HGX.out.2).mono ?_
            rintro e w5 ⟨E1, ⟨Fb, Fm, Fs, Fl⟩, v5, rfl, hcr, hO5, hb5⟩
            simp only at hO5
            simp only
            obtain ⟨a5, k5, rfl⟩ := owns_slice hO5
            have hD5 := HDV.out.below hb5 hp4V
            have hZ5 := hZV.below hb5 hZV.lt
            have hB5 := hBV.trans (hb5.mono hBV.size)
            have hlen5 := hcr.len
            have hok5 := hcr.ok HOK.out HGX.out.2
            simp only at hlen5
            have HCR := Lib.hid hcr
            have HOK5 := Lib.hid hok5
            have hO55 := hO5.weaken (base' := p4 + 1) (by omega)
            have hwp4 : w.heap.size ≤ p4 := by omega
            have s0 := hD5.cell (i := 0) rfl
            have s1 := hD5.cell (i := 1) rfl
            have s2 := hD5.cell (i := 2) rfl
            have s3 := hD5.cell (i := 3) rfl
            have t0 := hD5.frozen 0
            have t1 := hD5.frozen 1
            have t2 := hD5.frozen 2
            have t3 := hD5.frozen 3
            obtain ⟨X, hX⟩ : ∃ X, X = (((w5.setCell ⟨p4, 0, none⟩ (.string Fb)).setCell ⟨p4, 1, none⟩ (.string Fm)).setCell ⟨p4, 2, none⟩ (.int .i64 Fs)).setCell ⟨p4, 3, none⟩ (.slice a5 Fl.length k5) := ⟨_, rfl⟩
            have hDX : Blk X p4 [.string Fb, .string Fm, .int .i64 Fs, .slice a5 Fl.length k5] 25 := by rw [hX]; exact (((hD5.set 0 _).set 1 _).set 2 _).set 3 _
            have hZX : Blk X p2 [.string ByteArray.empty, .string ByteArray.empty, .int .i64 0, .slice none 0 0] 25 := by rw [hX]; exact (((hZ5.setOther (by simp; omega) _).setOther (by simp; omega) _).setOther (by simp; omega) _).setOther (by simp; omega) _
            have hOX : Own X (p4 + 1) (.slice a5 Fl.length k5) Fl := by rw [hX]; exact (((hO55.setFar (by omega) 0 _).setFar (by omega) 1 _).setFar (by omega) 2 _).setFar (by omega) 3 _
            have hBX : Below w.heap.size w X := by rw [hX]; exact (((hB5.setCell hwp4 _).setCell hwp4 _).setCell hwp4 _).setCell hwp4 _
            have HX := Lib.hid hX
            have HDX := Lib.hid hDX
            have HOX := Lib.hid hOX
            have HBX := Lib.hid hBX
            clear y0 y1 y2 y3 x0 x1 x2 x3 d0 d1 d2 d3 hb5 hcr hok5 hO5 hO55 hD5 hZ5 hB5 hZV hOV hBV hX hDX hOX hBX
            by_cases hE : E1 = 0
            · have hne : (E1 != 0) = false := by simpa using hE
              have HIMP2 : Hid (∀ E D', FoldS ⟨Fb, Fm, Fs, Fl⟩ (dls (l.drop (k + 1 + 1))) E D' → FoldR (dls l) E D') := Lib.hid (fun E D' h => HIMP.out E D' (by rw [HDR.out]; exact ⟨E1, _, HCR.out, .inr ⟨hE, h⟩⟩))
              have HZX := Lib.hid hZX
              clear hE hZX
              go_wp2
              rw [← HX.out]
              go_roundw
              case rel => exact ⟨k + 1, Fb, Fm, Fs, Fl, _, by go_num, by omega, HDX.out, HZX.out, HOX.out, HOK5.out, hlen5, HIMP2.out, HBX.out⟩
              case measure => simp [intOf]; omega
            · have hne : (E1 != 0) = true := by simpa using hE
              have HF : Hid (FoldR (dls l) E1 zeroD) := Lib.hid (HIMP.out E1 zeroD (by rw [HDR.out]; exact ⟨E1, _, HCR.out, .inl ⟨hE, rfl, rfl⟩⟩))
              have z0 := hZX.cell (i := 0) rfl
              have z1 := hZX.cell (i := 1) rfl
              have z2 := hZX.cell (i := 2) rfl
              have z3 := hZX.cell (i := 3) rfl
              have f0 := hZX.frozen 0
              have f1 := hZX.frozen 1
              have f2 := hZX.frozen 2
              have f3 := hZX.frozen 3
              rw [HX.out] at z0 z1 z2 z3 f0 f1 f2 f3
              have HZX := Lib.hid hZX
              clear hE hZX
              go_wp2
              rw [← HX.out]
              refine bodyPost_ret (results_cell_tmp_row rfl _ _ p2 25 _ (0, 0) _ rfl ((((HZX.out.set 0 _).set 1 _).set 2 _).set 3 _) Try.underlying25 rfl (by kernel_rfl)) rfl ?_
              exact FoldPost.fail HF.out ((((HBX.out.setCell hw2 _).setCell hw2 _).setCell hw2 _).setCell hw2 _)
          · have hl1n : dls (l.drop (k + 1)) = [] := by unfold dls; rw [List.drop_eq_nil_of_le (by rw [HLEN.out, ← HLN.out]; omega)]; rfl
            have HFD : Hid (FoldR (dls l) 0 ⟨Db, Dm, Ds, Dl2⟩) := Lib.hid (HIMP.out 0 _ (by rw [hl1n]; exact ⟨rfl, rfl⟩))
            clear hl1n
            have e0 := hD.cell (i := 0) rfl
            have e1 := hD.cell (i := 1) rfl
            have e2 := hD.cell (i := 2) rfl
            have e3 := hD.cell (i := 3) rfl
            have g0 := hD.frozen 0
            have g1 := hD.frozen 1
            have g2 := hD.frozen 2
            have g3 := hD.frozen 3
            have z0 := hZ.cell (i := 0) rfl
            have z1 := hZ.cell (i := 1) rfl
            have z2 := hZ.cell (i := 2) rfl
            have z3 := hZ.cell (i := 3) rfl
            have f0 := hZ.frozen 0
            have f1 := hZ.frozen 1
            have f2 := hZ.frozen 2
            have f3 := hZ.frozen 3
            have hZe := (((hZ.set 0 (.string Db)).set 1 (.string Dm)).set 2 (.int .i64 Ds)).set 3 (.slice aD Dl2.length kD)
            have hOe := ((((hO.setFar (show p2 < p4 + 1 by omega) 0 (.string Db)).setFar (show p2 < p4 + 1 by omega) 1 (.string Dm)).setFar (show p2 < p4 + 1 by omega) 2 (.int .i64 Ds)).setFar (show p2 < p4 + 1 by omega) 3 (.slice aD Dl2.length kD)).weaken (base' := w.heap.size) (by omega)
            have hBe := (((hB.setCell hw2 (.string Db) (p := ⟨p2, 0, none⟩)).setCell hw2 (.string Dm) (p := ⟨p2, 1, none⟩)).setCell hw2 (.int .i64 Ds) (p := ⟨p2, 2, none⟩)).setCell hw2 (.slice aD Dl2.length kD) (p := ⟨p2, 3, none⟩)
            have HZE := Lib.hid hZe
            have HOE := Lib.hid hOe
            have HBE := Lib.hid hBe
            clear hZe hOe hBe
            go_wp2
            refine bodyPost_ret (results_cell_tmp_row rfl _ _ p2 25 _ (0, 0) _ rfl HZE.out Try.underlying25 rfl (by kernel_rfl)) rfl ?_
            exact ⟨0, ⟨Db, Dm, Ds, Dl2⟩, .slice aD Dl2.length kD, rfl, HFD.out, hdl, HOE.out, HBE.out⟩
end Go.Proofs.Ytabdmcgfiabaoaa
