/- chain's Compose. Conditions: as named in each theorem. -/
import Derived.Test.YtabdmcgfiabaoaaChComp
namespace Go.Proofs.Ytabdmcgfiabaoaa
open Go.RowKit
set_option linter.unusedVariables false
set_option maxRecDepth 100000 in
set_option maxHeartbeats 1000000 in
theorem compose_any (w : World) (ba ma bb mb : ByteArray) (sa sb : Int) (la lb : List St) (aa : Option Addr) (lena capa : Nat) (ab : Option Addr) (lenb capb : Nat) (hRa : Rs w aa lena capa 3 la St.c) (hRb : Rs w ab lenb capb 3 lb St.c) (oka : (⟨ba, ma, sa, la⟩ : Dl).ok) (okb : (⟨bb, mb, sb, lb⟩ : Dl).ok) :
    Calls Try.prog 17 #[.agg #[.string ba, .string ma, .int .i64 sa, .slice aa lena capa], .agg #[.string bb, .string mb, .int .i64 sb, .slice ab lenb capb]] w fun e w' => CompPost ⟨ba, ma, sa, la⟩ ⟨bb, mb, sb, lb⟩ w e w' := by
  obtain ⟨i0, hi, hz0, hz1, hz2⟩ := info_parts infoStep
  have hgz := stepZ_run
  have hdz : ∀ w : World, (zeroValue 25).run Try.prog w = .ok (.agg #[.string ByteArray.empty, .string ByteArray.empty, .int .i64 0, .slice none 0 0]) w := fun w => by kernel_rfl
  obtain ⟨hsa, hba, hma, hoka⟩ := oka
  obtain ⟨hsb, hbb, hmb, hokb⟩ := okb
  simp only at hsa hba hma hoka hsb hbb hmb hokb
  obtain ⟨W, hW⟩ : ∃ W, W = ((w.alloc (Obj.cells #[.string ba, .string ma, .int .i64 sa, .slice aa lena capa] 25)).alloc (Obj.cells #[.string bb, .string mb, .int .i64 sb, .slice ab lenb capb] 25)).alloc (Obj.cells #[.string ByteArray.empty, .string ByteArray.empty, .int .i64 0, .slice none 0 0] 25) := ⟨_, rfl⟩
  have hA : Blk W w.heap.size [.string ba, .string ma, .int .i64 sa, .slice aa lena capa] 25 := by rw [hW]; exact ((Blk.new w _ _).alloc _).alloc _
  have hC : Blk W (w.heap.size + 1) [.string bb, .string mb, .int .i64 sb, .slice ab lenb capb] 25 := by
    have := Blk.new (w.alloc (Obj.cells #[.string ba, .string ma, .int .i64 sa, .slice aa lena capa] 25)) [.string bb, .string mb, .int .i64 sb, .slice ab lenb capb] 25
    rw [World.size_alloc] at this
    rw [hW]; exact this.alloc _
  have hZ : Blk W (w.heap.size + 2) [.string ByteArray.empty, .string ByteArray.empty, .int .i64 0, .slice none 0 0] 25 := by
    have := Blk.new ((w.alloc (Obj.cells #[.string ba, .string ma, .int .i64 sa, .slice aa lena capa] 25)).alloc (Obj.cells #[.string bb, .string mb, .int .i64 sb, .slice ab lenb capb] 25)) [.string ByteArray.empty, .string ByteArray.empty, .int .i64 0, .slice none 0 0] 25
    rw [World.size_alloc, World.size_alloc] at this
    rw [hW]; exact this
  have hB : Below w.heap.size w W := by rw [hW]; exact ((below_alloc w _).alloc (by simp) _).alloc (by simp; omega) _
  have q0 := hA.cell (i := 0) rfl
  have q1 := hA.cell (i := 1) rfl
  have q2 := hA.cell (i := 2) rfl
  have q3 := hA.cell (i := 3) rfl
  rw [hW] at q0 q1 q2 q3
  obtain ⟨p2, hp2⟩ : ∃ p, p = w.heap.size := ⟨_, rfl⟩
  obtain ⟨p3, hp3⟩ : ∃ p, p = w.heap.size + 1 := ⟨_, rfl⟩
  obtain ⟨p4, hp4⟩ : ∃ p, p = w.heap.size + 2 := ⟨_, rfl⟩
  rw [← hp2] at hA
  rw [← hp3] at hC
  rw [← hp4] at hZ
  have hw2 : w.heap.size ≤ p2 := by omega
  have hw3 : w.heap.size ≤ p3 := by omega
  have hw4 : w.heap.size ≤ p4 := by omega
  have n42 : p4 ≠ p2 := by omega
  have n43 : p4 ≠ p3 := by omega
  have HW := Lib.hid hW
  have HP2 := Lib.hid hp2
  have HP3 := Lib.hid hp3
  have HP4 := Lib.hid hp4
  have HA := Lib.hid hA
  have HC := Lib.hid hC
  have HZ := Lib.hid hZ
  have hRaW := hRa.below hB (Nat.le_refl _)
  have hRbW := hRb.below hB (Nat.le_refl _)
  clear hW hp2 hp3 hp4 hA hC hZ hRa hRb
  go_enter Try.func17, Try.ntmps17
  go_wp2_with fail
  rw [← HW.out, ← HP4.out, ← HP3.out, ← HP2.out]
  refine (deltaRight_any W ba ma sa aa lena capa la hsa hba hma hRaW hoka).mono ?_
  rintro e w1 ⟨⟨r, rfl, hr⟩, hb1⟩
  have hA1 := HA.out.below hb1 HA.out.lt
  have hC1 := HC.out.below hb1 HC.out.lt
  have hZ1 := HZ.out.below hb1 HZ.out.lt
  have hB1 := hB.trans (hb1.mono hB.size)
  have hRa1 := hRaW.below hb1 (Nat.le_refl _)
  have hRb1 := hRbW.below hb1 (Nat.le_refl _)
  clear q0 q1 q2 q3 hb1 hB hRaW hRbW
  cases r with
  | false =>
    have HF : Hid (CompR ⟨ba, ma, sa, la⟩ ⟨bb, mb, sb, lb⟩ 1 zeroD) := Lib.hid (.inl ⟨(fun h => by have := hr.2 h.1; cases this), rfl, rfl⟩)
    have z0 := hZ1.cell (i := 0) rfl
    have z1 := hZ1.cell (i := 1) rfl
    have z2 := hZ1.cell (i := 2) rfl
    have z3 := hZ1.cell (i := 3) rfl
    have f0 := hZ1.frozen 0
    have f1 := hZ1.frozen 1
    have f2 := hZ1.frozen 2
    have f3 := hZ1.frozen 3
    clear hr hA1 hC1 hRa1 hRb1
    go_wp2
    refine bodyPost_ret (results_cell_tmp_row rfl _ _ p4 25 _ (0, 0) _ rfl ((((hZ1.set 0 _).set 1 _).set 2 _).set 3 _) Try.underlying25 rfl (by kernel_rfl)) rfl ?_
    exact CompPost.fail HF.out ((((hB1.setCell hw4 _).setCell hw4 _).setCell hw4 _).setCell hw4 _)
  | true =>
    have HRA := Lib.hid (hr.1 rfl)
    have y0 := hC1.cell (i := 0) rfl
    have y1 := hC1.cell (i := 1) rfl
    have y2 := hC1.cell (i := 2) rfl
    have y3 := hC1.cell (i := 3) rfl
    clear hr
    go_wp2_with fail
    refine (deltaRight_any w1 bb mb sb ab lenb capb lb hsb hbb hmb hRb1 hokb).mono ?_
    rintro e w2 ⟨⟨r, rfl, hr⟩, hb2⟩
    have hA2 := hA1.below hb2 hA1.lt
    have hC2 := hC1.below hb2 hC1.lt
    have hZ2 := hZ1.below hb2 hZ1.lt
    have hB2 := hB1.trans (hb2.mono hB1.size)
    have hRa2 := hRa1.below hb2 (Nat.le_refl _)
    have hRb2 := hRb1.below hb2 (Nat.le_refl _)
    clear y0 y1 y2 y3 hb2 hB1 hRa1 hRb1 hA1 hC1 hZ1
    cases r with
    | false =>
      have HF : Hid (CompR ⟨ba, ma, sa, la⟩ ⟨bb, mb, sb, lb⟩ 1 zeroD) := Lib.hid (.inl ⟨(fun h => by have := hr.2 h.2; cases this), rfl, rfl⟩)
      have z0 := hZ2.cell (i := 0) rfl
      have z1 := hZ2.cell (i := 1) rfl
      have z2 := hZ2.cell (i := 2) rfl
      have z3 := hZ2.cell (i := 3) rfl
      have f0 := hZ2.frozen 0
      have f1 := hZ2.frozen 1
      have f2 := hZ2.frozen 2
      have f3 := hZ2.frozen 3
      clear hr hA2 hC2 hRa2 hRb2
      go_wp2
      refine bodyPost_ret (results_cell_tmp_row rfl _ _ p4 25 _ (0, 0) _ rfl ((((hZ2.set 0 _).set 1 _).set 2 _).set 3 _) Try.underlying25 rfl (by kernel_rfl)) rfl ?_
      exact CompPost.fail HF.out ((((hB2.setCell hw4 _).setCell hw4 _).setCell hw4 _).setCell hw4 _)
    | true =>
      have HRB := Lib.hid (hr.1 rfl)
      have y0 := hC2.cell (i := 0) rfl
      have x1 := hA2.cell (i := 1) rfl
      clear hr
      by_cases hmk : ma = bb
      · have hmb1 : (ma.toList == bb.toList) = true := beqS_t (by rw [hmk])
        have HMK := Lib.hid hmk
        have x3 := hA2.cell (i := 3) rfl
        obtain ⟨g1, g2, g3, g4, g5, g6⟩ := HRA.out
        obtain ⟨k1, k2, k3, k4, k5, k6⟩ := HRB.out
        simp only at g1 g2 g3 g4 g5 g6 k1 k2 k3 k4 k5 k6
        have hla := sum2_len g5
        have hlb := sum2_len k5
        have hla2 := hRa2.2.2.1
        have hlb2 := hRb2.2.2.1
        have hsla : sum2 la ≤ 524288 := by omega
        have hslb : sum2 lb ≤ 524288 := by omega
        have hlena : lena ≤ 524288 := by omega
        have hlenb : lenb ≤ 524288 := by omega
        have G5 := Lib.hid g5
        have K5 := Lib.hid k5
        have G6 := Lib.hid g6
        have HLA := Lib.hid hla2
        have HLB := Lib.hid hlb2
        clear hmk g1 g2 g5 g6 k1 k2 k5 k6 hla hlb hla2 hlb2
        go_wp2_with fail
        refine (laid_any w2 aa lena capa la hRa2 G5.out (by omega) (by omega)).mono ?_
        rintro e w3 ⟨pt, fv, rfl, hpt, hX3, hF3, hb3⟩
        have hA3 := hA2.below hb3 hA2.lt
        have hC3 := hC2.below hb3 hC2.lt
        have hZ3 := hZ2.below hb3 hZ2.lt
        have hB3 := hB2.trans (hb3.mono hB2.size)
        have hRa3 := hRa2.below hb3 (Nat.le_refl _)
        have hRb3 := hRb2.below hb3 (Nat.le_refl _)
        have y3 := hC3.cell (i := 3) rfl
        have HX3 := Lib.hid hX3
        have HF3 := Lib.hid hF3
        have HA3 := Lib.hid hA3
        have HC3 := Lib.hid hC3
        have HZ3 := Lib.hid hZ3
        clear y0 x1 x3 hb3 hB2 hRa2 hRb2 hA2 hC2 hZ2 hX3 hF3 hA3 hC3 hZ3 hmb1 hpt
        go_wp2
        go_loopw [7, 31] (fun v i wr => ∃ (k : Nat) (out : List St), i = .int .i64 k ∧ k ≤ lenb ∧ Own wr w3.heap.size v out ∧ out.length ≤ sum2 (lb.take k) ∧ bytesL out = compB la (lb.take k) ∧ (∀ x ∈ out, posOk x) ∧ (∀ x ∈ lb.take k, x.text.size = 0 → x.pos + x.len ≤ sa) ∧ Below w3.heap.size w3 wr) (fun _ i _ => lenb - (intOf i).toNat)
        case atStart => exact ⟨0, [], rfl, by omega, Own.nil _ _, by simp, rfl, by simp, by simp, Below.refl _ _⟩
        case round =>
          clear y3
          obtain ⟨k, out, rfl, hk, hO, hol, hbo, hpo, hfar, hB⟩ := hrel
          have HBO := Lib.hid hbo
          have HPO := Lib.hid hpo
          have HFAR := Lib.hid hfar
          clear hbo hpo hfar
          have hwb := hB.size
          by_cases hlt : k < lenb
          · obtain ⟨g, off, rfl, hgw, hc⟩ := rs_s hRb3 (by omega)
            have hks : k < lb.length := by rw [HLB.out]; exact hlt
            obtain ⟨c0, c1, c2⟩ := hc k hks
            have hrx := K5.out _ (List.getElem_mem hks)
            have hsu := sum2_succ lb k hks
            have hst := sum2_take lb (k + 1)
            have hcs := compB_succ la lb k hks
            have hfs := fun h => all_succ (P := fun x => x.text.size = 0 → x.pos + x.len ≤ sa) hks HFAR.out h
            have hmem := List.getElem_mem hks
            obtain ⟨x, hx⟩ : ∃ x, x = lb[k] := ⟨_, rfl⟩
            rw [← hx] at c0 c1 c2 hrx hsu hcs hfs hmem
            obtain ⟨p, n, t⟩ := x
            obtain ⟨r1, r2, r3, r4, r5⟩ := rightS_sum hrx
            simp only at r1 r2 r3 r5
            have hps := chRightS_pos hrx
            have d0 := (hB.cell (p := ⟨g, off + k * 3, none⟩) hgw).trans c0
            have d1 := (hB.cell (p := ⟨g, off + k * 3 + 1, none⟩) hgw).trans c1
            have d2 := (hB.cell (p := ⟨g, off + k * 3 + 2, none⟩) hgw).trans c2
            simp only at d0 d1 d2
            have HCS := Lib.hid hcs
            have HFS := Lib.hid hfs
            have HMEM := Lib.hid hmem
            have HRX := Lib.hid hrx
            have HPS := Lib.hid hps
            have i1 : (k : Int) < (lenb : Int) := by omega
            have hcl1 : lenb ≤ capb := hRb3.1
            have hbl := bytes_len_right G5.out
            have HBL := Lib.hid hbl
            obtain ⟨V, hV⟩ : ∃ V, V = wr.alloc (Obj.cells #[.int .i64 p, .int .i64 n, .string t] 55) := ⟨_, rfl⟩
            have hYV : Blk V wr.heap.size [.int .i64 p, .int .i64 n, .string t] 55 := by rw [hV]; exact Blk.new wr _ _
            have hOV : Own V w3.heap.size u7 out := by rw [hV]; exact hO.alloc _
            have hBV : Below w3.heap.size w3 V := by rw [hV]; exact hB.alloc hB.size _
            have y0 := hYV.cell (i := 0) rfl
            have y1 := hYV.cell (i := 1) rfl
            have y2 := hYV.cell (i := 2) rfl
            have x2 := (HA3.out.below hBV HA3.out.lt).cell (i := 2) rfl
            rw [hV] at y0 y1 y2 x2
            have HV := Lib.hid hV
            have HOV := Lib.hid hOV
            have HBV := Lib.hid hBV
            have HYV := Lib.hid hYV
            clear c0 c1 c2 hc hx hcs hfs hmem hrx hps hbl hks hO hB hV hYV hOV hBV
            by_cases ht : t.size ≠ 0
            · have hne := strNe ht
              have hbx : (bytes1 ⟨p, n, t⟩).flatMap (sub (bytesL la)) = bytes1 ⟨p, n, t⟩ := by rw [sub_step HRX.out (by rw [HBL.out]; omega) (fun h => absurd h ht), if_pos ht]
              have HBX := Lib.hid hbx
              have HTX := Lib.hid ht
              have hOx : (wr.alloc (Obj.cells #[.int .i64 p, .int .i64 n, .string t] 55)).ownsRow w3.heap.size 55 3 u7 out.length (out.flatMap St.c) := by rw [← HV.out]; exact HOV.out
              have hBx : Below w3.heap.size w3 (wr.alloc (Obj.cells #[.int .i64 p, .int .i64 n, .string t] 55)) := by rw [← HV.out]; exact HBV.out
              have hcn : ∀ j u, [Value.int .i64 p, .int .i64 n, .string t][j]? = some u → ((wr.alloc (Obj.cells #[.int .i64 p, .int .i64 n, .string t] 55)).alloc (.cells #[.int .i64 p, .int .i64 n, .string t] 55)).cell? ((⟨wr.heap.size + 1, 0, none⟩ : Addr).add j) = some u := by
                have h := cells_new (wr.alloc (Obj.cells #[.int .i64 p, .int .i64 n, .string t] 55)) [.int .i64 p, .int .i64 n, .string t] 55
                rwa [World.size_alloc] at h
              have HCN := Lib.hid hcn
              clear hbx ht hcn
              go_wp2_with (at_builtin; refine wpList_append_own _ rfl _ _ 22 rfl w3.heap.size 55 i0 (.agg #[.int .i64 0, .int .i64 0, .string ByteArray.empty]) 3 32 Try.underlying22 hi hz0 hz1 hz2 rfl (by decide) _ _ _ rfl (World.ownsRow.alloc hOx _) ⟨wr.heap.size + 1, 0, none⟩ 1 1 [.int .i64 p, .int .i64 n, .string t] rfl rfl HCN.out (sc_one ⟨p, n, t⟩) (by unfold maxLen; omega) (by omega) (by simp; omega) ?_; intro v' w5 hO5 hg5 _)
              have hO6 : Own w5 w3.heap.size v' (out ++ [⟨p, n, t⟩]) := Own.snoc (x := ⟨p, n, t⟩) hO5
              have hB6 : Below w3.heap.size w3 w5 := (hBx.alloc hBx.size _).grown hg5 (by have := hBx.size; simp at *; omega) (fun j hj => (World.ownsRow.lt hOx j hj).1)
              clear hO5 hg5 hOx hBx
              go_wp2
              go_roundw
              case rel => exact ⟨k + 1, out ++ [⟨p, n, t⟩], by go_num, by omega, hO6, by rw [hsu]; simp; omega, by rw [bytesL_append, HBO.out, HCS.out, HBX.out]; simp [bytesL], (fun y hy => (List.mem_append.1 hy).elim (HPO.out y) (fun h => by rw [List.mem_singleton.1 h]; exact HPS.out.1)), HFS.out (fun h => absurd h HTX.out), hB6⟩
              case measure => simp [intOf]; omega
            · have ht0 : t.size = 0 := by omega
              obtain rfl := strEmpty ht0
              obtain ⟨s1, s2, s3⟩ := HPS.out.2 rfl
              simp only at s1 s2 s3
              obtain ⟨pn, rfl⟩ : ∃ q : Nat, p = q := ⟨p.toNat, by omega⟩
              obtain ⟨nn, rfl⟩ : ∃ q : Nat, n = q := ⟨n.toNat, by omega⟩
              by_cases hfr : sa < (pn : Int) + nn
              · have HF : Hid (CompR ⟨ba, ma, sa, la⟩ ⟨bb, mb, sb, lb⟩ 2 zeroD) := Lib.hid (.inr (.inr (.inl ⟨HRA.out, HRB.out, HMK.out, ⟨_, HMEM.out, rfl, hfr⟩, rfl, rfl⟩)))
                have hZV := HZ3.out.below HBV.out HZ3.out.lt
                have hBB := hB3.trans (HBV.out.mono hB3.size)
                rw [HV.out] at hZV hBB
                have z0 := hZV.cell (i := 0) rfl
                have z1 := hZV.cell (i := 1) rfl
                have z2 := hZV.cell (i := 2) rfl
                have z3 := hZV.cell (i := 3) rfl
                have f0 := hZV.frozen 0
                have f1 := hZV.frozen 1
                have f2 := hZV.frozen 2
                have f3 := hZV.frozen 3
                clear ht
                go_wp2
                refine bodyPost_ret (results_cell_tmp_row rfl _ _ p4 25 _ (0, 0) _ rfl ((((hZV.set 0 _).set 1 _).set 2 _).set 3 _) Try.underlying25 rfl (by kernel_rfl)) rfl ?_
                exact CompPost.fail HF.out ((((hBB.setCell hw4 _).setCell hw4 _).setCell hw4 _).setCell hw4 _)
              · have hsb : sum1 ⟨(pn : Int), (nn : Int), ByteArray.empty⟩ = nn := by unfold sum1; show 0 + ((nn : Nat) : Int).toNat = nn; omega
                have hpl : pn + nn ≤ sum2 la := by have := G6.out; omega
                have HFR := Lib.hid hfr
                have HNX : Hid ((⟨(pn : Int), (nn : Int), ByteArray.empty⟩ : St).text.size = 0 → (⟨(pn : Int), (nn : Int), ByteArray.empty⟩ : St).pos + (⟨(pn : Int), (nn : Int), ByteArray.empty⟩ : St).len ≤ sa) := Lib.hid (fun _ => by simp only; omega)
                have hbx : (bytes1 ⟨(pn : Int), (nn : Int), ByteArray.empty⟩).flatMap (sub (bytesL la)) = ((bytesL la).drop pn).take nn := by
                  rw [sub_step HRX.out (by rw [HBL.out]; omega) (fun h => by rw [HBL.out]; simp only; omega), if_neg (by simp)]
                  simp
                have HBX := Lib.hid hbx
                have hn1 : 1 ≤ nn := by omega
                have hXV := HX3.out.below HBV.out HX3.out.lt
                have hFV := HF3.out.below HBV.out
                have hRaV := hRa3.below HBV.out (Nat.le_refl _)
                have hF3lt : ∀ j, fv.ownBlock = some j → j < w3.heap.size := fun j hj => (World.ownsRow.lt HF3.out j hj).2
                clear hbx ht ht0 hfr
                go_wp2_with fail
                rw [← HV.out]
                refine (piece_any V pt aa lena capa fv la pn nn hRaV G5.out hXV hFV (by omega) (by omega) hn1 hpl).mono ?_
                rintro e w4 ⟨v4, out2, rfl, hO4, hol4, hbo4, hpo4, hb4⟩
                have hB4 := HBV.out.trans (hb4.mono HBV.out.size)
                have hOo := HOV.out.below hb4
                have hne4 : out2 ≠ [] := by
                  rintro rfl
                  have h1 := congrArg List.length hbo4
                  rw [List.length_take, List.length_drop, HBL.out] at h1
                  simp [bytesL] at h1
                  omega
                obtain ⟨g4, c4, rfl, hg4⟩ : ∃ g c, v4 = .slice (some ⟨g, 0, none⟩) out2.length c ∧ V.heap.size ≤ g := by
                  rcases hO4.2 with ⟨-, h1⟩ | ⟨g, cap, cur, h1, h2, -⟩
                  · exact absurd (List.eq_nil_of_length_eq_zero h1) hne4
                  · exact ⟨g, cap, h1, h2⟩
                have hcells := World.ownsRow.cells hO4 (g := g4) rfl
                have hone : ∀ u ∈ out2.flatMap St.c, u.oneCell' = true := by
                  intro u hu
                  rw [List.mem_flatMap] at hu
                  obtain ⟨y, _, hy⟩ := hu
                  exact sc_one y u hy
                have HPO4 := Lib.hid hpo4
                have HBO4 := Lib.hid hbo4
                have HCELLS := Lib.hid hcells
                have HONE := Lib.hid hone
                have hfl4 : (out2.flatMap St.c).length = out2.length * 3 := flat_len out2
                have HFL := Lib.hid hfl4
                have hwb4 := hB4.size
                clear hcells hone hpo4 hbo4 hO4 hb4 d0 d1 d2 y0 y1 y2 x2 hXV hFV hRaV hfl4 hne4
                go_wp2_with (at_builtin; refine wpList_append_own _ rfl _ _ 22 rfl w3.heap.size 55 i0 (.agg #[.int .i64 0, .int .i64 0, .string ByteArray.empty]) 3 32 Try.underlying22 hi hz0 hz1 hz2 rfl (by decide) _ _ _ rfl hOo ⟨g4, 0, none⟩ out2.length c4 (out2.flatMap St.c) rfl HFL.out HCELLS.out HONE.out (by unfold maxLen; omega) (by omega) (by omega) ?_; intro v' w5 hO5 hg5 _)
                have hO6 : Own w5 w3.heap.size v' (out ++ out2) := by unfold Own; rw [List.length_append, List.flatMap_append]; exact hO5
                have hB6 : Below w3.heap.size w3 w5 := hB4.grown hg5 (by omega) hOo.row_ge
                clear hO5 hg5 hOo
                go_wp2
                go_roundw
                case rel => exact ⟨k + 1, out ++ out2, by go_num, by omega, hO6, by rw [hsu, List.length_append, hsb]; omega, by rw [bytesL_append, HBO.out, HCS.out, HBX.out, HBO4.out], (fun y hy => (List.mem_append.1 hy).elim (HPO.out y) (HPO4.out y)), HFS.out HNX.out, hB6⟩
                case measure => simp [intOf]; omega
          · have hkk : lb.take k = lb := List.take_of_length_le (by rw [HLB.out]; omega)
            rw [hkk] at hol
            have hbo := HBO.out
            have hfar := HFAR.out
            rw [hkk] at hbo hfar
            have HD : Hid (CompR ⟨ba, ma, sa, la⟩ ⟨bb, mb, sb, lb⟩ 0 ⟨ba, mb, sb, stepsB (compB la lb)⟩) := Lib.hid (.inr (.inr (.inr ⟨HRA.out, HRB.out, HMK.out, (fun ⟨x, hx, h1, h2⟩ => by have := hfar x hx h1; simp only at h2; omega), rfl, rfl⟩)))
            have htd : tidyL out = stepsB (compB la lb) := by rw [tidy_bytes out HPO.out, hbo]
            have HTD := Lib.hid htd
            have hwo : weight out ≤ 100000000 := by
              have h1 := compB_len la lb
              rw [← hbo, bytesL_len, bytes_len_right K5.out] at h1
              omega
            obtain ⟨ao, cp, rfl⟩ := owns_slice hO
            have hRd : Rs wr.drew ao out.length cp 3 out St.c := hO.rs rfl
            have hZr := HZ3.out.below hB HZ3.out.lt
            have hAr := HA3.out.below hB HA3.out.lt
            have hCr := HC3.out.below hB HC3.out.lt
            have hBr := hB3.trans (hB.mono hB3.size)
            have e0 := hAr.cell (i := 0) rfl
            have e1 := hCr.cell (i := 1) rfl
            have e2 := hCr.cell (i := 2) rfl
            have h2l := hAr.lt
            have h3l := hCr.lt
            have h4l := hZr.lt
            have HZR := Lib.hid hZr
            have HRD := Lib.hid hRd
            have HBR := Lib.hid hBr
            have hol2 : out.length ≤ 524288 := by omega
            clear hAr hCr hZr hRd hBr hkk hbo hfar htd hO hB hol
            have hS0 : wr.drew.cell? ⟨p2, 0, none⟩ = some (.string ba) ∧ wr.drew.cell? ⟨p3, 1, none⟩ = some (.string mb) ∧ wr.drew.cell? ⟨p3, 2, none⟩ = some (.int .i64 sb) := ⟨e0, e1, e2⟩
            go_wp2
            go_region_held3 (fun w' => w'.cell? ⟨p2, 0, none⟩ = some (.string ba) ∧ w'.cell? ⟨p3, 1, none⟩ = some (.string mb) ∧ w'.cell? ⟨p3, 2, none⟩ = some (.int .i64 sb))
              (first | assumption | go_keep)
              (first | (go_at_call 13; refine (tidy_any wr.drew ao out.length cp out HRD.out (by omega) hwo).mono ?_; rintro e w4 ⟨v4, rfl, hO4, hb4⟩; obtain ⟨ao4, cp4, rfl⟩ := owns_slice hO4; have hS4 : w4.cell? ⟨p2, 0, none⟩ = some (.string ba) ∧ w4.cell? ⟨p3, 1, none⟩ = some (.string mb) ∧ w4.cell? ⟨p3, 2, none⟩ = some (.int .i64 sb) := ⟨(hb4.cell (p := ⟨p2, 0, none⟩) h2l).trans e0, (hb4.cell (p := ⟨p3, 1, none⟩) h3l).trans e1, (hb4.cell (p := ⟨p3, 2, none⟩) h3l).trans e2⟩; have hZ4 : Blk w4 p4 [.string ByteArray.empty, .string ByteArray.empty, .int .i64 0, .slice none 0 0] 25 := HZR.out.drew.below hb4 h4l; have z0 := hZ4.cell (i := 0) rfl; have z1 := hZ4.cell (i := 1) rfl; have z2 := hZ4.cell (i := 2) rfl; have z3 := hZ4.cell (i := 3) rfl; have f0 := hZ4.frozen 0; have f1 := hZ4.frozen 1; have f2 := hZ4.frozen 2; have f3 := hZ4.frozen 3))
            have hBe : Below w.heap.size w w4 := HBR.out.drew.trans (hb4.mono HBR.out.size)
            have hOe : Own w4 (w.heap.size + 3) (.slice ao4 (tidyL out).length cp4) (tidyL out) := hO4.weaken (by have := HP4.out; have : wr.drew.heap.size = wr.heap.size := rfl; omega)
            have hp4l : p4 < w.heap.size + 3 := by have := HP4.out; omega
            have hOz := (((hOe.setFar hp4l 0 (.string ba)).setFar hp4l 1 (.string mb)).setFar hp4l 2 (.int .i64 sb)).setFar hp4l 3 (.slice ao4 (tidyL out).length cp4)
            have hBz := (((hBe.setCell hw4 (.string ba) (p := ⟨p4, 0, none⟩)).setCell hw4 (.string mb) (p := ⟨p4, 1, none⟩)).setCell hw4 (.int .i64 sb) (p := ⟨p4, 2, none⟩)).setCell hw4 (.slice ao4 (tidyL out).length cp4) (p := ⟨p4, 3, none⟩)
            have hOy := hOz.weaken (base' := w.heap.size) (by omega)
            have hOy2 : Own ((((w4.setCell ⟨p4, 0, none⟩ (.string ba)).setCell ⟨p4, 1, none⟩ (.string mb)).setCell ⟨p4, 2, none⟩ (.int .i64 sb)).setCell ⟨p4, 3, none⟩ (.slice ao4 (tidyL out).length cp4)) w.heap.size (.slice ao4 (tidyL out).length cp4) (stepsB (compB la lb)) := by rw [← HTD.out]; exact hOy
            have HOY := Lib.hid hOy2
            clear hOy2
            have HBZ := Lib.hid hBz
            have HZ4 := Lib.hid hZ4
            clear hOe hOz hOy hBz hBe hO4 hb4 hZ4
            go_wp2
            refine bodyPost_ret (results_cell_tmp_row rfl _ _ p4 25 _ (0, 0) _ rfl ((((HZ4.out.set 0 _).set 1 _).set 2 _).set 3 _) Try.underlying25 rfl (by kernel_rfl)) rfl ?_
            exact ⟨0, ⟨ba, mb, sb, stepsB (compB la lb)⟩, .slice ao4 (tidyL out).length cp4, rfl, HD.out, HOY.out, HBZ.out⟩
      · have hmb1 : (ma.toList == bb.toList) = false := beqS_f (fun e => hmk (ByteArray.ext (Array.ext' e)))
        have HF : Hid (CompR ⟨ba, ma, sa, la⟩ ⟨bb, mb, sb, lb⟩ 13 zeroD) := Lib.hid (.inr (.inl ⟨HRA.out, HRB.out, hmk, rfl, rfl⟩))
        have z0 := hZ2.cell (i := 0) rfl
        have z1 := hZ2.cell (i := 1) rfl
        have z2 := hZ2.cell (i := 2) rfl
        have z3 := hZ2.cell (i := 3) rfl
        have f0 := hZ2.frozen 0
        have f1 := hZ2.frozen 1
        have f2 := hZ2.frozen 2
        have f3 := hZ2.frozen 3
        clear hmk hA2 hC2 hRa2 hRb2
        go_wp2
        refine bodyPost_ret (results_cell_tmp_row rfl _ _ p4 25 _ (0, 0) _ rfl ((((hZ2.set 0 _).set 1 _).set 2 _).set 3 _) Try.underlying25 rfl (by kernel_rfl)) rfl ?_
        exact CompPost.fail HF.out ((((hB2.setCell hw4 _).setCell hw4 _).setCell hw4 _).setCell hw4 _)
end Go.Proofs.Ytabdmcgfiabaoaa
