/- The reference's Compose. Conditions: as named in each theorem. -/
import Derived.Test.YtabdmcgfiabaoaaChainComp
namespace Go.Proofs.Ytabdmcgfiabaoaa
open Go.RowKit
set_option linter.unusedVariables false

theorem src_in {l : List St} (h : ∀ x ∈ l, rightS x) {f : Int} (hf : By.src f ∈ bytesL l) : 0 ≤ f ∧ f ≤ 1000000 ∧ ∃ x ∈ l, x.text.size = 0 ∧ x.pos ≤ f ∧ f < x.pos + x.len := by
  unfold bytesL at hf
  rw [List.mem_flatMap] at hf
  obtain ⟨x, hx, hm⟩ := hf
  have hp := rightS_pos (h x hx)
  unfold bytes1 at hm
  by_cases ht : x.text.size ≠ 0
  · rw [if_pos ht] at hm; simp [toldL] at hm
  · rw [if_neg ht] at hm
    have h0 : x.text.size = 0 := by omega
    have h1 := hp.2 h0
    simp only [srcL, List.mem_map, List.mem_range] at hm
    obtain ⟨k, hk, he⟩ := hm
    injection he with he
    rw [w64_in (WalkArith.wf_i64 (by omega))] at he
    exact ⟨by omega, by omega, x, hx, h0, by omega, by omega⟩
theorem src_last {l : List St} (h : ∀ x ∈ l, rightS x) {x : St} (hx : x ∈ l) (h0 : x.text.size = 0) : By.src (x.pos + x.len - 1) ∈ bytesL l := by
  have h1 := (rightS_pos (h x hx)).2 h0
  unfold bytesL
  rw [List.mem_flatMap]
  refine ⟨x, hx, ?_⟩
  unfold bytes1
  rw [if_neg (by omega)]
  simp only [srcL, List.mem_map, List.mem_range]
  refine ⟨x.len.toNat - 1, by omega, ?_⟩
  rw [w64_in (WalkArith.wf_i64 (by omega))]
  congr 1
  omega

theorem compB_len_take (X Y : List By) (k : Nat) : ((Y.take k).flatMap (sub X)).length ≤ k := by
  induction k generalizing Y with
  | zero => simp
  | succ k ih =>
    cases Y with
    | nil => simp
    | cons x l =>
      rw [List.take_succ_cons, List.flatMap_cons, List.length_append]
      have : (sub X x).length ≤ 1 := by
        cases x with
        | told c => exact Nat.le_refl _
        | src f => unfold sub; cases X[f.toNat]? <;> simp
      have := ih l
      omega

set_option maxRecDepth 100000 in
set_option maxHeartbeats 1000000 in
theorem refCompose_any (w : World) (ba ma bb mb : ByteArray) (sa sb : Int) (la lb : List St) (aa : Option Addr) (lena capa : Nat) (ab : Option Addr) (lenb capb : Nat) (hRa : Rs w aa lena capa 3 la St.c) (hRb : Rs w ab lenb capb 3 lb St.c) (oka : (⟨ba, ma, sa, la⟩ : Dl).ok) (okb : (⟨bb, mb, sb, lb⟩ : Dl).ok) :
    Calls Try.prog 18 #[.agg #[.string ba, .string ma, .int .i64 sa, .slice aa lena capa], .agg #[.string bb, .string mb, .int .i64 sb, .slice ab lenb capb]] w fun e w' => CompPost ⟨ba, ma, sa, la⟩ ⟨bb, mb, sb, lb⟩ w e w' := by
  obtain ⟨i0, hi, hz0, hz1, hz2⟩ := info_parts infoBy
  have hgz := byZ_run
  have hdz : ∀ w : World, (zeroValue 25).run Try.prog w = .ok (.agg #[.string ByteArray.empty, .string ByteArray.empty, .int .i64 0, .slice none 0 0]) w := fun w => by kernel_rfl
  obtain ⟨hsa, hba, hma, hoka⟩ := oka
  obtain ⟨hsb, hbb, hmb, hokb⟩ := okb
  simp only at hsa hba hma hoka hsb hbb hmb hokb
  obtain ⟨W, hW⟩ : ∃ W, W = ((w.alloc (Obj.cells #[.string ba, .string ma, .int .i64 sa, .slice aa lena capa] 25)).alloc (Obj.cells #[.string bb, .string mb, .int .i64 sb, .slice ab lenb capb] 25)).alloc (Obj.cells #[.string ByteArray.empty, .string ByteArray.empty, .int .i64 0, .slice none 0 0] 25) := ⟨_, rfl⟩
  have hA : Blk W w.heap.size [.string ba, .string ma, .int .i64 sa, .slice aa lena capa] 25 := by rw [hW]; exact ((Blk.new w _ _).alloc _).alloc _
  have hC : Blk W (w.heap.size + 1) [.string bb, .string mb, .int .i64 sb, .slice ab lenb capb] 25 := by
    have := Blk.new (w.alloc (Obj.cells #[.string ba, .string ma, .int .i64 sa, .slice aa lena capa] 25)) [.string bb, .string mb, .int .i64 sb, .slice ab lenb capb] 25
    rw [World.size_alloc] at this
    rw [hW]; exact this.alloc _
  have hZ : Blk W (w.heap.size + 2) [.string ByteArray.empty, .string ByteArray.empty, .int .i64 0, .slice none 0 0] 25 := by
    have := Blk.new ((w.alloc (Obj.cells #[.string ba, .string ma, .int .i64 sa, .slice aa lena capa] 25)).alloc (Obj.cells #[.string bb, .string mb, .int .i64 sb, .slice ab lenb capb] 25)) [.string ByteArray.empty, .string ByteArray.empty, .int .i64 0, .slice none 0 0] 25
    rw [World.size_alloc, World.size_alloc] at this
    rw [hW]; exact this
  have hB : Below w.heap.size w W := by rw [hW]; exact ((below_alloc w _).alloc (by simp) _).alloc (by simp; omega) _
  have q0 := hA.cell (i := 0) rfl
  have q1 := hA.cell (i := 1) rfl
  have q2 := hA.cell (i := 2) rfl
  have q3 := hA.cell (i := 3) rfl
  rw [hW] at q0 q1 q2 q3
  obtain ⟨p2, hp2⟩ : ∃ p, p = w.heap.size := ⟨_, rfl⟩
  obtain ⟨p3, hp3⟩ : ∃ p, p = w.heap.size + 1 := ⟨_, rfl⟩
  obtain ⟨p4, hp4⟩ : ∃ p, p = w.heap.size + 2 := ⟨_, rfl⟩
  rw [← hp2] at hA
  rw [← hp3] at hC
  rw [← hp4] at hZ
  have hw2 : w.heap.size ≤ p2 := by omega
  have hw3 : w.heap.size ≤ p3 := by omega
  have hw4 : w.heap.size ≤ p4 := by omega
  have n42 : p4 ≠ p2 := by omega
  have n43 : p4 ≠ p3 := by omega
  have HW := Lib.hid hW
  have HP2 := Lib.hid hp2
  have HP3 := Lib.hid hp3
  have HP4 := Lib.hid hp4
  have HA := Lib.hid hA
  have HC := Lib.hid hC
  have HZ := Lib.hid hZ
  have hRaW := hRa.below hB (Nat.le_refl _)
  have hRbW := hRb.below hB (Nat.le_refl _)
  clear hW hp2 hp3 hp4 hA hC hZ hRa hRb
  go_enter Try.func18, Try.ntmps18
  go_wp2_with fail
  rw [← HW.out, ← HP4.out, ← HP3.out, ← HP2.out]
  refine (refRight_any W ba ma sa aa lena capa la hsa hba hma hRaW hoka).mono ?_
  rintro e w1 ⟨⟨r, rfl, hr⟩, hb1⟩
  have hA1 := HA.out.below hb1 HA.out.lt
  have hC1 := HC.out.below hb1 HC.out.lt
  have hZ1 := HZ.out.below hb1 HZ.out.lt
  have hB1 := hB.trans (hb1.mono hB.size)
  have hRa1 := hRaW.below hb1 (Nat.le_refl _)
  have hRb1 := hRbW.below hb1 (Nat.le_refl _)
  clear q0 q1 q2 q3 hb1 hB hRaW hRbW
  cases r with
  | false =>
    have HF : Hid (CompR ⟨ba, ma, sa, la⟩ ⟨bb, mb, sb, lb⟩ 1 zeroD) := Lib.hid (.inl ⟨(fun h => by have := hr.2 h.1; cases this), rfl, rfl⟩)
    have z0 := hZ1.cell (i := 0) rfl
    have z1 := hZ1.cell (i := 1) rfl
    have z2 := hZ1.cell (i := 2) rfl
    have z3 := hZ1.cell (i := 3) rfl
    have f0 := hZ1.frozen 0
    have f1 := hZ1.frozen 1
    have f2 := hZ1.frozen 2
    have f3 := hZ1.frozen 3
    clear hr hA1 hC1 hRa1 hRb1
    go_wp2
    refine bodyPost_ret (results_cell_tmp_row rfl _ _ p4 25 _ (0, 0) _ rfl ((((hZ1.set 0 _).set 1 _).set 2 _).set 3 _) Try.underlying25 rfl (by kernel_rfl)) rfl ?_
    exact CompPost.fail HF.out ((((hB1.setCell hw4 _).setCell hw4 _).setCell hw4 _).setCell hw4 _)
  | true =>
    have HRA := Lib.hid (hr.1 rfl)
    have y0 := hC1.cell (i := 0) rfl
    have y1 := hC1.cell (i := 1) rfl
    have y2 := hC1.cell (i := 2) rfl
    have y3 := hC1.cell (i := 3) rfl
    clear hr
    go_wp2_with fail
    refine (refRight_any w1 bb mb sb ab lenb capb lb hsb hbb hmb hRb1 hokb).mono ?_
    rintro e w2 ⟨⟨r, rfl, hr⟩, hb2⟩
    have hA2 := hA1.below hb2 hA1.lt
    have hC2 := hC1.below hb2 hC1.lt
    have hZ2 := hZ1.below hb2 hZ1.lt
    have hB2 := hB1.trans (hb2.mono hB1.size)
    have hRa2 := hRa1.below hb2 (Nat.le_refl _)
    have hRb2 := hRb1.below hb2 (Nat.le_refl _)
    clear y0 y1 y2 y3 hb2 hB1 hRa1 hRb1 hA1 hC1 hZ1
    cases r with
    | false =>
      have HF : Hid (CompR ⟨ba, ma, sa, la⟩ ⟨bb, mb, sb, lb⟩ 1 zeroD) := Lib.hid (.inl ⟨(fun h => by have := hr.2 h.2; cases this), rfl, rfl⟩)
      have z0 := hZ2.cell (i := 0) rfl
      have z1 := hZ2.cell (i := 1) rfl
      have z2 := hZ2.cell (i := 2) rfl
      have z3 := hZ2.cell (i := 3) rfl
      have f0 := hZ2.frozen 0
      have f1 := hZ2.frozen 1
      have f2 := hZ2.frozen 2
      have f3 := hZ2.frozen 3
      clear hr hA2 hC2 hRa2 hRb2
      go_wp2
      refine bodyPost_ret (results_cell_tmp_row rfl _ _ p4 25 _ (0, 0) _ rfl ((((hZ2.set 0 _).set 1 _).set 2 _).set 3 _) Try.underlying25 rfl (by kernel_rfl)) rfl ?_
      exact CompPost.fail HF.out ((((hB2.setCell hw4 _).setCell hw4 _).setCell hw4 _).setCell hw4 _)
    | true =>
      have HRB := Lib.hid (hr.1 rfl)
      have y0 := hC2.cell (i := 0) rfl
      have x1 := hA2.cell (i := 1) rfl
      clear hr
      by_cases hmk : ma = bb
      · have hmb1 : (ma.toList == bb.toList) = true := beqS_t (by rw [hmk])
        have HMK := Lib.hid hmk
        have x3 := hA2.cell (i := 3) rfl
        obtain ⟨g1, g2, g3, g4, g5, g6⟩ := HRA.out
        obtain ⟨k1, k2, k3, k4, k5, k6⟩ := HRB.out
        simp only at g1 g2 g3 g4 g5 g6 k1 k2 k3 k4 k5 k6
        have hla := sum2_len g5
        have hlb := sum2_len k5
        have hla2 := hRa2.2.2.1
        have hlb2 := hRb2.2.2.1
        have hsla : sum2 la ≤ 524288 := by omega
        have hslb : sum2 lb ≤ 524288 := by omega
        have hlena : lena ≤ 524288 := by omega
        have hlenb : lenb ≤ 524288 := by omega
        have K5 := Lib.hid k5
        have hwa := weight_right g5
        have hwb0 := weight_right k5
        have hnx := bytes_len_right g5
        have hny := bytes_len_right k5
        have HG6 := Lib.hid g6
        clear hmk g1 g2 g5 g6 k1 k2 k5 k6 hla hlb hla2 hlb2
        go_wp2_with fail
        refine (refBytes_any w2 aa lena capa la hRa2 (by omega) (by omega)).mono ?_
        rintro e w3 ⟨v3, rfl, hO3, hb3⟩
        have hA3 := hA2.below hb3 hA2.lt
        have hC3 := hC2.below hb3 hC2.lt
        have hZ3 := hZ2.below hb3 hZ2.lt
        have hB3 := hB2.trans (hb3.mono hB2.size)
        have hRb3 := hRb2.below hb3 (Nat.le_refl _)
        have y3 := hC3.cell (i := 3) rfl
        clear y0 x1 x3 hb3 hB2 hRa2 hRb2 hA2 hC2 hZ2 hmb1
        go_wp2_with fail
        refine (refBytes_any w3 ab lenb capb lb hRb3 (by omega) (by omega)).mono ?_
        rintro e w4 ⟨v4, rfl, hO4, hb4⟩
        have HA4 := Lib.hid (hA3.below hb4 hA3.lt)
        have HC4 := Lib.hid (hC3.below hb4 hC3.lt)
        have HZ4 := Lib.hid (hZ3.below hb4 hZ3.lt)
        have hB4 := hB3.trans (hb4.mono hB3.size)
        have hO34 := hO3.below hb4
        obtain ⟨ax, cx, rfl⟩ := owns_slice hO34
        obtain ⟨ay, cy, rfl⟩ := owns_slice hO4
        have hRx := hO34.rs rfl
        have hRy := hO4.rs rfl
        obtain ⟨X, hX⟩ : ∃ X, X = bytesL la := ⟨_, rfl⟩
        obtain ⟨Y, hY⟩ : ∃ Y, Y = bytesL lb := ⟨_, rfl⟩
        rw [← hX] at hRx hnx
        rw [← hY] at hRy hny
        rw [← hX, ← hY]
        obtain ⟨nx, hnx2⟩ : ∃ n, n = X.length := ⟨_, rfl⟩
        obtain ⟨ny, hny2⟩ : ∃ n, n = Y.length := ⟨_, rfl⟩
        rw [← hnx2] at hRx hnx
        rw [← hny2] at hRy hny
        rw [← hnx2, ← hny2]
        have HX := Lib.hid hX
        have HY := Lib.hid hY
        have HNX := Lib.hid hnx2.symm
        have HNY := Lib.hid hny2.symm
        have HSA : Hid ((nx : Int) = sa) := Lib.hid (by rw [hnx]; exact HG6.out)
        have hnx3 : nx ≤ 524288 := by omega
        have hny3 : ny ≤ 524288 := by omega
        have hcy1 : ny ≤ cy := hRy.1
        clear y3 hb4 hB3 hRb3 hA3 hC3 hZ3 hO3 hO34 hO4 hX hY hnx2 hny2 hnx hny hwa hwb0
        go_wp2
        go_loopw [8, 9] (fun v i wr => ∃ (k : Nat) (out : List By), i = .int .i64 k ∧ k ≤ ny ∧ OwnB wr w4.heap.size v out ∧ out = (Y.take k).flatMap (sub X) ∧ (∀ f, By.src f ∈ Y.take k → f < (nx : Int)) ∧ Below w4.heap.size w4 wr) (fun _ i _ => ny - (intOf i).toNat)
        case atStart => exact ⟨0, [], rfl, by omega, OwnB.nil _ _, by simp, by simp, Below.refl _ _⟩
        case round =>
          obtain ⟨k, out, rfl, hk, hO, hoe, hin, hB⟩ := hrel
          have hol : out.length ≤ 524288 := by
            have h1 := compB_len_take X Y k
            rw [← hoe] at h1
            omega
          have HOE := Lib.hid hoe
          have HIN := Lib.hid hin
          clear hoe hin
          have hwb := hB.size
          by_cases hlt : k < ny
          · obtain ⟨g, off, rfl, hgw, hc⟩ := hRy.2.2.2 (by omega)
            have hks : k < Y.length := by rw [HNY.out]; exact hlt
            have hcc := hc k hks
            have hmem := List.getElem_mem hks
            have htk : (Y.take (k + 1)).flatMap (sub X) = (Y.take k).flatMap (sub X) ++ sub X Y[k] := by rw [List.take_succ_eq_append_getElem hks, List.flatMap_append]; simp
            have hts : ∀ f, By.src f ∈ Y.take (k + 1) → By.src f ∈ Y.take k ∨ By.src f = Y[k] := by
              intro f hf
              rw [List.take_succ_eq_append_getElem hks] at hf
              rcases List.mem_append.1 hf with h1 | h1
              · exact .inl h1
              · exact .inr (List.mem_singleton.1 h1)
            obtain ⟨x, hx⟩ : ∃ x, x = Y[k] := ⟨_, rfl⟩
            rw [← hx] at hcc hmem htk hts
            have HTK := Lib.hid htk
            have HTS := Lib.hid hts
            have HMEM := Lib.hid hmem
            have i1 : (k : Int) < (ny : Int) := by omega
            clear hc hx hmem htk hts hks
            cases x with
            | told c =>
              have d0 := (hB.cell (p := ⟨g, off + k * 3, none⟩) hgw).trans (hcc 0 _ rfl)
              have d1 : wr.cell? ⟨g, off + k * 3 + 1, none⟩ = some (.int .i64 0) := (hB.cell (p := ⟨g, off + (k * 3 + 1), none⟩) hgw).trans (hcc 1 _ rfl)
              have d2 : wr.cell? ⟨g, off + k * 3 + 2, none⟩ = some (.int .u8 (c.toNat : Nat)) := (hB.cell (p := ⟨g, off + (k * 3 + 2), none⟩) hgw).trans (hcc 2 _ rfl)
              have HSB : Hid (sub X (By.told c) = [By.told c]) := Lib.hid rfl
              clear hcc
              go_wp2_with (at_builtin; refine wpList_append_own _ rfl _ _ 29 rfl w4.heap.size 57 i0 (.agg #[.bool false, .int .i64 0, .int .u8 0]) 3 24 Try.underlying29 hi hz0 hz1 hz2 rfl (by decide) _ _ _ rfl (World.ownsRow.alloc hO _) ⟨wr.heap.size, 0, none⟩ 1 1 [.bool true, .int .i64 0, .int .u8 (c.toNat : Nat)] rfl rfl (cells_new wr _ _) (bc_one (.told c)) (by unfold maxLen; omega) (by omega) (by simp; omega) ?_; intro v' w5 hO5 hg5 _)
              have hO6 : OwnB w5 w4.heap.size v' (out ++ [.told c]) := OwnB.snoc (x := .told c) hO5
              have hB6 : Below w4.heap.size w4 w5 := (hB.alloc hwb _).grown hg5 (by simp; omega) hO.row_ge
              clear hO5 hg5
              go_wp2
              go_roundw
              case rel => exact ⟨k + 1, out ++ [.told c], by go_num, by omega, hO6, by rw [HTK.out, HOE.out, HSB.out], (fun f hf => (HTS.out f hf).elim (HIN.out f) (fun e => by cases e)), hB6⟩
              case measure => simp [intOf]; omega
            | src f =>
              have d0 := (hB.cell (p := ⟨g, off + k * 3, none⟩) hgw).trans (hcc 0 _ rfl)
              have d1 : wr.cell? ⟨g, off + k * 3 + 1, none⟩ = some (.int .i64 f) := (hB.cell (p := ⟨g, off + (k * 3 + 1), none⟩) hgw).trans (hcc 1 _ rfl)
              obtain ⟨f0, f1, xx, hxx, hxt, hxa, hxb⟩ := src_in K5.out (HY.out ▸ HMEM.out)
              clear hcc
              obtain ⟨fn, rfl⟩ : ∃ q : Nat, f = q := ⟨f.toNat, by omega⟩
              by_cases hfr : (nx : Int) ≤ (fn : Int)
              · have HF : Hid (CompR ⟨ba, ma, sa, la⟩ ⟨bb, mb, sb, lb⟩ 2 zeroD) := Lib.hid (.inr (.inr (.inl ⟨HRA.out, HRB.out, HMK.out, ⟨xx, hxx, hxt, by have := HSA.out; simp only; omega⟩, rfl, rfl⟩)))
                have hZr := HZ4.out.below hB HZ4.out.lt
                have hBB := hB4.trans (hB.mono hB4.size)
                have z0 := hZr.cell (i := 0) rfl
                have z1 := hZr.cell (i := 1) rfl
                have z2 := hZr.cell (i := 2) rfl
                have z3 := hZr.cell (i := 3) rfl
                have f0 := hZr.frozen 0
                have f1 := hZr.frozen 1
                have f2 := hZr.frozen 2
                have f3 := hZr.frozen 3
                clear hxx hxt hxa hxb
                go_wp2
                refine bodyPost_ret (results_cell_tmp_row rfl _ _ p4 25 _ (0, 0) _ rfl ((((hZr.set 0 _).set 1 _).set 2 _).set 3 _) Try.underlying25 rfl (by kernel_rfl)) rfl ?_
                exact CompPost.fail HF.out ((((hBB.setCell hw4 _).setCell hw4 _).setCell hw4 _).setCell hw4 _)
              · obtain ⟨gx, ox, rfl, hgxw, hcx⟩ := hRx.2.2.2 (by omega)
                have hfx : fn < X.length := by rw [HNX.out]; omega
                have hcy := hcx fn hfx
                have hget : sub X (By.src (fn : Int)) = [X[fn]] := by show (X[((fn : Nat) : Int).toNat]?).toList = _; rw [Int.toNat_natCast, List.getElem?_eq_getElem hfx]; rfl
                obtain ⟨y, hy⟩ : ∃ y, y = X[fn] := ⟨_, rfl⟩
                rw [← hy] at hcy hget
                have HSB := Lib.hid hget
                have hfn : fn ≤ 1000000 := by omega
                have i2 : (fn : Int) < (nx : Int) := by omega
                have hcn1 : nx ≤ cx := hRx.1
                have HFN := Lib.hid i2
                clear hcx hfx hget hy hxx hxt hxa hxb f0 f1 hfr
                cases y with
                | told c =>
                  have b0 := (hB.cell (p := ⟨gx, ox + fn * 3, none⟩) hgxw).trans (hcy 0 _ rfl)
                  have b1 : wr.cell? ⟨gx, ox + fn * 3 + 1, none⟩ = some (.int .i64 0) := (hB.cell (p := ⟨gx, ox + (fn * 3 + 1), none⟩) hgxw).trans (hcy 1 _ rfl)
                  have b2 : wr.cell? ⟨gx, ox + fn * 3 + 2, none⟩ = some (.int .u8 (c.toNat : Nat)) := (hB.cell (p := ⟨gx, ox + (fn * 3 + 2), none⟩) hgxw).trans (hcy 2 _ rfl)
                  clear hcy
                  go_wp2_with (at_builtin; refine wpList_append_own _ rfl _ _ 29 rfl w4.heap.size 57 i0 (.agg #[.bool false, .int .i64 0, .int .u8 0]) 3 24 Try.underlying29 hi hz0 hz1 hz2 rfl (by decide) _ _ _ rfl (World.ownsRow.alloc hO _) ⟨wr.heap.size, 0, none⟩ 1 1 [.bool true, .int .i64 0, .int .u8 (c.toNat : Nat)] rfl rfl (cells_new wr _ _) (bc_one (.told c)) (by unfold maxLen; omega) (by omega) (by simp; omega) ?_; intro v' w5 hO5 hg5 _)
                  have hO6 : OwnB w5 w4.heap.size v' (out ++ [.told c]) := OwnB.snoc (x := .told c) hO5
                  have hB6 : Below w4.heap.size w4 w5 := (hB.alloc hwb _).grown hg5 (by simp; omega) hO.row_ge
                  clear hO5 hg5
                  go_wp2
                  go_roundw
                  case rel => exact ⟨k + 1, out ++ [.told c], by go_num, by omega, hO6, by rw [HTK.out, HOE.out, HSB.out], (fun f hf => (HTS.out f hf).elim (HIN.out f) (fun e => by cases e; exact HFN.out)), hB6⟩
                  case measure => simp [intOf]; omega
                | src a =>
                  have b0 := (hB.cell (p := ⟨gx, ox + fn * 3, none⟩) hgxw).trans (hcy 0 _ rfl)
                  have b1 : wr.cell? ⟨gx, ox + fn * 3 + 1, none⟩ = some (.int .i64 a) := (hB.cell (p := ⟨gx, ox + (fn * 3 + 1), none⟩) hgxw).trans (hcy 1 _ rfl)
                  have b2 : wr.cell? ⟨gx, ox + fn * 3 + 2, none⟩ = some (.int .u8 0) := (hB.cell (p := ⟨gx, ox + (fn * 3 + 2), none⟩) hgxw).trans (hcy 2 _ rfl)
                  clear hcy
                  go_wp2_with (at_builtin; refine wpList_append_own _ rfl _ _ 29 rfl w4.heap.size 57 i0 (.agg #[.bool false, .int .i64 0, .int .u8 0]) 3 24 Try.underlying29 hi hz0 hz1 hz2 rfl (by decide) _ _ _ rfl (World.ownsRow.alloc hO _) ⟨wr.heap.size, 0, none⟩ 1 1 [.bool false, .int .i64 a, .int .u8 0] rfl rfl (cells_new wr _ _) (bc_one (.src a)) (by unfold maxLen; omega) (by omega) (by simp; omega) ?_; intro v' w5 hO5 hg5 _)
                  have hO6 : OwnB w5 w4.heap.size v' (out ++ [.src a]) := OwnB.snoc (x := .src a) hO5
                  have hB6 : Below w4.heap.size w4 w5 := (hB.alloc hwb _).grown hg5 (by simp; omega) hO.row_ge
                  clear hO5 hg5
                  go_wp2
                  go_roundw
                  case rel => exact ⟨k + 1, out ++ [.src a], by go_num, by omega, hO6, by rw [HTK.out, HOE.out, HSB.out], (fun f hf => (HTS.out f hf).elim (HIN.out f) (fun e => by cases e; exact HFN.out)), hB6⟩
                  case measure => simp [intOf]; omega
          · have hkk : Y.take k = Y := List.take_of_length_le (by rw [HNY.out]; omega)
            have hoe := HOE.out
            have hin := HIN.out
            rw [hkk] at hoe hin
            have hob : out = compB la lb := by rw [hoe, HX.out, HY.out]; rfl
            have HD : Hid (CompR ⟨ba, ma, sa, la⟩ ⟨bb, mb, sb, lb⟩ 0 ⟨ba, mb, sb, stepsB (compB la lb)⟩) := Lib.hid (.inr (.inr (.inr ⟨HRA.out, HRB.out, HMK.out, (fun ⟨x, hx, h1, h2⟩ => by
              have h3 := src_last K5.out hx h1
              rw [← HY.out] at h3
              have h4 := hin _ h3
              have := HSA.out
              simp only at h2
              omega), rfl, rfl⟩)))
            obtain ⟨ao, cp, rfl⟩ := owns_slice hO
            have hRd : Rs wr.drew ao out.length cp 3 out By.c := hO.rs rfl
            have hZr := HZ4.out.below hB HZ4.out.lt
            have hAr := HA4.out.below hB HA4.out.lt
            have hCr := HC4.out.below hB HC4.out.lt
            have hBr := hB4.trans (hB.mono hB4.size)
            have e0 := hAr.cell (i := 0) rfl
            have e1 := hCr.cell (i := 1) rfl
            have e2 := hCr.cell (i := 2) rfl
            have h2l := hAr.lt
            have h3l := hCr.lt
            have h4l := hZr.lt
            have HZR := Lib.hid hZr
            have HRD := Lib.hid hRd
            have HBR := Lib.hid hBr
            have HOB := Lib.hid hob
            clear hAr hCr hZr hRd hBr hkk hoe hin hO hB hob
            have hS0 : wr.drew.cell? ⟨p2, 0, none⟩ = some (.string ba) ∧ wr.drew.cell? ⟨p3, 1, none⟩ = some (.string mb) ∧ wr.drew.cell? ⟨p3, 2, none⟩ = some (.int .i64 sb) := ⟨e0, e1, e2⟩
            go_wp2
            go_region_held3 (fun w' => w'.cell? ⟨p2, 0, none⟩ = some (.string ba) ∧ w'.cell? ⟨p3, 1, none⟩ = some (.string mb) ∧ w'.cell? ⟨p3, 2, none⟩ = some (.int .i64 sb))
              (first | assumption | go_keep)
              (first | (go_at_call 14; refine (refSteps_any wr.drew ao out.length cp out HRD.out (by omega)).mono ?_; rintro e w6 ⟨v6, rfl, hO6, hb6⟩; obtain ⟨ao6, cp6, rfl⟩ := owns_slice hO6; have hS6 : w6.cell? ⟨p2, 0, none⟩ = some (.string ba) ∧ w6.cell? ⟨p3, 1, none⟩ = some (.string mb) ∧ w6.cell? ⟨p3, 2, none⟩ = some (.int .i64 sb) := ⟨(hb6.cell (p := ⟨p2, 0, none⟩) h2l).trans e0, (hb6.cell (p := ⟨p3, 1, none⟩) h3l).trans e1, (hb6.cell (p := ⟨p3, 2, none⟩) h3l).trans e2⟩; have hZ6 : Blk w6 p4 [.string ByteArray.empty, .string ByteArray.empty, .int .i64 0, .slice none 0 0] 25 := HZR.out.drew.below hb6 h4l; have z0 := hZ6.cell (i := 0) rfl; have z1 := hZ6.cell (i := 1) rfl; have z2 := hZ6.cell (i := 2) rfl; have z3 := hZ6.cell (i := 3) rfl; have f0 := hZ6.frozen 0; have f1 := hZ6.frozen 1; have f2 := hZ6.frozen 2; have f3 := hZ6.frozen 3))
            have hBe : Below w.heap.size w w6 := HBR.out.drew.trans (hb6.mono HBR.out.size)
            have hOe : Own w6 (w.heap.size + 3) (.slice ao6 (stepsB out).length cp6) (stepsB out) := hO6.weaken (by have := HP4.out; have : wr.drew.heap.size = wr.heap.size := rfl; omega)
            have hp4l : p4 < w.heap.size + 3 := by have := HP4.out; omega
            have hOz := (((hOe.setFar hp4l 0 (.string ba)).setFar hp4l 1 (.string mb)).setFar hp4l 2 (.int .i64 sb)).setFar hp4l 3 (.slice ao6 (stepsB out).length cp6)
            have hBz := (((hBe.setCell hw4 (.string ba) (p := ⟨p4, 0, none⟩)).setCell hw4 (.string mb) (p := ⟨p4, 1, none⟩)).setCell hw4 (.int .i64 sb) (p := ⟨p4, 2, none⟩)).setCell hw4 (.slice ao6 (stepsB out).length cp6) (p := ⟨p4, 3, none⟩)
            have hOy := hOz.weaken (base' := w.heap.size) (by omega)
            have hOy2 : Own ((((w6.setCell ⟨p4, 0, none⟩ (.string ba)).setCell ⟨p4, 1, none⟩ (.string mb)).setCell ⟨p4, 2, none⟩ (.int .i64 sb)).setCell ⟨p4, 3, none⟩ (.slice ao6 (stepsB out).length cp6)) w.heap.size (.slice ao6 (stepsB out).length cp6) (stepsB (compB la lb)) := by rw [← HOB.out]; exact hOy
            have HOY := Lib.hid hOy2
            clear hOy2
            have HBZ := Lib.hid hBz
            have HZ6 := Lib.hid hZ6
            clear hOe hOz hOy hBz hBe hO6 hb6 hZ6
            go_wp2
            refine bodyPost_ret (results_cell_tmp_row rfl _ _ p4 25 _ (0, 0) _ rfl ((((HZ6.out.set 0 _).set 1 _).set 2 _).set 3 _) Try.underlying25 rfl (by kernel_rfl)) rfl ?_
            exact ⟨0, ⟨ba, mb, sb, stepsB (compB la lb)⟩, .slice ao6 (stepsB out).length cp6, rfl, HD.out, HOY.out, HBZ.out⟩
      · have hmb1 : (ma.toList == bb.toList) = false := beqS_f (fun e => hmk (ByteArray.ext (Array.ext' e)))
        have HF : Hid (CompR ⟨ba, ma, sa, la⟩ ⟨bb, mb, sb, lb⟩ 13 zeroD) := Lib.hid (.inr (.inl ⟨HRA.out, HRB.out, hmk, rfl, rfl⟩))
        have z0 := hZ2.cell (i := 0) rfl
        have z1 := hZ2.cell (i := 1) rfl
        have z2 := hZ2.cell (i := 2) rfl
        have z3 := hZ2.cell (i := 3) rfl
        have f0 := hZ2.frozen 0
        have f1 := hZ2.frozen 1
        have f2 := hZ2.frozen 2
        have f3 := hZ2.frozen 3
        clear hmk hA2 hC2 hRa2 hRb2
        go_wp2
        refine bodyPost_ret (results_cell_tmp_row rfl _ _ p4 25 _ (0, 0) _ rfl ((((hZ2.set 0 _).set 1 _).set 2 _).set 3 _) Try.underlying25 rfl (by kernel_rfl)) rfl ?_
        exact CompPost.fail HF.out ((((hB2.setCell hw4 _).setCell hw4 _).setCell hw4 _).setCell hw4 _)
end Go.Proofs.Ytabdmcgfiabaoaa
