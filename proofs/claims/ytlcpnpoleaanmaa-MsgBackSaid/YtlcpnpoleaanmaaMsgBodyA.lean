/- A message's bytes: the program's body, walked. Conditions: the message may be. -/
import Derived.Test.YtlcpnpoleaanmaaMsgBody
import Derived.Test.YtlcpnpoleaanmaaMsgRightA
namespace Go.Proofs.Ytlcpnpoleaanmaa
open Go.RowKit
set_option linter.unusedVariables false

theorem pre_fld {m : Mg} {k : Nat} {c : UInt8} {d : List UInt8} (h : (flds m.kind)[k]? = some c) (hd : fldL m c = d) : pre m (k + 1) = pre m k ++ d := by rw [pre_succ m k c h, hd]
theorem low_at {k : Int} {i : Nat} {u : UInt8} (h : (flds k)[i]? = some u) : (lowS k).data.toList[i]? = some (u + 32) := by
  show (low (flds k))[i]? = _
  unfold low
  rw [List.getElem?_map, h]; rfl
theorem ens_take (l : List En) (j : Nat) (x : En) (h : l[j]? = some x) : (l.take (j + 1)).flatMap enL = (l.take j).flatMap enL ++ (numL x.gen.toNat ++ (numL x.ballot.toNat ++ x.mark.data.toList)) := by
  obtain ⟨hk, rfl⟩ := List.getElem?_eq_some_iff.1 h
  rw [List.take_succ_eq_append_getElem hk, List.flatMap_append]
  simp [enL]

set_option maxRecDepth 100000 in
set_option maxHeartbeats 20000000 in
theorem body_any (w : World) (m : Mg) (ao : Option Addr) (n cap : Nat) (hR : Rs w ao n cap 3 m.list enC) (hok : rightM m) :
    Calls Try.prog 35 #[.agg (mgC m (.slice ao n cap)).toArray] w fun e w' => e = .returned (.string (bA (bodyL m))) ∧ Below w.heap.size w w' := by
  obtain ⟨V1, hV1⟩ : ∃ V, V = w.alloc (.cells (mgC m (.slice ao n cap)).toArray 26) := ⟨_, rfl⟩
  obtain ⟨p1, hp1⟩ : ∃ p, p = w.heap.size := ⟨_, rfl⟩
  obtain ⟨V4, hV4⟩ : ∃ V, V = V1.alloc (Obj.cells #[.pointer none, .slice none 0 0] 81) := ⟨_, rfl⟩
  obtain ⟨p4, hp4⟩ : ∃ p, p = V1.heap.size := ⟨_, rfl⟩
  have hG1 : Blk V1 p1 (mgC m (.slice ao n cap)) 26 := by rw [hV1, hp1]; exact Blk.new _ _ _
  have hB1 : Below w.heap.size w V1 := by rw [hV1]; exact below_alloc' _ _
  have hB4 : Below V1.heap.size V1 V4 := by rw [hV4]; exact below_alloc' _ _
  have hG4 := hG1.below hB4 hG1.lt
  have hBl4 : Bld p4 p4 [] V4 := by rw [hV4, hp4]; exact Bld.fresh V1
  have hp14 : p1 < p4 := by have := hG1.lt; omega
  have hp4V : p4 ≤ V4.heap.size := by rw [hp4]; exact hB4.size
  have hpw : w.heap.size ≤ p4 := by omega
  have hGB : ∀ W, Below p4 V4 W → Blk W p1 (mgC m (.slice ao n cap)) 26 := fun W h => hG4.below h hp14
  have hWB : ∀ W, Below p4 V4 W → Below w.heap.size w W := fun W h => (below_then' hB1 hB4).trans (h.mono hpw)
  have HGB := Lib.hid hGB
  have HWB := Lib.hid hWB
  have HRW : Hid (∀ W, Below p4 V4 W → Rs W ao n cap 3 m.list enC) := Lib.hid (fun W h => hR.below (hWB W h) (Nat.le_refl _))
  have HBl4 := Lib.hid hBl4
  have HOK := Lib.hid hok
  have HH := Lib.hid hok.1
  have hk17 := flds_kind hok.1.1
  have hhd := hok.1
  obtain ⟨-, s1, s2, d1, d2⟩ := hhd
  have HL := Lib.hid hR.2.2.1
  have c0 := hG4.cell (i := 0) rfl
  have hn : n ≤ maxLen := Nat.le_trans hR.1 hR.2.1
  unfold maxLen at hn
  unfold mgC at hV1 ⊢
  have HV1 := Lib.hid hV1
  have HP1 := Lib.hid hp1
  have HV4 := Lib.hid hV4
  have HP4 := Lib.hid hp4
  clear hV1 hp1 hV4 hp4 hG1 hB1 hB4 hG4 hBl4 hGB hWB hR hok
  go_enter Try.func35, Try.ntmps35
  go_upto_region 1 with fail
  rw [← HP1.out, ← HV1.out]
  go_upto_region 3 with fail
  rw [← HP4.out, ← HV4.out]
  go_wp2_with fail
  refine (bnum_b p4 p4 [] m.kind V4 (by omega) (by omega) HBl4.out (by simp) hp4V).mono ?_
  rintro e w1 ⟨rfl, hb1, hB1⟩
  have HA1 := Lib.hid (And.intro hb1 hB1)
  have hs1 : p4 ≤ w1.heap.size := Nat.le_trans hp4V hB1.size
  have e1 := (HGB.out _ hB1).cell (i := 1) rfl
  have hl1 := numL_le9 m.kind.toNat (by omega)
  clear hb1 hB1 c0
  go_wp2_with fail
  refine (bnum_b p4 p4 _ m.src w1 (by omega) (by omega) HA1.out.1 (by rw [List.nil_append]; omega) hs1).mono ?_
  rintro e w2 ⟨rfl, hb2, hB2⟩
  have HA2 := Lib.hid (And.intro hb2 (HA1.out.2.trans hB2))
  have hs2 : p4 ≤ w2.heap.size := Nat.le_trans hs1 hB2.size
  have e2 := (HGB.out _ HA2.out.2).cell (i := 2) rfl
  have hl2 := numL_le9 m.src.toNat (by omega)
  clear hb2 hB2 e1
  go_wp2_with fail
  refine (bnum_b p4 p4 _ m.dst w2 (by omega) (by omega) HA2.out.1 (by rw [List.nil_append, List.length_append]; omega) hs2).mono ?_
  rintro e w3 ⟨rfl, hb3, hB3⟩
  have HA3 : Hid (Bld p4 p4 (pre m 0) w3 ∧ Below p4 V4 w3) := by
    refine Lib.hid ⟨?_, HA2.out.2.trans hB3⟩
    have e : pre m 0 = [] ++ numL m.kind.toNat ++ numL m.src.toNat ++ numL m.dst.toNat := by simp [pre, headL]
    rw [e]; exact hb3
  have hs3 : p4 ≤ w3.heap.size := Nat.le_trans hs2 hB3.size
  have e0 := (HGB.out _ HA3.out.2).cell (i := 0) rfl
  clear hb3 hB3 e2
  obtain ⟨cl, C, fz, hlc, hcv, hC⟩ := letters_run w3 (lowS m.kind)
  obtain ⟨nl, hnl⟩ : ∃ nl, nl = (lowS m.kind).size := ⟨_, rfl⟩
  have hnl2 : nl = (flds m.kind).length := by rw [hnl]; show (low (flds m.kind)).length = _; unfold low; rw [List.length_map]
  have hnl5 : nl ≤ 5 := by rw [hnl2]; exact flds_len _
  rw [← hnl] at hcv hlc
  obtain ⟨W, hW⟩ : ∃ W, W = (w3.alloc (Obj.cells C 5 fz)).drew := ⟨_, rfl⟩
  obtain ⟨L, hL⟩ : ∃ L, L = w3.heap.size := ⟨_, rfl⟩
  have hBW : Below w3.heap.size w3 W := by rw [hW]; exact ((Below.refl _ _).alloc (Nat.le_refl _) _).drew
  have hLS : LSt p4 p4 (pre m 0) W [(L, Obj.cells C 5 fz)] := by
    rw [hL]
    exact (LSt.of HA3.out.1).add hBW (by rw [hW]; exact heap_alloc_new w3 _)
  have hBVW : Below p4 V4 W := HA3.out.2.trans (hBW.mono hs3)
  have HLS := Lib.hid (And.intro hLS hBVW)
  have HNL := Lib.hid hnl
  have HNL2 := Lib.hid hnl2
  have HW := Lib.hid hW
  have HLL := Lib.hid hL
  have HC := Lib.hid hC
  have HCV := Lib.hid hcv
  clear hC hcv hnl hnl2 hBW hLS hBVW hW hL
  go_wp2_with fail
  refine (form_any w3 m.kind).mono ?_
  rintro e wf ⟨rfl, rfl⟩
  have hcv := HCV.out
  go_wp2_with fail
  rw [← HLL.out, ← HW.out]
  clear hcv e0
  clear HCV
  go_loopw [27] (fun i wr => ∃ k : Nat, k ≤ nl ∧ i = .int .i64 k ∧ LSt p4 p4 (pre m k) wr [(L, Obj.cells C 5 fz)] ∧ Below p4 V4 wr) (fun i _ => nl - (intOf i).toNat)
  case atStart => exact ⟨0, by omega, rfl, HLS.out.1, HLS.out.2⟩
  case round =>
    clear HLS HA1 HA2 HA3
    obtain ⟨k, hk, rfl, hS, hBw⟩ := hrel
    have hsw : p4 ≤ wr.heap.size := Nat.le_trans hp4V hBw.size
    have hpl := pre_bd HOK.out k
    by_cases hlt : k < nl
    case neg =>
      have hkn : k = nl := by omega
      have e : pre m k = bodyL m := by rw [hkn, HNL2.out]; exact pre_all m
      have HE := Lib.hid e
      have HS := Lib.hid hS
      have HBW := Lib.hid hBw
      clear hkn e hS hBw
      go_wp2_with fail
      refine (string_any p4 p4 (pre m k) wr HS.out.bld hsw).mono ?_
      rintro e w9 ⟨rfl, -, hb9, -⟩
      have HB9 := Lib.hid hb9
      clear hb9
      go_wp2
      go_ret
      exact ⟨by rw [HE.out]; rfl, HWB.out _ (HBW.out.trans HB9.out)⟩
    have hkf : k < (flds m.kind).length := by rw [← HNL2.out]; exact hlt
    obtain ⟨u, hu⟩ : ∃ u, (flds m.kind)[k]? = some u := ⟨_, List.getElem?_eq_getElem hkf⟩
    have hum : u ∈ flds m.kind := List.mem_of_getElem? hu
    have hnine := nine_cases (flds_nine m.kind u hum)
    have HUM := Lib.hid hum
    have hcu := HC.out k _ (low_at hu)
    have a0 : wr.cell? ⟨L, k, none⟩ = some (.int .u8 ((u + 32).toNat : Nat)) := cell_heap hS.head hcu
    have hG := HGB.out _ hBw
    have HU := Lib.hid hu
    have HS := Lib.hid hS
    have HBW := Lib.hid hBw
    have i2 : (k : Int) < (nl : Int) := by omega
    have HG := Lib.hid hG
    clear hu hum hcu hS hBw hG hkf
    rcases hnine with rfl | rfl | rfl | rfl | rfl | rfl | rfl | rfl | rfl
    · as_aux_lemma =>
        have a1 : wr.cell? ⟨L, k, none⟩ = some (.int .u8 98) := a0
        have g := HG.out.cell (i := 3) rfl
        have hfn := fld_num HOK.out.2.1 66 HUM.out (by decide) (by decide) (by decide)
        have hf1 : 0 ≤ m.ballot := hfn.1
        have hf2 : m.ballot ≤ 4611686018427387903 := hfn.2
        clear a0 hfn
        go_wp2_with fail
        refine (bnum_l p4 p4 (pre m k) _ m.ballot wr hf1 hf2 HS.out (by omega) hsw).mono ?_
        rintro e w6 ⟨rfl, h6, hb6⟩
        have HF : Hid (LSt p4 p4 (pre m (k + 1)) w6 [(L, Obj.cells C 5 fz)] ∧ Below p4 V4 w6) := Lib.hid ⟨by rw [pre_fld (d := numL m.ballot.toNat) HU.out rfl]; exact h6, HBW.out.trans hb6⟩
        clear h6 hb6 g a1
        go_wp2
        go_roundw
        case rel => exact ⟨k + 1, by omega, by go_num, HF.out.1, HF.out.2⟩
        case measure => simp [intOf]; omega
    · as_aux_lemma =>
        have a1 : wr.cell? ⟨L, k, none⟩ = some (.int .u8 103) := a0
        have g := HG.out.cell (i := 4) rfl
        have hfn := fld_num HOK.out.2.1 71 HUM.out (by decide) (by decide) (by decide)
        have hf1 : 0 ≤ m.gen := hfn.1
        have hf2 : m.gen ≤ 4611686018427387903 := hfn.2
        clear a0 hfn
        go_wp2_with fail
        refine (bnum_l p4 p4 (pre m k) _ m.gen wr hf1 hf2 HS.out (by omega) hsw).mono ?_
        rintro e w6 ⟨rfl, h6, hb6⟩
        have HF : Hid (LSt p4 p4 (pre m (k + 1)) w6 [(L, Obj.cells C 5 fz)] ∧ Below p4 V4 w6) := Lib.hid ⟨by rw [pre_fld (d := numL m.gen.toNat) HU.out rfl]; exact h6, HBW.out.trans hb6⟩
        clear h6 hb6 g a1
        go_wp2
        go_roundw
        case rel => exact ⟨k + 1, by omega, by go_num, HF.out.1, HF.out.2⟩
        case measure => simp [intOf]; omega
    · as_aux_lemma =>
        have a1 : wr.cell? ⟨L, k, none⟩ = some (.int .u8 115) := a0
        have g := HG.out.cell (i := 5) rfl
        have hfn := fld_num HOK.out.2.1 83 HUM.out (by decide) (by decide) (by decide)
        have hf1 : 0 ≤ m.basis := hfn.1
        have hf2 : m.basis ≤ 4611686018427387903 := hfn.2
        clear a0 hfn
        go_wp2_with fail
        refine (bnum_l p4 p4 (pre m k) _ m.basis wr hf1 hf2 HS.out (by omega) hsw).mono ?_
        rintro e w6 ⟨rfl, h6, hb6⟩
        have HF : Hid (LSt p4 p4 (pre m (k + 1)) w6 [(L, Obj.cells C 5 fz)] ∧ Below p4 V4 w6) := Lib.hid ⟨by rw [pre_fld (d := numL m.basis.toNat) HU.out rfl]; exact h6, HBW.out.trans hb6⟩
        clear h6 hb6 g a1
        go_wp2
        go_roundw
        case rel => exact ⟨k + 1, by omega, by go_num, HF.out.1, HF.out.2⟩
        case measure => simp [intOf]; omega
    · as_aux_lemma =>
        have a1 : wr.cell? ⟨L, k, none⟩ = some (.int .u8 102) := a0
        have g := HG.out.cell (i := 6) rfl
        have hfn := fld_num HOK.out.2.1 70 HUM.out (by decide) (by decide) (by decide)
        have hf1 : 0 ≤ m.floor := hfn.1
        have hf2 : m.floor ≤ 4611686018427387903 := hfn.2
        clear a0 hfn
        go_wp2_with fail
        refine (bnum_l p4 p4 (pre m k) _ m.floor wr hf1 hf2 HS.out (by omega) hsw).mono ?_
        rintro e w6 ⟨rfl, h6, hb6⟩
        have HF : Hid (LSt p4 p4 (pre m (k + 1)) w6 [(L, Obj.cells C 5 fz)] ∧ Below p4 V4 w6) := Lib.hid ⟨by rw [pre_fld (d := numL m.floor.toNat) HU.out rfl]; exact h6, HBW.out.trans hb6⟩
        clear h6 hb6 g a1
        go_wp2
        go_roundw
        case rel => exact ⟨k + 1, by omega, by go_num, HF.out.1, HF.out.2⟩
        case measure => simp [intOf]; omega
    · as_aux_lemma =>
        have a1 : wr.cell? ⟨L, k, none⟩ = some (.int .u8 116) := a0
        have g := HG.out.cell (i := 7) rfl
        have hfn := fld_num HOK.out.2.1 84 HUM.out (by decide) (by decide) (by decide)
        have hf1 : 0 ≤ m.top := hfn.1
        have hf2 : m.top ≤ 4611686018427387903 := hfn.2
        clear a0 hfn
        go_wp2_with fail
        refine (bnum_l p4 p4 (pre m k) _ m.top wr hf1 hf2 HS.out (by omega) hsw).mono ?_
        rintro e w6 ⟨rfl, h6, hb6⟩
        have HF : Hid (LSt p4 p4 (pre m (k + 1)) w6 [(L, Obj.cells C 5 fz)] ∧ Below p4 V4 w6) := Lib.hid ⟨by rw [pre_fld (d := numL m.top.toNat) HU.out rfl]; exact h6, HBW.out.trans hb6⟩
        clear h6 hb6 g a1
        go_wp2
        go_roundw
        case rel => exact ⟨k + 1, by omega, by go_num, HF.out.1, HF.out.2⟩
        case measure => simp [intOf]; omega
    · as_aux_lemma =>
        have a1 : wr.cell? ⟨L, k, none⟩ = some (.int .u8 114) := a0
        have g := HG.out.cell (i := 8) rfl
        have hfn := fld_num HOK.out.2.1 82 HUM.out (by decide) (by decide) (by decide)
        have hf1 : 0 ≤ m.read := hfn.1
        have hf2 : m.read ≤ 4611686018427387903 := hfn.2
        clear a0 hfn
        go_wp2_with fail
        refine (bnum_l p4 p4 (pre m k) _ m.read wr hf1 hf2 HS.out (by omega) hsw).mono ?_
        rintro e w6 ⟨rfl, h6, hb6⟩
        have HF : Hid (LSt p4 p4 (pre m (k + 1)) w6 [(L, Obj.cells C 5 fz)] ∧ Below p4 V4 w6) := Lib.hid ⟨by rw [pre_fld (d := numL m.read.toNat) HU.out rfl]; exact h6, HBW.out.trans hb6⟩
        clear h6 hb6 g a1
        go_wp2
        go_roundw
        case rel => exact ⟨k + 1, by omega, by go_num, HF.out.1, HF.out.2⟩
        case measure => simp [intOf]; omega
    · as_aux_lemma =>
        have a1 : wr.cell? ⟨L, k, none⟩ = some (.int .u8 109) := a0
        have g := HG.out.cell (i := 9) rfl
        have h32 : m.mark.size = 32 := HOK.out.2.2.1.1 (by simpa [hasF] using HUM.out)
        have H32 := Lib.hid h32
        clear a0 h32
        go_wp2_with fail
        refine (write_l p4 p4 (pre m k) _ m.mark wr HS.out (by rw [H32.out]; omega) hsw).mono ?_
        rintro e w6 ⟨rfl, h6, hb6⟩
        have HF : Hid (LSt p4 p4 (pre m (k + 1)) w6 [(L, Obj.cells C 5 fz)] ∧ Below p4 V4 w6) := Lib.hid ⟨by rw [pre_fld (d := m.mark.data.toList) HU.out rfl]; exact h6, HBW.out.trans hb6⟩
        clear h6 hb6 g a1
        go_wp2
        go_roundw
        case rel => exact ⟨k + 1, by omega, by go_num, HF.out.1, HF.out.2⟩
        case measure => simp [intOf]; omega
    · as_aux_lemma =>
        have a1 : wr.cell? ⟨L, k, none⟩ = some (.int .u8 112) := a0
        obtain ⟨q1, q2, q3, q4, q5⟩ := HOK.out.2.2.2.1.1 (by simpa [hasF] using HUM.out)
        have g := HG.out.cell (i := 10) rfl
        clear a0
        go_wp2_with fail
        refine (bnum_l p4 p4 _ _ m.pat wr (q1) (by omega) HS.out (by first | omega | (simp only [List.length_append]; omega)) hsw).mono ?_
        rintro e x0 ⟨rfl, h6, hb6⟩
        have HX0 := Lib.hid (And.intro h6 (HBW.out.trans hb6))
        have hz0 : p4 ≤ x0.heap.size := Nat.le_trans hsw hb6.size
        have hl0 := numL_le9 (m.pat).toNat (by omega)
        clear h6 hb6 g
        have g := (HGB.out _ HX0.out.2).cell (i := 11) rfl
        go_wp2_with fail
        refine (bnum_l p4 p4 _ _ m.pof x0 (q2) (by omega) HX0.out.1 (by first | omega | (simp only [List.length_append]; omega)) hz0).mono ?_
        rintro e x1 ⟨rfl, h6, hb6⟩
        have HX1 := Lib.hid (And.intro h6 (HX0.out.2.trans hb6))
        have hz1 : p4 ≤ x1.heap.size := Nat.le_trans hz0 hb6.size
        have hl1 := numL_le9 (m.pof).toNat (by omega)
        clear h6 hb6 g
        have g := (HGB.out _ HX1.out.2).cell (i := 12) rfl
        go_wp2_with fail
        refine (bnum_l p4 p4 _ _ (m.ptext.size : Int) x1 (by omega) (by omega) HX1.out.1 (by first | omega | (simp only [List.length_append]; omega)) hz1).mono ?_
        rintro e x2 ⟨rfl, h6, hb6⟩
        have HX2 := Lib.hid (And.intro h6 (HX1.out.2.trans hb6))
        have hz2 : p4 ≤ x2.heap.size := Nat.le_trans hz1 hb6.size
        have hl2 := numL_le9 ((m.ptext.size : Int)).toNat (by omega)
        clear h6 hb6 g
        have g := (HGB.out _ HX2.out.2).cell (i := 12) rfl
        go_wp2_with fail
        refine (write_l p4 p4 _ _ m.ptext x2 HX2.out.1 (by first | omega | (simp only [List.length_append]; omega)) hz2).mono ?_
        rintro e w6 ⟨rfl, h6, hb6⟩
        have HF : Hid (LSt p4 p4 (pre m (k + 1)) w6 [(L, Obj.cells C 5 fz)] ∧ Below p4 V4 w6) := Lib.hid ⟨by rw [pre_fld (d := numL m.pat.toNat ++ numL m.pof.toNat ++ numL m.ptext.size ++ m.ptext.data.toList) HU.out rfl]; simp only [← List.append_assoc]; exact h6, HX2.out.2.trans hb6⟩
        clear h6 hb6 g a1
        go_wp2
        go_roundw
        case rel => exact ⟨k + 1, by omega, by go_num, HF.out.1, HF.out.2⟩
        case measure => simp [intOf]; omega
    · as_aux_lemma =>
        have a1 : wr.cell? ⟨L, k, none⟩ = some (.int .u8 108) := a0
        obtain ⟨q1, q2⟩ := okList_mem HOK.out.2.2.2.2 HUM.out
        have Q2 := Lib.hid q2
        have q1' : n ≤ 64 := by rw [← HL.out]; exact q1
        have g := HG.out.cell (i := 13) rfl
        clear a0 q2 q1
        go_wp2_with fail
        refine (bnum_l p4 p4 (pre m k) _ (n : Int) wr (by omega) (by omega) HS.out (by omega) hsw).mono ?_
        rintro e w6 ⟨rfl, h6, hb6⟩
        have HX := Lib.hid (And.intro h6 (HBW.out.trans hb6))
        have hz6 : p4 ≤ w6.heap.size := Nat.le_trans hsw hb6.size
        have g6 := (HGB.out _ HX.out.2).cell (i := 13) rfl
        have hl6 := numL_le9 n (by omega)
        clear h6 hb6 g
        obtain ⟨PL, hPL⟩ : ∃ PL, PL = pre m k ++ numL (n : Int).toNat := ⟨_, rfl⟩
        have hPLl : PL.length ≤ 40000 := by rw [hPL, List.length_append]; have : ((n : Int).toNat) = n := by omega
                                            rw [this]; omega
        rw [← hPL] at HX
        have HPL := Lib.hid hPL
        clear hPL
        go_wp2_with fail
        obtain ⟨wo, rfl⟩ : ∃ wo : World, wo = wr := ⟨_, rfl⟩
        go_loopw [105] (fun i wr => ∃ j : Nat, j ≤ n ∧ i = .int .i64 j ∧ LSt p4 p4 (PL ++ (m.list.take j).flatMap enL) wr [(L, Obj.cells C 5 fz)] ∧ Below p4 V4 wr) (fun i _ => n - (intOf i).toNat)
        case atStart => exact ⟨0, by omega, rfl, by simpa using HX.out.1, HX.out.2⟩
        case round =>
          clear HX g6
          obtain ⟨j, hj, rfl, hT, hBt⟩ := hrel
          have hst : p4 ≤ wr.heap.size := Nat.le_trans hp4V hBt.size
          by_cases hjn : j < n
          case neg =>
            have hjn2 : j = n := by omega
            have e : PL ++ (m.list.take j).flatMap enL = pre m (k + 1) := by
              rw [hjn2, ← HL.out, List.take_length, HPL.out, pre_fld (d := numL m.list.length ++ m.list.flatMap enL) HU.out rfl, HL.out, List.append_assoc]
              rfl
            rw [e] at hT
            have HF := Lib.hid (And.intro hT hBt)
            clear hT hBt e a1 hjn2
            go_wp2
            go_roundw
            case rel => exact ⟨k + 1, by omega, by go_num, HF.out.1, HF.out.2⟩
            case measure => simp [intOf]; omega
          obtain ⟨b, off, rfl, hbw, hc⟩ := (HRW.out _ hBt).2.2.2 (by omega)
          have hjl : j < m.list.length := by rw [HL.out]; exact hjn
          obtain ⟨x, hx⟩ : ∃ x, m.list[j]? = some x := ⟨_, List.getElem?_eq_getElem hjl⟩
          have hxe : m.list[j] = x := by rw [List.getElem?_eq_getElem hjl] at hx; exact Option.some.inj hx
          have hxo := Q2.out x (List.mem_of_getElem? hx)
          obtain ⟨o1, o2, o3, o4, o5⟩ := hxo
          have hcx := hc j hjl
          rw [hxe] at hcx
          have b0 : wr.cell? ⟨b, off + j * 3, none⟩ = some (.int .i64 x.gen) := hcx 0 _ rfl
          have b1 : wr.cell? ⟨b, off + j * 3 + 1, none⟩ = some (.int .i64 x.ballot) := hcx 1 _ rfl
          have b2 : wr.cell? ⟨b, off + j * 3 + 2, none⟩ = some (.string x.mark) := hcx 2 _ rfl
          have htl := ens_take m.list j x hx
          have hel := ens_bd (m.list.take j) (fun y hy => Q2.out y (List.mem_of_mem_take hy))
          have htk : (m.list.take j).length ≤ j := List.length_take_le _ _
          obtain ⟨Y, hY⟩ : ∃ Y, Y = wr.alloc (Obj.cells #[.int .i64 x.gen, .int .i64 x.ballot, .string x.mark] 55) := ⟨_, rfl⟩
          obtain ⟨y0, hy0⟩ : ∃ q, q = wr.heap.size := ⟨_, rfl⟩
          have hBY : Below wr.heap.size wr Y := by rw [hY]; exact below_alloc' _ _
          have hTY := hT.add hBY (o := Obj.cells #[.int .i64 x.gen, .int .i64 x.ballot, .string x.mark] 55) (by rw [hY]; exact heap_alloc_new wr _)
          rw [← hy0] at hTY
          obtain ⟨QL, hQL⟩ : ∃ QL, QL = PL ++ (m.list.take j).flatMap enL := ⟨_, rfl⟩
          rw [← hQL] at hTY
          have hQl : QL.length ≤ 50000 := by rw [hQL, List.length_append]; omega
          have HTY := Lib.hid (And.intro hTY (hBt.trans (hBY.mono hst)))
          have hzY : p4 ≤ Y.heap.size := Nat.le_trans hst hBY.size
          have f0 := cell_heap hTY.head (i := 0) rfl
          have HTL := Lib.hid htl
          have HQL := Lib.hid hQL
          have HYY := Lib.hid hY
          have HY0 := Lib.hid hy0
          have H32 := Lib.hid o5
          have i3 : (j : Int) < (n : Int) := by omega
          clear hc hx hxe hcx htl hel htk hY hy0 hBY hTY hQL o5 hT hBt hbw hjl
          go_upto_region 34 with fail
          rw [← HY0.out, ← HYY.out]
          clear b0 b1 b2
          go_wp2_with fail
          refine (bnum_l p4 p4 QL _ x.gen Y o1 o2 HTY.out.1 (by omega) hzY).mono ?_
          rintro e z1 ⟨rfl, h6, hb6⟩
          have HZ1 := Lib.hid (And.intro h6 (HTY.out.2.trans hb6))
          have hz1 : p4 ≤ z1.heap.size := Nat.le_trans hzY hb6.size
          have hl1 := numL_le9 x.gen.toNat (by omega)
          clear f0
          have f1 := cell_heap h6.head (i := 1) rfl
          clear h6 hb6
          go_wp2_with fail
          refine (bnum_l p4 p4 _ _ x.ballot z1 o3 o4 HZ1.out.1 (by first | omega | (simp only [List.length_append]; omega)) hz1).mono ?_
          rintro e z2 ⟨rfl, h6, hb6⟩
          have HZ2 := Lib.hid (And.intro h6 (HZ1.out.2.trans hb6))
          have hz2 : p4 ≤ z2.heap.size := Nat.le_trans hz1 hb6.size
          have hl2 := numL_le9 x.ballot.toNat (by omega)
          clear f1
          have f2 := cell_heap h6.head (i := 2) rfl
          clear h6 hb6
          go_wp2_with fail
          refine (write_l p4 p4 _ _ x.mark z2 HZ2.out.1 (by rw [H32.out]; simp only [List.length_append]; omega) hz2).mono ?_
          rintro e z3 ⟨rfl, h6, hb6⟩
          have HF : Hid (LSt p4 p4 (PL ++ (m.list.take (j + 1)).flatMap enL) z3 [(L, Obj.cells C 5 fz)] ∧ Below p4 V4 z3) := by
            refine Lib.hid ⟨?_, HZ2.out.2.trans hb6⟩
            rw [HTL.out]
            have h7 := h6.drop
            rw [HQL.out] at h7
            simp only [List.append_assoc] at h7 ⊢
            exact h7
          clear h6 hb6 f2
          go_wp2
          go_roundw
          case rel => exact ⟨j + 1, by omega, by go_num, HF.out.1, HF.out.2⟩
          case measure => simp [intOf]; omega
end Go.Proofs.Ytlcpnpoleaanmaa
