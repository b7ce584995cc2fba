/- StorePartlies, walked: which deltas can be kept, and why others can't. No conditions. -/
import Derived.Test.YtgkcnocfijckoaaGreatSK
import Derived.Test.YtgkcnocfijckoaaGreatDlFew
import Derived.Test.YtgkcnocfijckoaaGreatQF
namespace Go.Proofs.YtgkcnocfijckoaaGreat
open Go.RowKit Sg
set_option linter.unusedVariables false
set_option linter.unusedSimpArgs false
def bentT : ByteArray := ⟨#[98, 101, 110, 116]⟩
theorem bent_read : (readD bentT.data.toList).2 ≠ 0 := by
  have e : readD bentT.data.toList = (dl0, 3) := by first | rfl | kernel_rfl
  rw [e]; decide
theorem bytesD_few {d : Dl} (h : RightP d) (hn : d.steps.length ≤ 50) : (bytesD d).length ≤ 1000000 := by
  have h1 : ∀ L : List St, (∀ x ∈ L, rightS x) → (L.flatMap stL).length ≤ 4200 * L.length := by
    intro L
    induction L with
    | nil => intro _; simp
    | cons x L ih =>
      intro hx
      have h2 := stL_len (hx x (List.mem_cons_self ..))
      have h3 := ih (fun y hy => hx y (List.mem_cons_of_mem _ hy))
      rw [List.flatMap_cons, List.length_append, List.length_cons]
      omega
  have h2 := h1 d.steps h.2.2.2.2.1
  have h3 : d.basis.data.toList.length = 32 := by rw [Array.length_toList]; exact h.1
  have h4 : d.mark.data.toList.length = 32 := by rw [Array.length_toList]; exact h.2.1
  have h5 := numL_le9 d.size.toNat (by have := h.2.2.1; have := h.2.2.2.1; omega)
  have h6 := numL_le9 d.steps.length (by omega)
  unfold bytesD headL
  simp only [List.length_append]
  omega
/-- what Partly answers -/
def PtQ (l : List Gn) (n b : Int) (t : ByteArray) (w : World) (e : Ending) (w' : World) : Prop :=
  ∃ R F, e = .returned (.tuple #[.string R, .int .i64 F]) ∧ Below w.heap.size w w' ∧ Hid ((¬ (NumOk n ∧ 0 ≤ b ∧ b < n) ∧ R = ByteArray.empty ∧ F = 2) ∨ ((NumOk n ∧ 0 ≤ b ∧ b < n) ∧ (readD t.data.toList).2 ≠ 0 ∧ R = ByteArray.empty ∧ F = (readD t.data.toList).2) ∨
    ((NumOk n ∧ 0 ≤ b ∧ b < n) ∧ (readD t.data.toList).2 = 0 ∧ hasN l b = false ∧ R = ByteArray.empty ∧ F = 8) ∨ ((NumOk n ∧ 0 ≤ b ∧ b < n) ∧ (readD t.data.toList).2 = 0 ∧ hasN l b = true ∧ markN l b ≠ (readD t.data.toList).1.basis ∧ R = ByteArray.empty ∧ F = 13) ∨
    ((NumOk n ∧ 0 ≤ b ∧ b < n) ∧ (readD t.data.toList).2 = 0 ∧ hasN l b = true ∧ markN l b = (readD t.data.toList).1.basis ∧ R.toList.isEmpty = false ∧ F = 0))
theorem partly_q (w : World) (ps p base : Nat) (v : Value) (l : List Gn) (h : StB w ps p base v l) (hl : l.length ≤ 100000) (n b : Int) (wn : (Lit.int .i64 n).wf = true) (wb : (Lit.int .i64 b).wf = true) (t : ByteArray) (ht : t.size ≤ 1000000) :
    Calls Tryz.prog 24 #[.pointer (some ⟨ps, 0, none⟩), .int .i64 n, .int .i64 b, .string t] w (PtQ l n b t w) := by
  refine (stPartly_any w ps p base v l h hl n b wn wb t ht).mono ?_
  rintro e w' ⟨hb, ⟨h1, rfl⟩ | ⟨h1, h2, rfl⟩ | ⟨h1, h2, h3, rfl⟩ | ⟨h1, h2, h3, h4, rfl⟩ | ⟨h1, h2, h3, h4, rfl⟩⟩
  · exact ⟨_, _, rfl, hb, Lib.hid (.inl ⟨h1, rfl, rfl⟩)⟩
  · exact ⟨_, _, rfl, hb, Lib.hid (.inr (.inl ⟨h1, h2, rfl, rfl⟩))⟩
  · exact ⟨_, _, rfl, hb, Lib.hid (.inr (.inr (.inl ⟨h1, h2, h3, rfl, rfl⟩)))⟩
  · exact ⟨_, _, rfl, hb, Lib.hid (.inr (.inr (.inr (.inl ⟨h1, h2, h3, h4, rfl, rfl⟩))))⟩
  · refine ⟨_, _, rfl, hb, Lib.hid (.inr (.inr (.inr (.inr ⟨h1, h2, h3, h4, ?_, rfl⟩))))⟩
    rw [ByteArray.toList_eq]
    unfold recD
    simp [ByteArray.data_append]
set_option maxRecDepth 100000 in
set_option maxHeartbeats 8000000 in
theorem storePartlies_walk (w : World) (ao : Option Addr) (n0 cap : Nat) (o0 : (Kd.sl (.agg [.int .i64, .int .i64, .int .i64, .str])).ok w [.slice ao n0 cap]) (n : Int) (wn : (Lit.int .i64 n).wf = true) (b : Int) (wb : (Lit.int .i64 b).wf = true) (c3 : Array Value) (o3 : dlK.ok w c3.toList) :
    Calls Tryz.prog 5 #[.slice ao n0 cap, .int .i64 n, .int .i64 b, .agg c3] w fun e w' => e = .returned (.bool true) ∧ Below w.heap.size w w' := by
  obtain ⟨ops, hR, hok⟩ := ops_of (show (Kd.sl op4K).ok w [.slice ao n0 cap] from o0)
  obtain ⟨db, dm, ds, dao, dn, dcap, dl, rfl, hdb, hdm, hds, hdR, hdok⟩ := delta_of o3
  have hdz := dlZ_run
  obtain ⟨V, hV⟩ : ∃ V, V = w.alloc (Obj.cells #[.string db, .string dm, .int .i64 ds, .slice dao dn dcap] 55) := ⟨_, rfl⟩
  obtain ⟨q, hq⟩ : ∃ q, q = w.heap.size := ⟨_, rfl⟩
  have hG : Blk V q [.string db, .string dm, .int .i64 ds, .slice dao dn dcap] 55 := by rw [hV, hq]; exact Blk.new _ _ _
  have hbV : Below w.heap.size w V := by rw [hV]; exact below_alloc _ _
  have HPL := Lib.hid (played_any V ao n0 cap ops (hR.below hbV (Nat.le_refl _)) hok)
  have HV := Lib.hid (And.intro hV hq)
  have HG := Lib.hid hG
  have HBV := Lib.hid hbV
  have HDR := Lib.hid hdR
  have HDK := Lib.hid (And.intro hdb (And.intro hdm (And.intro hds hdok)))
  have hdl : dl.length = dn := hdR.2.2.1
  clear hV hq hG hbV o0 o3 hR hok hdb hdm hds hdR hdok
  go_enter Tryz.func5, Tryz.ntmps5
  go_upto_region 1 with fail
  rw [← HV.out.1, ← HV.out.2]
  go_wp2_with fail
  refine HPL.out.mono ?_
  rintro e w1 ⟨pw, ps, p, m, v, vl, S, l, im, rfl, hP, hS, hl⟩
  have HP := Lib.hid hP
  have HG1 := Lib.hid (HG.out.below hP.bel HG.out.lt)
  have HB1 := Lib.hid (bl_nx HBV.out hP.bel)
  have q0 := HG1.out.cell (i := 0) rfl
  have q1 := HG1.out.cell (i := 1) rfl
  have q2 := HG1.out.cell (i := 2) rfl
  have q3 := HG1.out.cell (i := 3) rfl
  clear hP HPL
  by_cases hbig : 50 < dn
  case pos =>
    have d0 : decide ((50 : Int) < (dn : Int)) = true := decide_eq_true (by omega)
    have HAW := Lib.hid (awake_in w w1 HB1.out)
    clear hbig
    go_wp2_with fail
    refine HAW.out.mono ?_
    rintro e w3 ⟨rfl, hb3⟩
    have HB3 := Lib.hid hb3
    clear hb3
    go_wp2
    go_ret
    exact ⟨rfl, HB3.out⟩
  have d0 : decide ((50 : Int) < (dn : Int)) = false := decide_eq_false (by omega)
  have HBY := Lib.hid (dlBytes_any w1 db dm ds dao dn dcap dl HDK.out.2.2.1 HDK.out.1 HDK.out.2.1 (HDR.out.below HB1.out (Nat.le_refl _)) HDK.out.2.2.2)
  have HBR : Hid ((bytesR ⟨db, dm, ds, dl⟩).2 = 0 → (bytesR ⟨db, dm, ds, dl⟩).1.size ≤ 1000000 ∧ readD (bytesR ⟨db, dm, ds, dl⟩).1.data.toList = (⟨db, dm, ds, dl⟩, 0)) := Lib.hid (by
    intro h
    by_cases hr : RightP ⟨db, dm, ds, dl⟩
    · rw [bytesR_yes hr]
      refine ⟨?_, readD_back _ hr⟩
      have h1 := bytesD_few hr (by show dl.length ≤ 50; omega)
      show (bytesD ⟨db, dm, ds, dl⟩).toArray.size ≤ 1000000
      simpa using h1
    · rw [bytesR_no hr] at h; cases h)
  obtain ⟨BR, hBR⟩ : ∃ BR, BR = bytesR ⟨db, dm, ds, dl⟩ := ⟨_, rfl⟩
  rw [← hBR] at HBY HBR
  clear hBR hbig
  obtain ⟨BY, be⟩ := BR
  simp only at HBY HBR
  go_wp2_with fail
  refine HBY.out.mono ?_
  rintro e w2 ⟨rfl, hb2⟩
  have HP2 := Lib.hid (HP.out.move (HP.out.ww.below hb2) (Moves.of_below hb2))
  have HG2 := Lib.hid (HG1.out.below hb2 HG1.out.lt)
  have HB2 := Lib.hid (bl_nx HB1.out hb2)
  have c0 := HP2.out.ww.ob.cell (i := 0) rfl
  clear hb2 HBY q0 q1 q2 q3
  -- the text: the bytes, or none
  obtain ⟨T, hT1, hT2⟩ : ∃ T : ByteArray, Hid (T = if be = 0 then BY else bentT) ∧ Hid (T.size ≤ 1000000 ∧ ((readD T.data.toList).2 = 0 → (readD T.data.toList).1.basis = db)) := by
    refine ⟨_, Lib.hid rfl, Lib.hid ?_⟩
    by_cases h : be = 0
    · rw [if_pos h]
      have := HBR.out h
      exact ⟨this.1, fun _ => by rw [this.2]⟩
    · rw [if_neg h]
      exact ⟨by decide, fun h2 => absurd h2 bent_read⟩
  have HPT := Lib.hid (partly_q w2 ps p (ps + 1) v l HP2.out.ww.sw.st (by omega) n b wn wb T hT2.out.1)
  obtain ⟨RD, hRD⟩ : ∃ RD, RD = readD T.data.toList := ⟨_, rfl⟩
  have hTS := hT2.out.1
  have HTB : Hid (RD.2 = 0 → RD.1.basis = db) := Lib.hid (by rw [hRD]; exact hT2.out.2)
  have HRD := Lib.hid hRD
  clear hRD
  obtain ⟨⟨rb, rm, rs, rl⟩, rg⟩ := RD
  simp only at HTB
  obtain ⟨RH, hRH⟩ : ∃ R, R = hasN l b := ⟨_, rfl⟩
  obtain ⟨MK, hMK⟩ : ∃ R, R = markN l b := ⟨_, rfl⟩
  have HRM := Lib.hid (And.intro hRH hMK)
  clear hRH hMK
  by_cases hbe : be = 0
  case pos =>
    have hT := hT1.out
    rw [if_pos hbe] at hT
    have e0 : (be != 0) = false := by simpa using hbe
    subst hT
    clear hbe hT1
    go_wp2_with fail
    refine HPT.out.mono ?_
    rintro e w3 ⟨R, F, rfl, hb3, HQ⟩
    have HP3 := Lib.hid (HP2.out.move (HP2.out.ww.below hb3) (Moves.of_below hb3))
    have HG3 := Lib.hid (HG2.out.below hb3 HG2.out.lt)
    have HB3 := Lib.hid (bl_nx HB2.out hb3)
    have HRD3 := Lib.hid (read_d w3 T hTS)
    rw [← HRD.out] at HRD3
    have HQ2 := Lib.hid HQ.out
    rw [← HRD.out, ← HRM.out.1, ← HRM.out.2] at HQ2
    simp only at HQ2
    have c03 := HP3.out.ww.ob.cell (i := 0) rfl
    clear hb3 HPT c0 HQ
    go_wp2_with fail
    refine HRD3.out.mono ?_
    rintro e w4 ⟨v4, rfl, hO4, hb4⟩
    simp only at hO4
    obtain ⟨a4, k4, rfl⟩ := owns_slice hO4
    simp only
    obtain ⟨U, hU⟩ : ∃ U, U = w4.alloc (Obj.cells #[.string rb, .string rm, .int .i64 rs, .slice a4 rl.length k4] 55) := ⟨_, rfl⟩
    have hbU : Below w3.heap.size w3 U := by rw [hU]; exact bl_nx hb4 (below_alloc _ _)
    have HP4 := Lib.hid (HP3.out.move (HP3.out.ww.below hbU) (Moves.of_below hbU))
    have HG4 := Lib.hid (HG3.out.below hbU HG3.out.lt)
    have HB4 := Lib.hid (bl_nx HB3.out hbU)
    have HU := Lib.hid hU
    have c04 := HP4.out.ww.ob.cell (i := 0) rfl
    have HMK := Lib.hid (stMark_b U ps p (ps + 1) v l b HP4.out.ww.sw.st (by omega))
    rw [← HRM.out.1, ← HRM.out.2] at HMK
    clear hU hO4 hb4 hbU HRD3 c03
    go_upto_region 9 with fail
    rw [← HU.out]
    go_wp2_with fail
    refine HMK.out.mono ?_
    rintro e w5 ⟨rfl, hb5⟩
    have HB5 := Lib.hid (bl_nx HB4.out hb5)
    have q0 := (HG4.out.below hb5 HG4.out.lt).cell (i := 0) rfl
    have HAW := Lib.hid (awake_in w w5 HB5.out)
    clear hb5 HMK c04
    rcases HQ2.out with ⟨hno, rfl, rfl⟩ | ⟨hC, hg, rfl, rfl⟩ | ⟨hC, hg, hh, rfl, rfl⟩ | ⟨hC, hg, hh, hm, rfl, rfl⟩ | ⟨hC, hg, hh, hm, hr, rfl⟩
    · by_cases h0 : n < 0
      · have d1 : decide (n < 0) = true := decide_eq_true h0
        clear h0 hno
        go_wp2_with fail
        refine HAW.out.mono ?_
        rintro e w6 ⟨rfl, hb6⟩
        have HB6 := Lib.hid hb6
        clear hb6
        go_wp2
        go_ret
        exact ⟨rfl, HB6.out⟩
      have d1 : decide (n < 0) = false := decide_eq_false h0
      by_cases h1 : 4611686018427387903 < n
      · have d2 : decide (4611686018427387903 < n) = true := decide_eq_true h1
        clear h0 h1 hno
        go_wp2_with fail
        refine HAW.out.mono ?_
        rintro e w6 ⟨rfl, hb6⟩
        have HB6 := Lib.hid hb6
        clear hb6
        go_wp2
        go_ret
        exact ⟨rfl, HB6.out⟩
      have d2 : decide (4611686018427387903 < n) = false := decide_eq_false h1
      by_cases h2 : b < 0
      · have d3 : decide (b < 0) = true := decide_eq_true h2
        clear h0 h1 h2 hno
        go_wp2_with fail
        refine HAW.out.mono ?_
        rintro e w6 ⟨rfl, hb6⟩
        have HB6 := Lib.hid hb6
        clear hb6
        go_wp2
        go_ret
        exact ⟨rfl, HB6.out⟩
      have d3 : decide (b < 0) = false := decide_eq_false h2
      have d4 : decide (n ≤ b) = true := decide_eq_true (Classical.byContradiction fun h3 => hno ⟨⟨by omega, by omega⟩, by omega, by omega⟩)
      clear h0 h1 h2 hno
      go_wp2_with fail
      refine HAW.out.mono ?_
      rintro e w6 ⟨rfl, hb6⟩
      have HB6 := Lib.hid hb6
      clear hb6
      go_wp2
      go_ret
      exact ⟨rfl, HB6.out⟩
    · have e2 : (((rg : Nat) : Int) != 0) = true := by simpa using hg
      have d1 : decide (n < 0) = false := decide_eq_false (by have := hC.1.1; omega)
      have d2 : decide (4611686018427387903 < n) = false := decide_eq_false (by have := hC.1.2; omega)
      have d3 : decide (b < 0) = false := decide_eq_false (by have := hC.2.1; omega)
      have d4 : decide (n ≤ b) = false := decide_eq_false (by have := hC.2.2; omega)
      clear hC hg
      go_wp2_with fail
      refine HAW.out.mono ?_
      rintro e w6 ⟨rfl, hb6⟩
      have HB6 := Lib.hid hb6
      clear hb6
      go_wp2
      go_ret
      exact ⟨rfl, HB6.out⟩
    · subst hh
      obtain rfl : rg = 0 := hg
      have d1 : decide (n < 0) = false := decide_eq_false (by have := hC.1.1; omega)
      have d2 : decide (4611686018427387903 < n) = false := decide_eq_false (by have := hC.1.2; omega)
      have d3 : decide (b < 0) = false := decide_eq_false (by have := hC.2.1; omega)
      have d4 : decide (n ≤ b) = false := decide_eq_false (by have := hC.2.2; omega)
      clear hC
      go_wp2_with fail
      refine HAW.out.mono ?_
      rintro e w6 ⟨rfl, hb6⟩
      have HB6 := Lib.hid hb6
      clear hb6
      go_wp2
      go_ret
      exact ⟨rfl, HB6.out⟩
    · subst hh
      obtain rfl : rg = 0 := hg
      have e3 : (MK.toList == db.toList) = false := beqS_f (fun e => hm (by rw [HTB.out (by first | rfl | trivial)]; exact ByteArray.ext (Array.ext' e)))
      have d1 : decide (n < 0) = false := decide_eq_false (by have := hC.1.1; omega)
      have d2 : decide (4611686018427387903 < n) = false := decide_eq_false (by have := hC.1.2; omega)
      have d3 : decide (b < 0) = false := decide_eq_false (by have := hC.2.1; omega)
      have d4 : decide (n ≤ b) = false := decide_eq_false (by have := hC.2.2; omega)
      clear hC hm
      go_wp2_with fail
      refine HAW.out.mono ?_
      rintro e w6 ⟨rfl, hb6⟩
      have HB6 := Lib.hid hb6
      clear hb6
      go_wp2
      go_ret
      exact ⟨rfl, HB6.out⟩
    · subst hh
      obtain rfl : rg = 0 := hg
      have e3 : (MK.toList == db.toList) = true := beqS_t (by rw [hm, HTB.out (by first | rfl | trivial)])
      have d1 : decide (n < 0) = false := decide_eq_false (by have := hC.1.1; omega)
      have d2 : decide (4611686018427387903 < n) = false := decide_eq_false (by have := hC.1.2; omega)
      have d3 : decide (b < 0) = false := decide_eq_false (by have := hC.2.1; omega)
      have d4 : decide (n ≤ b) = false := decide_eq_false (by have := hC.2.2; omega)
      clear hC hm
      go_wp2_with fail
      refine HAW.out.mono ?_
      rintro e w6 ⟨rfl, hb6⟩
      have HB6 := Lib.hid hb6
      clear hb6
      go_wp2
      go_ret
      exact ⟨rfl, HB6.out⟩
  case neg =>
    have hT := hT1.out
    rw [if_neg hbe] at hT
    have e0 : (be != 0) = true := by simpa using hbe
    have HTE := Lib.hid hT
    clear hbe hT1 hT
    go_upto_region 7 with fail
    rw [show (⟨#[98, 101, 110, 116]⟩ : ByteArray) = T from HTE.out.symm]
    go_wp2_with fail
    refine HPT.out.mono ?_
    rintro e w3 ⟨R, F, rfl, hb3, HQ⟩
    have HP3 := Lib.hid (HP2.out.move (HP2.out.ww.below hb3) (Moves.of_below hb3))
    have HG3 := Lib.hid (HG2.out.below hb3 HG2.out.lt)
    have HB3 := Lib.hid (bl_nx HB2.out hb3)
    have HRD3 := Lib.hid (read_d w3 T hTS)
    rw [← HRD.out] at HRD3
    have HQ2 := Lib.hid HQ.out
    rw [← HRD.out, ← HRM.out.1, ← HRM.out.2] at HQ2
    simp only at HQ2
    have c03 := HP3.out.ww.ob.cell (i := 0) rfl
    clear hb3 HPT c0 HQ
    go_wp2_with fail
    refine HRD3.out.mono ?_
    rintro e w4 ⟨v4, rfl, hO4, hb4⟩
    simp only at hO4
    obtain ⟨a4, k4, rfl⟩ := owns_slice hO4
    simp only
    obtain ⟨U, hU⟩ : ∃ U, U = w4.alloc (Obj.cells #[.string rb, .string rm, .int .i64 rs, .slice a4 rl.length k4] 55) := ⟨_, rfl⟩
    have hbU : Below w3.heap.size w3 U := by rw [hU]; exact bl_nx hb4 (below_alloc _ _)
    have HP4 := Lib.hid (HP3.out.move (HP3.out.ww.below hbU) (Moves.of_below hbU))
    have HG4 := Lib.hid (HG3.out.below hbU HG3.out.lt)
    have HB4 := Lib.hid (bl_nx HB3.out hbU)
    have HU := Lib.hid hU
    have c04 := HP4.out.ww.ob.cell (i := 0) rfl
    have HMK := Lib.hid (stMark_b U ps p (ps + 1) v l b HP4.out.ww.sw.st (by omega))
    rw [← HRM.out.1, ← HRM.out.2] at HMK
    clear hU hO4 hb4 hbU HRD3 c03
    go_upto_region 9 with fail
    rw [← HU.out]
    go_wp2_with fail
    refine HMK.out.mono ?_
    rintro e w5 ⟨rfl, hb5⟩
    have HB5 := Lib.hid (bl_nx HB4.out hb5)
    have q0 := (HG4.out.below hb5 HG4.out.lt).cell (i := 0) rfl
    have HAW := Lib.hid (awake_in w w5 HB5.out)
    clear hb5 HMK c04
    rcases HQ2.out with ⟨hno, rfl, rfl⟩ | ⟨hC, hg, rfl, rfl⟩ | ⟨hC, hg, hh, rfl, rfl⟩ | ⟨hC, hg, hh, hm, rfl, rfl⟩ | ⟨hC, hg, hh, hm, hr, rfl⟩
    · by_cases h0 : n < 0
      · have d1 : decide (n < 0) = true := decide_eq_true h0
        clear h0 hno
        go_wp2_with fail
        refine HAW.out.mono ?_
        rintro e w6 ⟨rfl, hb6⟩
        have HB6 := Lib.hid hb6
        clear hb6
        go_wp2
        go_ret
        exact ⟨rfl, HB6.out⟩
      have d1 : decide (n < 0) = false := decide_eq_false h0
      by_cases h1 : 4611686018427387903 < n
      · have d2 : decide (4611686018427387903 < n) = true := decide_eq_true h1
        clear h0 h1 hno
        go_wp2_with fail
        refine HAW.out.mono ?_
        rintro e w6 ⟨rfl, hb6⟩
        have HB6 := Lib.hid hb6
        clear hb6
        go_wp2
        go_ret
        exact ⟨rfl, HB6.out⟩
      have d2 : decide (4611686018427387903 < n) = false := decide_eq_false h1
      by_cases h2 : b < 0
      · have d3 : decide (b < 0) = true := decide_eq_true h2
        clear h0 h1 h2 hno
        go_wp2_with fail
        refine HAW.out.mono ?_
        rintro e w6 ⟨rfl, hb6⟩
        have HB6 := Lib.hid hb6
        clear hb6
        go_wp2
        go_ret
        exact ⟨rfl, HB6.out⟩
      have d3 : decide (b < 0) = false := decide_eq_false h2
      have d4 : decide (n ≤ b) = true := decide_eq_true (Classical.byContradiction fun h3 => hno ⟨⟨by omega, by omega⟩, by omega, by omega⟩)
      clear h0 h1 h2 hno
      go_wp2_with fail
      refine HAW.out.mono ?_
      rintro e w6 ⟨rfl, hb6⟩
      have HB6 := Lib.hid hb6
      clear hb6
      go_wp2
      go_ret
      exact ⟨rfl, HB6.out⟩
    · have e2 : (((rg : Nat) : Int) != 0) = true := by simpa using hg
      have d1 : decide (n < 0) = false := decide_eq_false (by have := hC.1.1; omega)
      have d2 : decide (4611686018427387903 < n) = false := decide_eq_false (by have := hC.1.2; omega)
      have d3 : decide (b < 0) = false := decide_eq_false (by have := hC.2.1; omega)
      have d4 : decide (n ≤ b) = false := decide_eq_false (by have := hC.2.2; omega)
      clear hC hg
      go_wp2_with fail
      refine HAW.out.mono ?_
      rintro e w6 ⟨rfl, hb6⟩
      have HB6 := Lib.hid hb6
      clear hb6
      go_wp2
      go_ret
      exact ⟨rfl, HB6.out⟩
    · subst hh
      obtain rfl : rg = 0 := hg
      have d1 : decide (n < 0) = false := decide_eq_false (by have := hC.1.1; omega)
      have d2 : decide (4611686018427387903 < n) = false := decide_eq_false (by have := hC.1.2; omega)
      have d3 : decide (b < 0) = false := decide_eq_false (by have := hC.2.1; omega)
      have d4 : decide (n ≤ b) = false := decide_eq_false (by have := hC.2.2; omega)
      clear hC
      go_wp2_with fail
      refine HAW.out.mono ?_
      rintro e w6 ⟨rfl, hb6⟩
      have HB6 := Lib.hid hb6
      clear hb6
      go_wp2
      go_ret
      exact ⟨rfl, HB6.out⟩
    · subst hh
      obtain rfl : rg = 0 := hg
      have e3 : (MK.toList == db.toList) = false := beqS_f (fun e => hm (by rw [HTB.out (by first | rfl | trivial)]; exact ByteArray.ext (Array.ext' e)))
      have d1 : decide (n < 0) = false := decide_eq_false (by have := hC.1.1; omega)
      have d2 : decide (4611686018427387903 < n) = false := decide_eq_false (by have := hC.1.2; omega)
      have d3 : decide (b < 0) = false := decide_eq_false (by have := hC.2.1; omega)
      have d4 : decide (n ≤ b) = false := decide_eq_false (by have := hC.2.2; omega)
      clear hC hm
      go_wp2_with fail
      refine HAW.out.mono ?_
      rintro e w6 ⟨rfl, hb6⟩
      have HB6 := Lib.hid hb6
      clear hb6
      go_wp2
      go_ret
      exact ⟨rfl, HB6.out⟩
    · subst hh
      obtain rfl : rg = 0 := hg
      have e3 : (MK.toList == db.toList) = true := beqS_t (by rw [hm, HTB.out (by first | rfl | trivial)])
      have d1 : decide (n < 0) = false := decide_eq_false (by have := hC.1.1; omega)
      have d2 : decide (4611686018427387903 < n) = false := decide_eq_false (by have := hC.1.2; omega)
      have d3 : decide (b < 0) = false := decide_eq_false (by have := hC.2.1; omega)
      have d4 : decide (n ≤ b) = false := decide_eq_false (by have := hC.2.2; omega)
      clear hC hm
      go_wp2_with fail
      refine HAW.out.mono ?_
      rintro e w6 ⟨rfl, hb6⟩
      have HB6 := Lib.hid hb6
      clear hb6
      go_wp2
      go_ret
      exact ⟨rfl, HB6.out⟩
end Go.Proofs.YtgkcnocfijckoaaGreat
