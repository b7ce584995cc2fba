/- Which messages may be: the program's Right. Conditions: the list's length is at most the machine's. -/
import Derived.Test.YtlcpnpoleaanmaaMsgRight
namespace Go.Proofs.Ytlcpnpoleaanmaa
open Go.RowKit
set_option linter.unusedVariables false

theorem lowS_ne {k : Int} (h : flds k ≠ []) : ((lowS k).toList == []) = false := by
  refine strNe' ?_
  intro e
  apply h
  have : (low (flds k)).length = 0 := e
  unfold low at this
  rw [List.length_map] at this
  exact List.eq_nil_of_length_eq_zero this
theorem lowS_nil {k : Int} (h : flds k = []) : lowS k = ByteArray.empty := by unfold lowS; rw [h]; rfl

set_option maxRecDepth 100000 in
set_option maxHeartbeats 2000000 in
theorem right_any (w : World) (m : Mg) (ao : Option Addr) (n cap : Nat) (hR : Rs w ao n cap 3 m.list enC) (hm : n ≤ maxLen) :
    Calls Try.prog 12 #[.agg (mgC m (.slice ao n cap)).toArray] w fun e w' => AnsR (rightM m) e ∧ Below w.heap.size w w' := by
  obtain ⟨V, hV⟩ : ∃ V, V = w.alloc (.cells (mgC m (.slice ao n cap)).toArray 26) := ⟨_, rfl⟩
  obtain ⟨p, hp⟩ : ∃ p, p = w.heap.size := ⟨_, rfl⟩
  have hG : Blk V p (mgC m (.slice ao n cap)) 26 := by rw [hV, hp]; exact Blk.new _ _ _
  have hB : Below w.heap.size w V := by rw [hV]; exact below_alloc' _ _
  have hRV := hR.below hB (Nat.le_refl _)
  have c0 := hG.cell (i := 0) rfl
  have c1 := hG.cell (i := 1) rfl
  have c2 := hG.cell (i := 2) rfl
  have c3 := hG.cell (i := 3) rfl
  have c4 := hG.cell (i := 4) rfl
  have c5 := hG.cell (i := 5) rfl
  have c6 := hG.cell (i := 6) rfl
  have c7 := hG.cell (i := 7) rfl
  have c8 := hG.cell (i := 8) rfl
  have c9 := hG.cell (i := 9) rfl
  have c10 := hG.cell (i := 10) rfl
  have c11 := hG.cell (i := 11) rfl
  have c12 := hG.cell (i := 12) rfl
  have c13 := hG.cell (i := 13) rfl
  unfold mgC at hV ⊢
  have HV := Lib.hid hV
  have HP := Lib.hid hp
  have HB := Lib.hid hB
  have HG := Lib.hid hG
  have HRV := Lib.hid hRV
  clear hV hp hG hB hR hRV
  go_enter Try.func12, Try.ntmps12
  go_upto_region 1 with fail
  rw [← HP.out, ← HV.out]
  go_wp2_with fail
  refine (form_any _ m.kind).mono ?_
  rintro e w1 ⟨rfl, rfl⟩
  by_cases t0 : flds m.kind = []
  case pos =>
    have HF : Hid (¬ rightM m) := Lib.hid (fun h => h.1.1 t0)
    rw [lowS_nil t0]
    clear t0
    go_wp2
    go_ret
    exact ⟨AnsR.no HF.out, HB.out⟩
  have d0 := lowS_ne t0
  have T0 := Lib.hid t0
  clear t0
  by_cases s0 : m.src < 0
  case pos =>
    have HF : Hid (¬ rightM m) := Lib.hid (fun h => by have := h.1.2.1; omega)
    go_wp2
    go_ret
    exact ⟨AnsR.no HF.out, HB.out⟩
  by_cases s1 : 255 < m.src
  case pos =>
    have HF : Hid (¬ rightM m) := Lib.hid (fun h => by have := h.1.2.2.1; omega)
    go_wp2
    go_ret
    exact ⟨AnsR.no HF.out, HB.out⟩
  by_cases s2 : m.dst < 0
  case pos =>
    have HF : Hid (¬ rightM m) := Lib.hid (fun h => by have := h.1.2.2.2.1; omega)
    go_wp2
    go_ret
    exact ⟨AnsR.no HF.out, HB.out⟩
  by_cases s3 : 255 < m.dst
  case pos =>
    have HF : Hid (¬ rightM m) := Lib.hid (fun h => by have := h.1.2.2.2.2; omega)
    go_wp2
    go_ret
    exact ⟨AnsR.no HF.out, HB.out⟩
  have HH : Hid (okHead m) := Lib.hid ⟨T0.out, by omega, by omega, by omega, by omega⟩
  go_wp2_with fail
  clear s0 s1 s2 s3 d0
  refine (isnum_any V p m (.slice ao n cap) HG.out 98 66 (by decide) m.ballot).mono ?_
  rintro e w1 ⟨rfl, rfl⟩
  obtain ⟨r0, hr0⟩ : ∃ r, r = okNum m.kind 66 m.ballot := ⟨_, rfl⟩
  rw [← hr0]
  have HR0 := Lib.hid hr0
  clear hr0
  cases r0
  case false =>
    have HF : Hid (¬ rightM m) := Lib.hid (fun h => by have := h.2.1.1; rw [← HR0.out] at this; cases this)
    go_wp2
    go_ret
    exact ⟨AnsR.no HF.out, HB.out⟩
  go_wp2_with fail
  refine (isnum_any V p m (.slice ao n cap) HG.out 103 71 (by decide) m.gen).mono ?_
  rintro e w1 ⟨rfl, rfl⟩
  obtain ⟨r1, hr1⟩ : ∃ r, r = okNum m.kind 71 m.gen := ⟨_, rfl⟩
  rw [← hr1]
  have HR1 := Lib.hid hr1
  clear hr1
  cases r1
  case false =>
    have HF : Hid (¬ rightM m) := Lib.hid (fun h => by have := h.2.1.2.1; rw [← HR1.out] at this; cases this)
    go_wp2
    go_ret
    exact ⟨AnsR.no HF.out, HB.out⟩
  go_wp2_with fail
  refine (isnum_any V p m (.slice ao n cap) HG.out 115 83 (by decide) m.basis).mono ?_
  rintro e w1 ⟨rfl, rfl⟩
  obtain ⟨r2, hr2⟩ : ∃ r, r = okNum m.kind 83 m.basis := ⟨_, rfl⟩
  rw [← hr2]
  have HR2 := Lib.hid hr2
  clear hr2
  cases r2
  case false =>
    have HF : Hid (¬ rightM m) := Lib.hid (fun h => by have := h.2.1.2.2.1; rw [← HR2.out] at this; cases this)
    go_wp2
    go_ret
    exact ⟨AnsR.no HF.out, HB.out⟩
  go_wp2_with fail
  refine (isnum_any V p m (.slice ao n cap) HG.out 102 70 (by decide) m.floor).mono ?_
  rintro e w1 ⟨rfl, rfl⟩
  obtain ⟨r3, hr3⟩ : ∃ r, r = okNum m.kind 70 m.floor := ⟨_, rfl⟩
  rw [← hr3]
  have HR3 := Lib.hid hr3
  clear hr3
  cases r3
  case false =>
    have HF : Hid (¬ rightM m) := Lib.hid (fun h => by have := h.2.1.2.2.2.1; rw [← HR3.out] at this; cases this)
    go_wp2
    go_ret
    exact ⟨AnsR.no HF.out, HB.out⟩
  go_wp2_with fail
  refine (isnum_any V p m (.slice ao n cap) HG.out 116 84 (by decide) m.top).mono ?_
  rintro e w1 ⟨rfl, rfl⟩
  obtain ⟨r4, hr4⟩ : ∃ r, r = okNum m.kind 84 m.top := ⟨_, rfl⟩
  rw [← hr4]
  have HR4 := Lib.hid hr4
  clear hr4
  cases r4
  case false =>
    have HF : Hid (¬ rightM m) := Lib.hid (fun h => by have := h.2.1.2.2.2.2.1; rw [← HR4.out] at this; cases this)
    go_wp2
    go_ret
    exact ⟨AnsR.no HF.out, HB.out⟩
  go_wp2_with fail
  refine (isnum_any V p m (.slice ao n cap) HG.out 114 82 (by decide) m.read).mono ?_
  rintro e w1 ⟨rfl, rfl⟩
  obtain ⟨r5, hr5⟩ : ∃ r, r = okNum m.kind 82 m.read := ⟨_, rfl⟩
  rw [← hr5]
  have HR5 := Lib.hid hr5
  clear hr5
  cases r5
  case false =>
    have HF : Hid (¬ rightM m) := Lib.hid (fun h => by have := h.2.1.2.2.2.2.2; rw [← HR5.out] at this; cases this)
    go_wp2
    go_ret
    exact ⟨AnsR.no HF.out, HB.out⟩
  have HNS : Hid (okNums m) := Lib.hid ⟨HR0.out.symm, HR1.out.symm, HR2.out.symm, HR3.out.symm, HR4.out.symm, HR5.out.symm⟩
  clear HR0 HR1 HR2 HR3 HR4 HR5
  go_wp2_with fail
  refine (has_any V m.kind 109 77 (by decide)).mono ?_
  rintro e w1 ⟨rfl, rfl⟩
  obtain ⟨rm, hrm⟩ : ∃ r, r = hasF m.kind 77 := ⟨_, rfl⟩
  rw [← hrm]
  have HRM := Lib.hid hrm
  clear hrm
  have mk : okMark m → rightM m → True := fun _ _ => trivial
  have HMK : ∀ K : Prop, (okMark m → K) → (¬ okMark m → K) → K := fun K a b => by rcases Classical.em (okMark m) with h | h; exact a h; exact b h
  clear mk HMK
  cases rm
  case true =>
    by_cases e32 : m.mark.size = 32
    case neg =>
      have d32 : ((m.mark.size : Int) != 32) = true := by simp; omega
      have HF : Hid (¬ rightM m) := Lib.hid (fun h => e32 (h.2.2.1.1 HRM.out.symm))
      clear e32
      go_wp2
      go_ret
      exact ⟨AnsR.no HF.out, HB.out⟩
    have d32 : ((m.mark.size : Int) != 32) = false := by simp; omega
    have HM : Hid (okMark m) := Lib.hid ⟨fun _ => e32, (fun h => by rw [← HRM.out] at h; cases h)⟩
    clear e32
    go_wp2_with fail
    refine (has_any V m.kind 109 77 (by decide)).mono ?_
    rintro e w1 ⟨rfl, rfl⟩
    rw [← HRM.out]
    go_wp2_with fail
    refine (part_any V m ao n cap).mono ?_
    rintro e w2 ⟨⟨r, rfl, hr⟩, hb2⟩
    have HBX := Lib.hid (below_then' HB.out hb2)
    have hG2 := HG.out.below hb2 HG.out.lt
    have HR2 := Lib.hid (HRV.out.below hb2 (Nat.le_refl _))
    have HRR := Lib.hid hr
    clear c0 c1 c2 c3 c4 c5 c6 c7 c8 c9 c10 c11 c12 c13 hb2 hr
    have c0 := hG2.cell (i := 0) rfl
    have c1 := hG2.cell (i := 1) rfl
    have c2 := hG2.cell (i := 2) rfl
    have c3 := hG2.cell (i := 3) rfl
    have c4 := hG2.cell (i := 4) rfl
    have c5 := hG2.cell (i := 5) rfl
    have c6 := hG2.cell (i := 6) rfl
    have c7 := hG2.cell (i := 7) rfl
    have c8 := hG2.cell (i := 8) rfl
    have c9 := hG2.cell (i := 9) rfl
    have c10 := hG2.cell (i := 10) rfl
    have c11 := hG2.cell (i := 11) rfl
    have c12 := hG2.cell (i := 12) rfl
    have c13 := hG2.cell (i := 13) rfl
    clear hG2
    cases r
    case false =>
      have HF : Hid (¬ rightM m) := Lib.hid (fun h => by have := HRR.out.2 h.2.2.2.1; cases this)
      go_wp2
      go_ret
      exact ⟨AnsR.no HF.out, HBX.out⟩
    go_wp2_with fail
    refine (list_any w2 m ao n cap HR2.out hm).mono ?_
    rintro e w3 ⟨⟨r, rfl, hr⟩, hb3⟩
    have HF : Hid (r = true ↔ rightM m) := Lib.hid ⟨fun h => ⟨HH.out, HNS.out, HM.out, HRR.out.1 (by simp), hr.1 h⟩, fun h => hr.2 h.2.2.2.2⟩
    have HBY := Lib.hid (below_then' HBX.out hb3)
    clear hr hb3
    go_wp2
    go_ret
    exact ⟨⟨r, rfl, HF.out⟩, HBY.out⟩
  case false =>
    by_cases e0 : m.mark.size = 0
    case neg =>
      have d32 := strNe' e0
      have HF : Hid (¬ rightM m) := Lib.hid (fun h => e0 (h.2.2.1.2 HRM.out.symm))
      clear e0
      go_wp2_with fail
      refine (has_any V m.kind 109 77 (by decide)).mono ?_
      rintro e w1 ⟨rfl, rfl⟩
      rw [← HRM.out]
      go_wp2
      go_ret
      exact ⟨AnsR.no HF.out, HB.out⟩
    have HM : Hid (okMark m) := Lib.hid ⟨(fun h => by rw [← HRM.out] at h; cases h), fun _ => e0⟩
    have d32 : (m.mark.toList == []) = true := by rw [(toList_nil _).2 e0]; rfl
    have e33 : m.mark.toList = [] := (toList_nil _).2 e0
    clear e0 d32
    go_wp2_with fail
    refine (has_any V m.kind 109 77 (by decide)).mono ?_
    rintro e w1 ⟨rfl, rfl⟩
    rw [← HRM.out]
    go_wp2_with fail
    refine (part_any V m ao n cap).mono ?_
    rintro e w2 ⟨⟨r, rfl, hr⟩, hb2⟩
    have HBX := Lib.hid (below_then' HB.out hb2)
    have hG2 := HG.out.below hb2 HG.out.lt
    have HR2 := Lib.hid (HRV.out.below hb2 (Nat.le_refl _))
    have HRR := Lib.hid hr
    clear c0 c1 c2 c3 c4 c5 c6 c7 c8 c9 c10 c11 c12 c13 hb2 hr
    have c0 := hG2.cell (i := 0) rfl
    have c1 := hG2.cell (i := 1) rfl
    have c2 := hG2.cell (i := 2) rfl
    have c3 := hG2.cell (i := 3) rfl
    have c4 := hG2.cell (i := 4) rfl
    have c5 := hG2.cell (i := 5) rfl
    have c6 := hG2.cell (i := 6) rfl
    have c7 := hG2.cell (i := 7) rfl
    have c8 := hG2.cell (i := 8) rfl
    have c9 := hG2.cell (i := 9) rfl
    have c10 := hG2.cell (i := 10) rfl
    have c11 := hG2.cell (i := 11) rfl
    have c12 := hG2.cell (i := 12) rfl
    have c13 := hG2.cell (i := 13) rfl
    clear hG2
    cases r
    case false =>
      have HF : Hid (¬ rightM m) := Lib.hid (fun h => by have := HRR.out.2 h.2.2.2.1; cases this)
      go_wp2
      go_ret
      exact ⟨AnsR.no HF.out, HBX.out⟩
    go_wp2_with fail
    refine (list_any w2 m ao n cap HR2.out hm).mono ?_
    rintro e w3 ⟨⟨r, rfl, hr⟩, hb3⟩
    have HF : Hid (r = true ↔ rightM m) := Lib.hid ⟨fun h => ⟨HH.out, HNS.out, HM.out, HRR.out.1 (by simp), hr.1 h⟩, fun h => hr.2 h.2.2.2.2⟩
    have HBY := Lib.hid (below_then' HBX.out hb3)
    clear hr hb3
    go_wp2
    go_ret
    exact ⟨⟨r, rfl, HF.out⟩, HBY.out⟩
end Go.Proofs.Ytlcpnpoleaanmaa
