/- The document's Apply under a real book. Conditions: as named in each theorem. -/
import Derived.Test.YtgemhgllifhckaaShaBook
import Derived.Test.YtgemhgllifhckaaDlRun
import Derived.Deep.RegionHeld3
import Derived.Test.YtgemhgllifhckaaShaRef
import Derived.Test.YtgemhgllifhckaaDlRights
namespace Go.Proofs.Ytgemhgllifhckaa
open Go.RowKit Sg
set_option linter.unusedVariables false
set_option linter.unusedSimpArgs false
/-- what a delta makes under a real book -/
noncomputable def applyR (b : ByteArray) (d : Dl) : ByteArray × Int :=
  if rightD d = true then (if ((shaS b).toList == d.basis.toList) = true then (if (runS b d.steps ByteArray.empty).2 = 0 then (if ((shaS (runS b d.steps ByteArray.empty).1).toList == d.mark.toList) = true then ((runS b d.steps ByteArray.empty).1, 0) else (ByteArray.empty, 6)) else (ByteArray.empty, (runS b d.steps ByteArray.empty).2)) else (ByteArray.empty, 13)) else (ByteArray.empty, 1)
section
variable {b : ByteArray} {d : Dl}
theorem applyR_no (h : rightD d = false) : applyR b d = (ByteArray.empty, 1) := by unfold applyR; rw [h]; rfl
theorem applyR_basis (h : rightD d = true) (h1 : ((shaS b).toList == d.basis.toList) = false) : applyR b d = (ByteArray.empty, 13) := by unfold applyR; rw [if_pos h, h1]; rfl
theorem applyR_run (h : rightD d = true) (h1 : ((shaS b).toList == d.basis.toList) = true) (h2 : (runS b d.steps ByteArray.empty).2 ≠ 0) : applyR b d = (ByteArray.empty, (runS b d.steps ByteArray.empty).2) := by unfold applyR; rw [if_pos h, if_pos h1, if_neg h2]
theorem applyR_sum (h : rightD d = true) (h1 : ((shaS b).toList == d.basis.toList) = true) (h2 : (runS b d.steps ByteArray.empty).2 = 0) (h3 : ((shaS (runS b d.steps ByteArray.empty).1).toList == d.mark.toList) = false) : applyR b d = (ByteArray.empty, 6) := by unfold applyR; rw [if_pos h, if_pos h1, if_pos h2, h3]; rfl
theorem applyR_ok (h : rightD d = true) (h1 : ((shaS b).toList == d.basis.toList) = true) (h2 : (runS b d.steps ByteArray.empty).2 = 0) (h3 : ((shaS (runS b d.steps ByteArray.empty).1).toList == d.mark.toList) = true) : applyR b d = ((runS b d.steps ByteArray.empty).1, 0) := by unfold applyR; rw [if_pos h, if_pos h1, if_pos h2, if_pos h3]
end
theorem runS_size (b : ByteArray) : ∀ (l : List St) (o : ByteArray), o.size ≤ 524288 → (runS b l o).1.size ≤ 524288 := by
  intro l
  induction l with
  | nil => intro o h; exact h
  | cons x l ih =>
    intro o h
    by_cases h1 : rightS x ∧ x.pos + x.len ≤ b.size
    · by_cases h2 : 524288 < (o.size : Int) + x.len + x.text.size
      · rw [runS_long h1 h2]; decide
      · rw [runS_go h1 h2]
        refine ih _ ?_
        obtain ⟨h3, h4, _⟩ := rightS_pos h1.1
        rw [wr3_size, ByteArray.size_extract]
        omega
    · rw [runS_no h1]; decide
set_option maxRecDepth 100000 in
set_option maxHeartbeats 2000000 in
theorem apply_real (w : World) (p : Nat) (hI : RealB w p) (basis bm mk : ByteArray) (z : Int) (ao : Option Addr) (n cap : Nat) (l : List St) (ws : (Lit.int .i64 z).wf = true) (hbm : bm.size ≤ maxLen) (hmk : mk.size ≤ maxLen) (hR : Rs w ao n cap 3 l St.c) (hok : ∀ x ∈ l, x.ok) (hn : n ≤ 1000000) (hb2 : basis.size ≤ 524288) :
    Calls Try.prog 24 #[.pointer (some ⟨p, 0, none⟩), .string basis, .agg #[.string bm, .string mk, .int .i64 z, .slice ao n cap]] w fun e w' => e = .returned (.tuple #[.string (applyR basis ⟨bm, mk, z, l⟩).1, .int .i64 (applyR basis ⟨bm, mk, z, l⟩).2]) ∧ Below w.heap.size w w' := by
  obtain ⟨V1, hV1⟩ : ∃ V, V = w.alloc (Obj.cells #[.string bm, .string mk, .int .i64 z, .slice ao n cap] 25) := ⟨_, rfl⟩
  obtain ⟨pd, hpd⟩ : ∃ q, q = w.heap.size := ⟨_, rfl⟩
  have hb1 : Below w.heap.size w V1 := by rw [hV1]; exact below_alloc _ _
  have hG1 : Blk V1 pd [.string bm, .string mk, .int .i64 z, .slice ao n cap] 25 := by rw [hV1, hpd]; exact Blk.new _ _ _
  have HRI := Lib.hid (deltaRight_any V1 bm mk z ao n cap l ws hbm hmk (hR.next hb1) hok)
  have q0 := hG1.cell (i := 0) rfl
  have q1 := hG1.cell (i := 1) rfl
  have q2 := hG1.cell (i := 2) rfl
  have q3 := hG1.cell (i := 3) rfl
  have HM : Hid (∀ (W : World) (t : ByteArray), Below w.heap.size w W → t.size ≤ 900000000 → Calls Try.prog 40 #[.pointer (some ⟨p, 0, none⟩), .string t] W fun e w' => e = .returned (.string (shaS t)) ∧ Below W.heap.size W w') := Lib.hid (fun W t hW ht => mark_real W p t (hI.next hW) ht)
  have HR := Lib.hid hR
  have HOK := Lib.hid hok
  have HV1 := Lib.hid hV1
  have HPD := Lib.hid hpd
  have HB1 := Lib.hid (And.intro hb1 hG1)
  clear hV1 hpd hb1 hG1 hR hok hI ws hbm hmk
  obtain ⟨D, hD⟩ : ∃ D : Dl, D = ⟨bm, mk, z, l⟩ := ⟨_, rfl⟩
  have e1 : D.basis = bm := by rw [hD]
  have e2 : D.mark = mk := by rw [hD]
  have e3 : D.steps = l := by rw [hD]
  rw [← hD] at HRI ⊢
  have HE := Lib.hid (And.intro e1 (And.intro e2 e3))
  obtain ⟨R, hRR⟩ : ∃ R, R = rightD D := ⟨_, rfl⟩
  have HRR := Lib.hid hRR
  obtain ⟨E1, hE1⟩ : ∃ E, E = ((shaS basis).toList == bm.toList) := ⟨_, rfl⟩
  have HE1 := Lib.hid hE1
  obtain ⟨T, hT⟩ : ∃ T, T = (runS basis l ByteArray.empty).1 := ⟨_, rfl⟩
  obtain ⟨K, hK⟩ : ∃ K, K = (runS basis l ByteArray.empty).2 := ⟨_, rfl⟩
  have HT := Lib.hid (And.intro hT hK)
  obtain ⟨AR, hAR⟩ : ∃ AR, AR = applyR basis D := ⟨_, rfl⟩
  have HAR : Hid (AR = applyR basis D) := Lib.hid hAR
  rw [← hAR]
  obtain ⟨MB, hMB⟩ : ∃ M, M = shaS basis := ⟨_, rfl⟩
  have HMB := Lib.hid hMB
  rw [← hMB] at hE1
  clear hD e1 e2 e3 hRR hT hK hAR hMB
  go_enter Try.func24, Try.ntmps24
  go_upto_region 1 with fail
  rw [← HPD.out, ← HV1.out]
  go_wp2_with fail
  refine HRI.out.mono ?_
  rintro e w2 ⟨hr, hb2'⟩
  have hr2 := right_ret hr
  rw [← HRR.out] at hr2
  subst hr2
  have hG2 := HB1.out.2.below hb2' HB1.out.2.lt
  have HB2 := Lib.hid (bl_nx HB1.out.1 hb2')
  have d0 := hG2.cell (i := 0) rfl
  have HG2 := Lib.hid hG2
  clear hr hb2' hG2 q0 q1 q2 q3 HRI
  cases R
  case false =>
    go_wp2
    go_ret2
    refine ⟨?_, HB2.out⟩
    rw [HAR.out, applyR_no HRR.out.symm]
    rfl
  case true =>
    obtain ⟨F, hF⟩ : ∃ F, F = (MB.toList == bm.toList) := ⟨_, rfl⟩
    have HF := Lib.hid hF
    have HM1 := Lib.hid (HM.out w2.drew basis (HB2.out.drew) (by omega))
    have HC1 : Hid (∀ w', Below w2.drew.heap.size w2.drew w' → Blk w' pd [.string bm, .string mk, .int .i64 z, .slice ao n cap] 25) := Lib.hid (fun w' hg => (HG2.out.below (bl_drew (Below.refl _ w2)) HG2.out.lt).below hg HG2.out.lt)
    rw [← HMB.out] at HM1
    have hneq : (MB.toList == bm.toList) = F := hF.symm
    clear hF hE1
    go_upto_region 3 with fail
    go_region_held3 (fun w' => w'.cell? ⟨pd, 0, none⟩ = some (.string bm)) (first | exact HH | exact d0)
      (first | (go_at_call 40; refine HM1.out.mono ?_; rintro e w7 ⟨rfl, hG7⟩; have HH := (HC1.out w7 hG7).cell (i := 0) rfl))
    all_goals (
      have HE3 := Lib.hid (bl_nx HB2.out.drew hG7)
      have hG7b := HC1.out w7 hG7
      have x3 := hG7b.cell (i := 3) rfl
      have HRUN := Lib.hid (run_any w7 basis ao n cap l hb2 (HR.out.next HE3.out) hn HOK.out)
      rw [← HT.out.1, ← HT.out.2] at HRUN
      have HG7 := Lib.hid hG7b
      clear hG7b hG7 HH HM1 HC1 d0
      cases F
      case false =>
        go_wp2
        go_ret2
        refine ⟨?_, HE3.out⟩
        rw [HAR.out, applyR_basis HRR.out.symm (by rw [← HMB.out, HE.out.1]; exact HF.out.symm)]
        rfl
      case true =>
        go_wp2_with fail
        refine HRUN.out.mono ?_
        rintro e w8 ⟨rfl, hb8⟩
        have hG8 := HG7.out.below hb8 HG7.out.lt
        have HB8 := Lib.hid (bl_nx HE3.out hb8)
        have d1 := hG8.cell (i := 1) rfl
        have HG8 := Lib.hid hG8
        clear hb8 hG8 x3 HRUN
        by_cases hK0 : K = 0
        case neg =>
          have hk : (K != 0) = true := by simpa using hK0
          go_wp2
          go_ret2
          refine ⟨?_, HB8.out⟩
          rw [HAR.out, applyR_run HRR.out.symm (by rw [← HMB.out, HE.out.1]; exact HF.out.symm) (by rw [HE.out.2.2, ← HT.out.2]; exact hK0), HE.out.2.2, ← HT.out.2]
          rfl
        case pos =>
          subst hK0
          have hts : T.size ≤ 524288 := by
            rw [HT.out.1]
            exact runS_size basis l ByteArray.empty (by decide)
          obtain ⟨MT, hMT⟩ : ∃ M, M = shaS T := ⟨_, rfl⟩
          have HMT := Lib.hid hMT
          obtain ⟨G, hG⟩ : ∃ G, G = (MT.toList == mk.toList) := ⟨_, rfl⟩
          have HG := Lib.hid hG
          have hne2 : (MT.toList == mk.toList) = G := hG.symm
          have HM2 := Lib.hid (HM.out w8.drew T HB8.out.drew (by omega))
          have HC2 : Hid (∀ w', Below w8.drew.heap.size w8.drew w' → Blk w' pd [.string bm, .string mk, .int .i64 z, .slice ao n cap] 25) := Lib.hid (fun w' hg => (HG8.out.below (bl_drew (Below.refl _ w8)) HG8.out.lt).below hg HG8.out.lt)
          rw [← HMT.out] at HM2
          clear hMT hG
          go_upto_region 8 with fail
          go_region_held3 (fun w' => w'.cell? ⟨pd, 1, none⟩ = some (.string mk)) (first | exact HH | exact d1)
            (first | (go_at_call 40; refine HM2.out.mono ?_; rintro e w9 ⟨rfl, hG9⟩; have HH := (HC2.out w9 hG9).cell (i := 1) rfl))
          all_goals (
            have HE9 := Lib.hid (bl_nx HB8.out.drew hG9)
            clear HH HM2 HC2 d1 hG9
            cases G
            case false =>
              go_wp2
              go_ret2
              refine ⟨?_, HE9.out⟩
              rw [HAR.out, applyR_sum HRR.out.symm (by rw [← HMB.out, HE.out.1]; exact HF.out.symm) (by rw [HE.out.2.2]; exact HT.out.2.symm) (by rw [HE.out.2.2, ← HT.out.1, ← HMT.out, HE.out.2.1]; exact HG.out.symm)]
              rfl
            case true =>
              go_wp2
              go_ret2
              refine ⟨?_, HE9.out⟩
              rw [HAR.out, applyR_ok HRR.out.symm (by rw [← HMB.out, HE.out.1]; exact HF.out.symm) (by rw [HE.out.2.2]; exact HT.out.2.symm) (by rw [HE.out.2.2, ← HT.out.1, ← HMT.out, HE.out.2.1]; exact HG.out.symm), HE.out.2.2, ← HT.out.1]
              rfl))
end Go.Proofs.Ytgemhgllifhckaa
namespace Go.Proofs.Ytgemhgllifhckaa
open Go.RowKit Sg
set_option linter.unusedVariables false
set_option linter.unusedSimpArgs false
end Go.Proofs.Ytgemhgllifhckaa
