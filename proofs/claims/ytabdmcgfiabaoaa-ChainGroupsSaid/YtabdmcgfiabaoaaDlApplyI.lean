/- delta.Apply under an ideal book: whatever is handed in. Conditions: as named in each theorem. -/
import Derived.Test.YtabdmcgfiabaoaaDlApply
import Derived.Deep.RegionHeld3
namespace Go.Proofs.Ytabdmcgfiabaoaa
open Go.RowKit Sg
set_option linter.unusedVariables false
set_option linter.unusedSimpArgs false
open Classical in
noncomputable def rightI (d : Dl) : Bool := decide (RightP d)
open Classical in
theorem right_retI {d : Dl} {e : Ending} (h : RightR (RightP d) e) : e = .returned (.bool (rightI d)) := by
  obtain ⟨r, rfl, hr⟩ := h
  congr 2
  unfold rightI
  cases r with
  | true => exact (decide_eq_true (hr.1 rfl)).symm
  | false => exact (decide_eq_false (fun h => by have := hr.2 h; cases this)).symm
open Classical in
theorem rightI_iff {d : Dl} : rightI d = true ↔ RightP d := by unfold rightI; exact decide_eq_true_iff
def mkI (S : Bk) (t : ByteArray) : ByteArray := numS (S.idxOf (bytesOf t) + 1)
noncomputable def applyI (S : Bk) (b : ByteArray) (d : Dl) : ByteArray × Int :=
  if rightI d = true then (if ((mkI S b).toList == d.basis.toList) = true then (if (runS b d.steps ByteArray.empty).2 = 0 then (if ((mkI (addS S (bytesOf b)) (runS b d.steps ByteArray.empty).1).toList == d.mark.toList) = true then ((runS b d.steps ByteArray.empty).1, 0) else (ByteArray.empty, 6)) else (ByteArray.empty, (runS b d.steps ByteArray.empty).2)) else (ByteArray.empty, 13)) else (ByteArray.empty, 1)
noncomputable def applyB (S : Bk) (b : ByteArray) (d : Dl) : Bk :=
  if rightI d = true then (if ((mkI S b).toList == d.basis.toList) = true ∧ (runS b d.steps ByteArray.empty).2 = 0 then addS (addS S (bytesOf b)) (bytesOf (runS b d.steps ByteArray.empty).1) else addS S (bytesOf b)) else S
section
variable {S : Bk} {b : ByteArray} {d : Dl}
theorem applyI_no (h : rightI d = false) : applyI S b d = (ByteArray.empty, 1) ∧ applyB S b d = S := ⟨by unfold applyI; rw [h]; rfl, by unfold applyB; rw [h]; rfl⟩
theorem applyI_basis (h : rightI d = true) (h1 : ((mkI S b).toList == d.basis.toList) = false) : applyI S b d = (ByteArray.empty, 13) ∧ applyB S b d = addS S (bytesOf b) := by
  exact ⟨by unfold applyI; rw [if_pos h, h1]; rfl, by unfold applyB; rw [if_pos h, if_neg (fun h => by rw [h1] at h; cases h.1)]⟩
theorem applyI_run (h : rightI d = true) (h1 : ((mkI S b).toList == d.basis.toList) = true) (h2 : (runS b d.steps ByteArray.empty).2 ≠ 0) : applyI S b d = (ByteArray.empty, (runS b d.steps ByteArray.empty).2) ∧ applyB S b d = addS S (bytesOf b) := by
  exact ⟨by unfold applyI; rw [if_pos h, if_pos h1, if_neg h2], by unfold applyB; rw [if_pos h, if_neg (fun h => h2 h.2)]⟩
theorem applyI_sum (h : rightI d = true) (h1 : ((mkI S b).toList == d.basis.toList) = true) (h2 : (runS b d.steps ByteArray.empty).2 = 0) (h3 : ((mkI (addS S (bytesOf b)) (runS b d.steps ByteArray.empty).1).toList == d.mark.toList) = false) : applyI S b d = (ByteArray.empty, 6) ∧ applyB S b d = addS (addS S (bytesOf b)) (bytesOf (runS b d.steps ByteArray.empty).1) := by
  exact ⟨by unfold applyI; rw [if_pos h, if_pos h1, if_pos h2, h3]; rfl, by unfold applyB; rw [if_pos h, if_pos ⟨h1, h2⟩]⟩
theorem applyI_ok (h : rightI d = true) (h1 : ((mkI S b).toList == d.basis.toList) = true) (h2 : (runS b d.steps ByteArray.empty).2 = 0) (h3 : ((mkI (addS S (bytesOf b)) (runS b d.steps ByteArray.empty).1).toList == d.mark.toList) = true) : applyI S b d = ((runS b d.steps ByteArray.empty).1, 0) ∧ applyB S b d = addS (addS S (bytesOf b)) (bytesOf (runS b d.steps ByteArray.empty).1) := by
  exact ⟨by unfold applyI; rw [if_pos h, if_pos h1, if_pos h2, if_pos h3], by unfold applyB; rw [if_pos h, if_pos ⟨h1, h2⟩]⟩
end
theorem runI_size (b : ByteArray) : ∀ (l : List St) (o : ByteArray), o.size ≤ 524288 → (runS b l o).1.size ≤ 524288 := by
  intro l
  induction l with
  | nil => intro o h; exact h
  | cons x l ih =>
    intro o h
    by_cases h1 : rightS x ∧ x.pos + x.len ≤ b.size
    · by_cases h2 : 524288 < (o.size : Int) + x.len + x.text.size
      · rw [runS_long h1 h2]; exact Nat.zero_le _
      · rw [runS_go h1 h2]
        refine ih _ ?_
        obtain ⟨h3, h4, _⟩ := rightS_pos h1.1
        rw [wr3_size, ByteArray.size_extract]; omega
    · rw [runS_no h1]; exact Nat.zero_le _
set_option maxRecDepth 100000 in
set_option maxHeartbeats 2000000 in
theorem apply_i (w : World) (p m : Nat) (S : Bk) (hI : BookI w p m S) (hS : S.length ≤ 99000000) (basis bm mk : ByteArray) (z : Int) (ao : Option Addr) (n cap : Nat) (l : List St) (ws : (Lit.int .i64 z).wf = true) (hbm : bm.size ≤ maxLen) (hmk : mk.size ≤ maxLen) (hR : Rs w ao n cap 3 l St.c) (hok : ∀ x ∈ l, x.ok) (hn : n ≤ 1000000) (hb2 : basis.size ≤ 524288) (hrk : ∀ W, Kept (fun k => some m = some k) w W → Rs W ao n cap 3 l St.c) :
    Calls Try.prog 29 #[.pointer (some ⟨p, 0, none⟩), .string basis, .agg #[.string bm, .string mk, .int .i64 z, .slice ao n cap]] w fun e w' => e = .returned (.tuple #[.string (applyI S basis ⟨bm, mk, z, l⟩).1, .int .i64 (applyI S basis ⟨bm, mk, z, l⟩).2]) ∧ BookI w' p m (applyB S basis ⟨bm, mk, z, l⟩) ∧ Kept (fun k => some m = some k) w w' := by
  have hpm := hI.2.2.2.2.1
  obtain ⟨V1, hV1⟩ : ∃ V, V = w.alloc (Obj.cells #[.string bm, .string mk, .int .i64 z, .slice ao n cap] 25) := ⟨_, rfl⟩
  obtain ⟨pd, hpd⟩ : ∃ q, q = w.heap.size := ⟨_, rfl⟩
  have hb1 : Below w.heap.size w V1 := by rw [hV1]; exact below_alloc _ _
  have hG1 : Blk V1 pd [.string bm, .string mk, .int .i64 z, .slice ao n cap] 25 := by rw [hV1, hpd]; exact Blk.new _ _ _
  have HRI := Lib.hid (deltaRight_any V1 bm mk z ao n cap l ws hbm hmk (hR.next hb1) hok)
  have q0 := hG1.cell (i := 0) rfl
  have q1 := hG1.cell (i := 1) rfl
  have q2 := hG1.cell (i := 2) rfl
  have q3 := hG1.cell (i := 3) rfl
  have hmp : m < pd := by rw [hpd]; exact hpm.2
  have HR := Lib.hid hrk
  have HOK := Lib.hid hok
  have HI := Lib.hid hI
  have HV1 := Lib.hid hV1
  have HPD := Lib.hid hpd
  have HB1 := Lib.hid (And.intro hb1 hG1)
  clear hV1 hpd hb1 hG1 hR hok hI ws hbm hmk hrk hpm
  obtain ⟨D, hD⟩ : ∃ D : Dl, D = ⟨bm, mk, z, l⟩ := ⟨_, rfl⟩
  have e1 : D.basis = bm := by rw [hD]
  have e2 : D.mark = mk := by rw [hD]
  have e3 : D.steps = l := by rw [hD]
  rw [← hD] at HRI ⊢
  have HE := Lib.hid (And.intro e1 (And.intro e2 e3))
  obtain ⟨R, hRR⟩ : ∃ R, R = rightI D := ⟨_, rfl⟩
  have HRR := Lib.hid hRR
  obtain ⟨T, hT⟩ : ∃ T, T = (runS basis l ByteArray.empty).1 := ⟨_, rfl⟩
  obtain ⟨K, hK⟩ : ∃ K, K = (runS basis l ByteArray.empty).2 := ⟨_, rfl⟩
  have HT := Lib.hid (And.intro hT hK)
  obtain ⟨AR, hAR⟩ : ∃ AR, AR = applyI S basis D := ⟨_, rfl⟩
  have HAR : Hid (AR = applyI S basis D) := Lib.hid hAR
  rw [← hAR]
  obtain ⟨AB, hAB⟩ : ∃ AB, AB = applyB S basis D := ⟨_, rfl⟩
  have HAB : Hid (AB = applyB S basis D) := Lib.hid hAB
  rw [← hAB]
  obtain ⟨MB, hMB⟩ : ∃ M, M = mkI S basis := ⟨_, rfl⟩
  have HMB := Lib.hid hMB
  clear hD e1 e2 e3 hRR hT hK hAR hMB hAB
  go_enter Try.func29, Try.ntmps29
  go_upto_region 1 with fail
  rw [← HPD.out, ← HV1.out]
  go_wp2_with fail
  refine HRI.out.mono ?_
  rintro e w2 ⟨hr, hb2'⟩
  have hr2 := right_retI hr
  rw [← HRR.out] at hr2
  subst hr2
  have hG2 := HB1.out.2.below hb2' HB1.out.2.lt
  have HI2 := Lib.hid ((HI.out.next HB1.out.1).next hb2')
  have HK2 := Lib.hid (kept_b (Kept.of_below (fun k => some m = some k) HB1.out.1) hb2')
  have d0 := hG2.cell (i := 0) rfl
  have HG2 := Lib.hid hG2
  clear hr hb2' hG2 q0 q1 q2 q3 HRI
  cases R
  case false =>
    go_wp2
    go_ret2
    have h := applyI_no (S := S) (b := basis) HRR.out.symm
    refine ⟨?_, ?_, HK2.out⟩
    · rw [HAR.out, h.1]; rfl
    · rw [HAB.out, h.2]; exact HI2.out
  case true =>
    obtain ⟨F, hF⟩ : ∃ F, F = (MB.toList == bm.toList) := ⟨_, rfl⟩
    have HF := Lib.hid hF
    have HM1 : Hid (Calls Try.prog 39 #[.pointer (some ⟨p, 0, none⟩), .string basis] w2.drew fun e w' => e = .returned (.string (mkI S basis)) ∧ BookI w' p m (addS S (bytesOf basis)) ∧ w2.drew.grownBy w' (some m)) := Lib.hid (mark_as (s := basis) (HI2.out.next (bl_drew (Below.refl _ w2))) (by unfold maxLen; omega) (by omega) _ _ rfl rfl)
    have HC1 : Hid (∀ w', w2.drew.grownBy w' (some m) → Blk w' pd [.string bm, .string mk, .int .i64 z, .slice ao n cap] 25) := Lib.hid (fun w' hg => (HG2.out.below (bl_drew (Below.refl _ w2)) HG2.out.lt).grown hg (by intro e; injection e with e; omega))
    rw [← HMB.out] at HM1
    have hneq : (MB.toList == bm.toList) = F := hF.symm
    clear hF
    go_upto_region 3 with fail
    go_region_held3 (fun w' => w'.cell? ⟨pd, 0, none⟩ = some (.string bm)) (first | exact HH | exact d0)
      (first | (go_at_call 39; refine HM1.out.mono ?_; rintro e w7 ⟨rfl, hK7, hG7⟩; have HH := (HC1.out w7 hG7).cell (i := 0) rfl))
    all_goals (
      have HE3 := Lib.hid (below_g (kept_b HK2.out (bl_drew (Below.refl _ w2))) hG7)
      have hG7b := HC1.out w7 hG7
      have x3 := hG7b.cell (i := 3) rfl
      have HRUN := Lib.hid (run_any w7 basis ao n cap l hb2 (HR.out w7 HE3.out) hn HOK.out)
      rw [← HT.out.1, ← HT.out.2] at HRUN
      have HI7 := Lib.hid hK7
      have HG7 := Lib.hid hG7b
      clear hG7b hG7 HH HM1 HC1 d0 hK7
      cases F
      case false =>
        go_wp2
        go_ret2
        have h := applyI_basis (S := S) (b := basis) HRR.out.symm (by rw [← HMB.out, HE.out.1]; exact HF.out.symm)
        refine ⟨?_, ?_, HE3.out⟩
        · rw [HAR.out, h.1]; rfl
        · rw [HAB.out, h.2]; exact HI7.out
      case true =>
        go_wp2_with fail
        refine HRUN.out.mono ?_
        rintro e w8 ⟨rfl, hb8⟩
        have hG8 := HG7.out.below hb8 HG7.out.lt
        have HI8 := Lib.hid (HI7.out.next hb8)
        have HB8 := Lib.hid (kept_b HE3.out hb8)
        have d1 := hG8.cell (i := 1) rfl
        have HG8 := Lib.hid hG8
        clear hb8 hG8 x3 HRUN
        by_cases hK0 : K = 0
        case neg =>
          have hk : (K != 0) = true := by simpa using hK0
          go_wp2
          go_ret2
          have h := applyI_run (S := S) (b := basis) HRR.out.symm (by rw [← HMB.out, HE.out.1]; exact HF.out.symm) (by rw [HE.out.2.2, ← HT.out.2]; exact hK0)
          refine ⟨?_, ?_, HB8.out⟩
          · rw [HAR.out, h.1, HE.out.2.2, ← HT.out.2]; rfl
          · rw [HAB.out, h.2]; exact HI8.out
        case pos =>
          subst hK0
          have hts : T.size ≤ 524288 := by
            rw [HT.out.1]
            exact runI_size basis l ByteArray.empty (by decide)
          obtain ⟨MT, hMT⟩ : ∃ M, M = mkI (addS S (bytesOf basis)) T := ⟨_, rfl⟩
          have HMT := Lib.hid hMT
          obtain ⟨G, hG⟩ : ∃ G, G = (MT.toList == mk.toList) := ⟨_, rfl⟩
          have HG := Lib.hid hG
          have hne2 : (MT.toList == mk.toList) = G := hG.symm
          have HM2 : Hid (Calls Try.prog 39 #[.pointer (some ⟨p, 0, none⟩), .string T] w8.drew fun e w' => e = .returned (.string (mkI (addS S (bytesOf basis)) T)) ∧ BookI w' p m (addS (addS S (bytesOf basis)) (bytesOf T)) ∧ w8.drew.grownBy w' (some m)) := Lib.hid (mark_as (s := T) (HI8.out.next (bl_drew (Below.refl _ w8))) (by unfold maxLen; omega) (by have := addS_len S (bytesOf basis); omega) _ _ rfl rfl)
          have HC2 : Hid (∀ w', w8.drew.grownBy w' (some m) → Blk w' pd [.string bm, .string mk, .int .i64 z, .slice ao n cap] 25) := Lib.hid (fun w' hg => (HG8.out.below (bl_drew (Below.refl _ w8)) HG8.out.lt).grown hg (by intro e; injection e with e; omega))
          rw [← HMT.out] at HM2
          clear hMT hG
          go_upto_region 8 with fail
          go_region_held3 (fun w' => w'.cell? ⟨pd, 1, none⟩ = some (.string mk)) (first | exact HH | exact d1)
            (first | (go_at_call 39; refine HM2.out.mono ?_; rintro e w9 ⟨rfl, hK9, hG9⟩; have HH := (HC2.out w9 hG9).cell (i := 1) rfl))
          all_goals (
            have HE9 := Lib.hid (below_g (kept_b HB8.out (bl_drew (Below.refl _ w8))) hG9)
            have HI9 := Lib.hid hK9
            clear HH HM2 HC2 d1 hG9 hK9
            cases G
            case false =>
              go_wp2
              go_ret2
              have h := applyI_sum (S := S) (b := basis) HRR.out.symm (by rw [← HMB.out, HE.out.1]; exact HF.out.symm) (by rw [HE.out.2.2]; exact HT.out.2.symm) (by rw [HE.out.2.2, ← HT.out.1, ← HMT.out, HE.out.2.1]; exact HG.out.symm)
              refine ⟨?_, ?_, HE9.out⟩
              · rw [HAR.out, h.1]; rfl
              · rw [HAB.out, h.2, HE.out.2.2, ← HT.out.1]; exact HI9.out
            case true =>
              go_wp2
              go_ret2
              have h := applyI_ok (S := S) (b := basis) HRR.out.symm (by rw [← HMB.out, HE.out.1]; exact HF.out.symm) (by rw [HE.out.2.2]; exact HT.out.2.symm) (by rw [HE.out.2.2, ← HT.out.1, ← HMT.out, HE.out.2.1]; exact HG.out.symm)
              refine ⟨?_, ?_, HE9.out⟩
              · rw [HAR.out, h.1, HE.out.2.2, ← HT.out.1]; rfl
              · rw [HAB.out, h.2, HE.out.2.2, ← HT.out.1]; exact HI9.out))
end Go.Proofs.Ytabdmcgfiabaoaa
