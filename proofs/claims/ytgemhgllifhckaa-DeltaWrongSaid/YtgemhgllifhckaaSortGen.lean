/- slices.symMergeCmpFunc at []int, the step with two merges. Conditions: as named in each theorem. -/
import Derived.Test.YtgemhgllifhckaaSortLast
import Derived.Deep.Cut
namespace Go.Proofs.Ytgemhgllifhckaa
open Go.RowKit
set_option linter.unusedVariables false

theorem merge_fin {wt : Int → Int} {f f1 f2 f3 : Nat → Int} {a mid b : Nat} (hS1 : SameOn f f1 a b) (hS2 : SameOn f1 f2 a mid) (hS3 : SameOn f2 f3 mid b) (t2 : Srt wt f2 a mid) (t3 : Srt wt f3 mid b) (cross : ∀ i j, a ≤ i → i < mid → mid ≤ j → j < b → Ltw wt (f1 i) (f1 j)) (ha : a ≤ mid) (hb : mid ≤ b) : SameOn f f3 a b ∧ Srt wt f3 a b := by
  refine ⟨(hS1.trans (hS2.wide (Nat.le_refl _) hb)).trans (hS3.wide ha (Nat.le_refl _)), Srt.join (t2.out hS3 (.inl (Nat.le_refl _))) t3 fun i j i1 i2 j1 j2 => ?_⟩
  obtain ⟨i', q1, q2, e1⟩ := hS2.to i i1 i2
  obtain ⟨j', q3, q4, e2⟩ := hS3.to j j1 j2
  rw [hS3.out i (by omega), e1, e2, hS2.out j' (by omega)]
  exact cross i' j' q1 q2 q3 q4
/-- the contract of the merge for shorter runs -/
def MergeIH (R : List Value) (pb g n cap N : Nat) (wt : Int → Int) (d : Nat) : Prop :=
  ∀ (w : World) (f : Nat → Int) (a m b : Nat), b - a < d → Rw R w g n f → Cp pb g N wt w → Pl n N f → a < m → m < b → b ≤ n → Srt wt f a m → Srt wt f m b → (∀ i j, a ≤ i → i < m → m ≤ j → j < b → f i < f j) →
    Calls Try.prog 125 #[.slice (some ⟨g, 0, none⟩) n cap, .int .i64 a, .int .i64 m, .int .i64 b, .func (.func 96) #[] #[.pointer (some ⟨pb, 0, none⟩)]] w (MergeR R w g n f wt a b)
theorem rot_lo {f : Nat → Int} {a s m e b mid : Nat} (hL : ∀ i j, a ≤ i → i < m → m ≤ j → j < b → f i < f j) (h1 : a ≤ s) (h2 : s ≤ m) (h3 : m ≤ e) (h4 : e ≤ b) (hmid : s + (e - m) = mid) :
    (∀ i j, a ≤ i → i < s → s ≤ j → j < mid → rot f s m e i < rot f s m e j) ∧ (∀ i j, mid ≤ i → i < e → e ≤ j → j < b → rot f s m e i < rot f s m e j) := by
  have r1 : ∀ t, t < s → rot f s m e t = f t := fun t ht => by unfold rot; rw [if_neg (by omega), if_neg (by omega)]
  have r2 : ∀ t, s ≤ t → t < mid → rot f s m e t = f (t + (m - s)) := fun t t1 t2 => by unfold rot; rw [if_pos (by omega)]
  have r3 : ∀ t, mid ≤ t → t < e → rot f s m e t = f (t - (e - m)) := fun t t1 t2 => by unfold rot; rw [if_neg (by omega), if_pos (by omega)]
  have r4 : ∀ t, e ≤ t → rot f s m e t = f t := fun t ht => by unfold rot; rw [if_neg (by omega), if_neg (by omega)]
  refine ⟨fun i j i1 i2 j1 j2 => ?_, fun i j i1 i2 j1 j2 => ?_⟩
  · rw [r1 i i2, r2 j j1 j2]; exact hL _ _ i1 (by omega) (by omega) (by omega)
  · rw [r3 i i1 i2, r4 j j1]; exact hL _ _ (by omega) (by omega) (by omega) j2
theorem srt_half {wt : Int → Int} {f : Nat → Int} {a s mid : Nat} (h1 : Srt wt f a s) (h2 : Srt wt f s mid) (ha : a ≤ s) (hs : s ≤ mid) (hn : ¬ (a < s ∧ s < mid)) : Srt wt f a mid := by
  by_cases e : a = s
  · rw [e]; exact h2
  · have e2 : s = mid := by omega
    rw [← e2]; exact h1

set_option maxRecDepth 100000 in
set_option maxHeartbeats 20000000 in
theorem symMerge_gen {R : List Value} (w : World) (pb g n cap N : Nat) (f : Nat → Int) (wt : Int → Int) (a m b : Nat) (IH : MergeIH R pb g n cap N wt (b - a)) (hR : Rw R w g n f) (hC : Cp pb g N wt w) (hP : Pl n N f) (hn : n ≤ 1000000000) (ham : a + 1 < m) (hmb : m + 1 < b) (hb : b ≤ n)
    (hSA : Srt wt f a m) (hSB : Srt wt f m b) (hlo : ∀ i j, a ≤ i → i < m → m ≤ j → j < b → f i < f j) :
    Calls Try.prog 125 #[.slice (some ⟨g, 0, none⟩) n cap, .int .i64 a, .int .i64 m, .int .i64 b, .func (.func 96) #[] #[.pointer (some ⟨pb, 0, none⟩)]] w (MergeR R w g n f wt a b) := by
  obtain ⟨x0, hx0⟩ : ∃ x0 : Nat, (m : Int) - a = x0 := ⟨m - a, by omega⟩
  have hx1 : ((x0 : Int) == 1) = false := by simp; omega
  obtain ⟨y0, hy0⟩ : ∃ y0 : Nat, (b : Int) - m = y0 := ⟨b - m, by omega⟩
  have hy1 : ((y0 : Int) == 1) = false := by simp; omega
  obtain ⟨sab, hsab⟩ : ∃ s : Nat, (a : Int) + b = s := ⟨a + b, by omega⟩
  obtain ⟨mid, hmid⟩ : ∃ t : Nat, (sab : Int) / 2 = t := ⟨sab / 2, by omega⟩
  obtain ⟨s2, hs2⟩ : ∃ s : Nat, (mid : Int) + m = s := ⟨mid + m, by omega⟩
  obtain ⟨p, hp⟩ : ∃ s : Nat, (s2 : Int) - 1 = s := ⟨s2 - 1, by omega⟩
  have hma : a < mid := by omega
  have hmb2 : mid < b := by omega
  have HIH := Lib.hid IH
  have HC := Lib.hid hC
  have HP := Lib.hid hP
  have HSA := Lib.hid hSA
  have HSB := Lib.hid hSB
  have HL := Lib.hid hlo
  clear IH hC hP hSA hSB hlo
  go_enter Try.func125, Try.ntmps125
  by_cases hmm : (mid : Int) < (m : Int)
  · obtain ⟨st0, hst0⟩ : ∃ s : Nat, (s2 : Int) - b = s := ⟨s2 - b, by omega⟩
    go_wp2_with fail
    go_loopw [20, 21, 23] (fun x y z wr => ∃ (s r : Nat), st0 ≤ s ∧ s ≤ r ∧ r ≤ mid ∧ x = .int .i64 s ∧ y = .int .i64 r ∧ Rw R wr g n f ∧ (∀ k e, s = k + 1 → s + e = s2 → st0 < s → Ltw wt (f k) (f e)) ∧ (∀ e, r + e + 1 = s2 → r < mid → Ltw wt (f e) (f r)) ∧ w.grownBy wr (some g)) (fun x y _ _ => (intOf y).toNat - (intOf x).toNat)
    case atStart => exact ⟨st0, mid, by omega, by omega, by omega, rfl, rfl, hR, fun k e _ _ h => by omega, fun e _ h => by omega, grown_refl _ _⟩
    case round =>
      clear hR
      obtain ⟨s, r, hs, hsr, hr, rfl, rfl, hR, hD, hU, hG⟩ := hrel
      have HD := Lib.hid hD
      have HU := Lib.hid hU
      clear hD hU
      by_cases hlt : (s : Int) < (r : Int)
      · obtain ⟨sr, hsr2⟩ : ∃ x : Nat, (s : Int) + r = x := ⟨s + r, by omega⟩
        obtain ⟨c, hc⟩ : ∃ t : Nat, (sr : Int) / 2 = t := ⟨sr / 2, by omega⟩
        obtain ⟨pc, hpc⟩ : ∃ t : Nat, (p : Int) - c = t := ⟨p - c, by omega⟩
        obtain ⟨c1, hc1⟩ : ∃ t : Nat, (c : Int) + 1 = t := ⟨c + 1, by omega⟩
        have hwp : IntKind.i64.wrap ((p : Int) - (c : Int)) = (pc : Int) := by rw [hpc]; exact IntWalk.i64_in _ (by omega)
        have t1 : s ≤ c := by omega
        have t2 : c < r := by omega
        have t3 : m ≤ pc := by omega
        have t4 : pc < b := by omega
        have t5 : c < m := by omega
        have t6 : a ≤ c := by omega
        have ct := hR.cell (i := c) (by omega)
        have ca := hR.cell (i := pc) (by omega)
        have i1 : (c : Int) < (n : Int) := by omega
        have i2 : (pc : Int) < (n : Int) := by omega
        have hlo := HL.out c pc t6 t5 t3 t4
        have HLO := Lib.hid hlo
        clear hlo
        obtain ⟨D, hDD⟩ : ∃ D, wt (f pc) - wt (f c) = D := ⟨_, rfl⟩
        have HDD := Lib.hid hDD
        clear hDD
        have hK : ∀ q, Calls Try.prog 96 #[.int .i64 (f pc), .int .i64 (f c), .pointer (some ⟨pb, 0, none⟩)] (wr.drewN q) fun e w'' => e = .returned (.int .i64 D) ∧ ∃ d, w'' = (wr.drewN q).drewN d := fun q =>
          HC.out _ (grown_drewN hG q) _ _ D (HP.out pc (by omega)).1 (HP.out pc (by omega)).2 (HP.out c (by omega)).1 (HP.out c (by omega)).2 HDD.out
        have HK := Lib.hid hK
        clear hK
        by_cases hd : D < 0
        · have g2 : decide (D < 0) = true := by simp; omega
          go_wp2_with fail
          go_quiet ((go_at_call 96; exact quiet_dr (HK.out _)))
          go_wp2
          go_roundw
          case rel =>
            have hx : Ltw wt (f pc) (f c) := (ltw_lo HLO.out).1 (by have := HDD.out; omega)
            refine ⟨s, c, hs, t1, by omega, rfl, rfl, hR.drewN _, HD.out, fun e he _ => ?_, grown_drewN hG _⟩
            have e1 : e = pc := by omega
            rw [e1]; exact hx
          case measure => simp [intOf]; omega
        · have g2 : decide (D < 0) = false := by simp; omega
          go_wp2_with fail
          go_quiet ((go_at_call 96; exact quiet_dr (HK.out _)))
          go_wp2
          go_roundw
          case rel =>
            have hx : Ltw wt (f c) (f pc) := Ltw.total (fun hx => by have h1 := (ltw_lo HLO.out).2 hx; have h2 := HDD.out; omega) (by have := HLO.out; omega)
            refine ⟨c1, r, by omega, by omega, hr, rfl, rfl, hR.drewN _, fun k e hk he _ => ?_, HU.out, grown_drewN hG _⟩
            have e1 : e = pc := by omega
            have e2 : k = c := by omega
            rw [e1, e2]; exact hx
          case measure => simp [intOf]; omega
      · have hsr2 : s = r := by omega
        subst hsr2
        obtain ⟨e, he⟩ : ∃ e : Nat, (s2 : Int) - s = e := ⟨s2 - s, by omega⟩
        have q1 : a ≤ s := by omega
        have q2 : s ≤ m := by omega
        have q3 : m ≤ e := by omega
        have q4 : e ≤ b := by omega
        have q5 : s + (e - m) = mid := by omega
        have q6 : s ≤ mid := by omega
        have q7 : mid ≤ e := by omega
        have hM := merge_srt HSA.out HSB.out q1 q2 q3 q4 q5 (fun h1 h2 => HD.out (s - 1) e (by omega) (by omega) (by omega)) (fun h1 h2 => HU.out (e - 1) (by omega) (by omega))
        have hQ := rot_lo HL.out q1 q2 q3 q4 q5
        have hF : SameOn f (rot f s m e) a b := (rot_same f q2 q3).wide q1 q4
        have hZ : ¬ (s < m ∧ m < e) → rot f s m e = f := fun h => rot_none f (by omega) q2 q3
        have HZ := Lib.hid hZ
        have HM := Lib.hid hM
        have HQ := Lib.hid hQ
        have HF := Lib.hid hF
        have HW : Hid (∀ V, Rw R V g n f → w.grownBy V (some g) → s < m → m < e → Calls Try.prog 129 #[.slice (some ⟨g, 0, none⟩) n cap, .int .i64 s, .int .i64 m, .int .i64 e, .func (.func 96) #[] #[.pointer (some ⟨pb, 0, none⟩)]] V fun e' w' => (∃ r, e' = .returned r) ∧ Rw R w' g n (rot f s m e) ∧ w.grownBy w' (some g)) := Lib.hid (fun V hV hGV k1 k2 => (rotate_any V g n cap f s m e _ hV hn k1 k2 (by omega)).mono fun _ _ ⟨h1, h2, h3⟩ => ⟨h1, h2, grown_trans hGV h3⟩)
        clear hZ hM hQ hF HD HU
        obtain ⟨f1, hf1⟩ : ∃ f1, rot f s m e = f1 := ⟨_, rfl⟩
        rw [hf1] at HZ HM HQ HF HW
        have hP1 : Pl n N f1 := HP.out.same HF.out hb
        have HP1 := Lib.hid hP1
        have HF1 := Lib.hid hf1
        clear hP1 hf1
        by_cases z1 : (s : Int) < (m : Int) ∧ (m : Int) < (e : Int)
        · obtain ⟨z1, z2⟩ := z1
          go_upto_region 41 with (first | (go_at_call 129; refine (HW.out wr hR hG (by omega) (by omega)).mono ?_; rintro e' W1 ⟨⟨v1, rfl⟩, hR1, hG1⟩))
          clear hR hG
          by_cases y1 : (a : Int) < (s : Int)
          · skip
            by_cases y2 : (s : Int) < (mid : Int)
            · skip
              go_upto_region 43 with (first | (go_at_call 125; refine (HIH.out W1 f1 a s mid (by omega) hR1 (HC.out.grown hG1) HP1.out (by omega) (by omega) (by omega) HM.out.1 HM.out.2.1 HQ.out.1).mono ?_; rintro e' W2 ⟨⟨v2, rfl⟩, f2, hR2, hS2, hT2, hG2⟩))
              have hG3 := grown_trans hG1 hG2
              have HS2 := Lib.hid hS2
              have HT2 := Lib.hid hT2
              clear hR1 hG1 hG2 hS2 hT2
              by_cases x1 : (mid : Int) < (e : Int)
              · skip
                by_cases x2 : (e : Int) < (b : Int)
                · skip
                  go_wp2_with (first | (go_at_call 125; refine (HIH.out W2 f2 mid e b (by omega) hR2 (HC.out.grown hG3) (HP1.out.same HS2.out (by omega)) (by omega) (by omega) hb (HM.out.2.2.1.out HS2.out (.inr (Nat.le_refl _))) (HM.out.2.2.2.1.out HS2.out (.inr q7)) (fun i j i1 i2 j1 j2 => by rw [HS2.out.out i (by omega), HS2.out.out j (by omega)]; exact HQ.out.2 i j i1 i2 j1 j2)).mono ?_; rintro e' W3 ⟨⟨v3, rfl⟩, f3, hR3, hS3, hT3, hG4⟩))
                  go_end0
                  have hFin := merge_fin HF.out HS2.out hS3 HT2.out hT3 HM.out.2.2.2.2 (by omega) (by omega)
                  exact ⟨⟨_, rfl⟩, f3, hR3, hFin.1, hFin.2, grown_trans hG3 hG4⟩
                · skip
                  go_wp2
                  go_end0
                  have hT3 : Srt wt f2 mid b := srt_half (HM.out.2.2.1.out HS2.out (.inr (Nat.le_refl _))) (HM.out.2.2.2.1.out HS2.out (.inr q7)) q7 q4 (by omega)
                  have hFin := merge_fin HF.out HS2.out (SameOn.refl f2 mid b) HT2.out hT3 HM.out.2.2.2.2 (by omega) (by omega)
                  exact ⟨⟨_, rfl⟩, f2, hR2, hFin.1, hFin.2, hG3⟩
              · skip
                go_wp2
                go_end0
                have hT3 : Srt wt f2 mid b := srt_half (HM.out.2.2.1.out HS2.out (.inr (Nat.le_refl _))) (HM.out.2.2.2.1.out HS2.out (.inr q7)) q7 q4 (by omega)
                have hFin := merge_fin HF.out HS2.out (SameOn.refl f2 mid b) HT2.out hT3 HM.out.2.2.2.2 (by omega) (by omega)
                exact ⟨⟨_, rfl⟩, f2, hR2, hFin.1, hFin.2, hG3⟩
            · skip
              go_upto_region 43 with fail
              have HS2 : Hid (SameOn f1 f1 a mid) := Lib.hid (SameOn.refl _ _ _)
              have HT2 : Hid (Srt wt f1 a mid) := Lib.hid (srt_half HM.out.1 HM.out.2.1 q1 q6 (by omega))
              have hR2 := hR1
              have hG3 := hG1
              clear hR1 hG1
              by_cases x1 : (mid : Int) < (e : Int)
              · skip
                by_cases x2 : (e : Int) < (b : Int)
                · skip
                  go_wp2_with (first | (go_at_call 125; refine (HIH.out W1 f1 mid e b (by omega) hR2 (HC.out.grown hG3) (HP1.out.same HS2.out (by omega)) (by omega) (by omega) hb (HM.out.2.2.1.out HS2.out (.inr (Nat.le_refl _))) (HM.out.2.2.2.1.out HS2.out (.inr q7)) (fun i j i1 i2 j1 j2 => by rw [HS2.out.out i (by omega), HS2.out.out j (by omega)]; exact HQ.out.2 i j i1 i2 j1 j2)).mono ?_; rintro e' W3 ⟨⟨v3, rfl⟩, f3, hR3, hS3, hT3, hG4⟩))
                  go_end0
                  have hFin := merge_fin HF.out HS2.out hS3 HT2.out hT3 HM.out.2.2.2.2 (by omega) (by omega)
                  exact ⟨⟨_, rfl⟩, f3, hR3, hFin.1, hFin.2, grown_trans hG3 hG4⟩
                · skip
                  go_wp2
                  go_end0
                  have hT3 : Srt wt f1 mid b := srt_half (HM.out.2.2.1.out HS2.out (.inr (Nat.le_refl _))) (HM.out.2.2.2.1.out HS2.out (.inr q7)) q7 q4 (by omega)
                  have hFin := merge_fin HF.out HS2.out (SameOn.refl f1 mid b) HT2.out hT3 HM.out.2.2.2.2 (by omega) (by omega)
                  exact ⟨⟨_, rfl⟩, f1, hR2, hFin.1, hFin.2, hG3⟩
              · skip
                go_wp2
                go_end0
                have hT3 : Srt wt f1 mid b := srt_half (HM.out.2.2.1.out HS2.out (.inr (Nat.le_refl _))) (HM.out.2.2.2.1.out HS2.out (.inr q7)) q7 q4 (by omega)
                have hFin := merge_fin HF.out HS2.out (SameOn.refl f1 mid b) HT2.out hT3 HM.out.2.2.2.2 (by omega) (by omega)
                exact ⟨⟨_, rfl⟩, f1, hR2, hFin.1, hFin.2, hG3⟩
          · skip
            go_upto_region 43 with fail
            have HS2 : Hid (SameOn f1 f1 a mid) := Lib.hid (SameOn.refl _ _ _)
            have HT2 : Hid (Srt wt f1 a mid) := Lib.hid (srt_half HM.out.1 HM.out.2.1 q1 q6 (by omega))
            have hR2 := hR1
            have hG3 := hG1
            clear hR1 hG1
            by_cases x1 : (mid : Int) < (e : Int)
            · skip
              by_cases x2 : (e : Int) < (b : Int)
              · skip
                go_wp2_with (first | (go_at_call 125; refine (HIH.out W1 f1 mid e b (by omega) hR2 (HC.out.grown hG3) (HP1.out.same HS2.out (by omega)) (by omega) (by omega) hb (HM.out.2.2.1.out HS2.out (.inr (Nat.le_refl _))) (HM.out.2.2.2.1.out HS2.out (.inr q7)) (fun i j i1 i2 j1 j2 => by rw [HS2.out.out i (by omega), HS2.out.out j (by omega)]; exact HQ.out.2 i j i1 i2 j1 j2)).mono ?_; rintro e' W3 ⟨⟨v3, rfl⟩, f3, hR3, hS3, hT3, hG4⟩))
                go_end0
                have hFin := merge_fin HF.out HS2.out hS3 HT2.out hT3 HM.out.2.2.2.2 (by omega) (by omega)
                exact ⟨⟨_, rfl⟩, f3, hR3, hFin.1, hFin.2, grown_trans hG3 hG4⟩
              · skip
                go_wp2
                go_end0
                have hT3 : Srt wt f1 mid b := srt_half (HM.out.2.2.1.out HS2.out (.inr (Nat.le_refl _))) (HM.out.2.2.2.1.out HS2.out (.inr q7)) q7 q4 (by omega)
                have hFin := merge_fin HF.out HS2.out (SameOn.refl f1 mid b) HT2.out hT3 HM.out.2.2.2.2 (by omega) (by omega)
                exact ⟨⟨_, rfl⟩, f1, hR2, hFin.1, hFin.2, hG3⟩
            · skip
              go_wp2
              go_end0
              have hT3 : Srt wt f1 mid b := srt_half (HM.out.2.2.1.out HS2.out (.inr (Nat.le_refl _))) (HM.out.2.2.2.1.out HS2.out (.inr q7)) q7 q4 (by omega)
              have hFin := merge_fin HF.out HS2.out (SameOn.refl f1 mid b) HT2.out hT3 HM.out.2.2.2.2 (by omega) (by omega)
              exact ⟨⟨_, rfl⟩, f1, hR2, hFin.1, hFin.2, hG3⟩
        · have hz := HZ.out (by omega)
          have hR1 : Rw R wr g n f1 := by rw [hz]; exact hR
          have hG1 := hG
          clear hR hG hz
          have g7 : (s : Int) < (m : Int) → decide ((m : Int) < (e : Int)) = false := fun h => by simp; omega
          by_cases z1 : (s : Int) < (m : Int)
          · have z2 : ¬ ((m : Int) < (e : Int)) := by omega
            clear g7
            go_upto_region 41 with fail
            by_cases y1 : (a : Int) < (s : Int)
            · skip
              by_cases y2 : (s : Int) < (mid : Int)
              · skip
                go_upto_region 43 with (first | (go_at_call 125; refine (HIH.out wr f1 a s mid (by omega) hR1 (HC.out.grown hG1) HP1.out (by omega) (by omega) (by omega) HM.out.1 HM.out.2.1 HQ.out.1).mono ?_; rintro e' W2 ⟨⟨v2, rfl⟩, f2, hR2, hS2, hT2, hG2⟩))
                have hG3 := grown_trans hG1 hG2
                have HS2 := Lib.hid hS2
                have HT2 := Lib.hid hT2
                clear hR1 hG1 hG2 hS2 hT2
                by_cases x1 : (mid : Int) < (e : Int)
                · skip
                  by_cases x2 : (e : Int) < (b : Int)
                  · skip
                    go_wp2_with (first | (go_at_call 125; refine (HIH.out W2 f2 mid e b (by omega) hR2 (HC.out.grown hG3) (HP1.out.same HS2.out (by omega)) (by omega) (by omega) hb (HM.out.2.2.1.out HS2.out (.inr (Nat.le_refl _))) (HM.out.2.2.2.1.out HS2.out (.inr q7)) (fun i j i1 i2 j1 j2 => by rw [HS2.out.out i (by omega), HS2.out.out j (by omega)]; exact HQ.out.2 i j i1 i2 j1 j2)).mono ?_; rintro e' W3 ⟨⟨v3, rfl⟩, f3, hR3, hS3, hT3, hG4⟩))
                    go_end0
                    have hFin := merge_fin HF.out HS2.out hS3 HT2.out hT3 HM.out.2.2.2.2 (by omega) (by omega)
                    exact ⟨⟨_, rfl⟩, f3, hR3, hFin.1, hFin.2, grown_trans hG3 hG4⟩
                  · skip
                    go_wp2
                    go_end0
                    have hT3 : Srt wt f2 mid b := srt_half (HM.out.2.2.1.out HS2.out (.inr (Nat.le_refl _))) (HM.out.2.2.2.1.out HS2.out (.inr q7)) q7 q4 (by omega)
                    have hFin := merge_fin HF.out HS2.out (SameOn.refl f2 mid b) HT2.out hT3 HM.out.2.2.2.2 (by omega) (by omega)
                    exact ⟨⟨_, rfl⟩, f2, hR2, hFin.1, hFin.2, hG3⟩
                · skip
                  go_wp2
                  go_end0
                  have hT3 : Srt wt f2 mid b := srt_half (HM.out.2.2.1.out HS2.out (.inr (Nat.le_refl _))) (HM.out.2.2.2.1.out HS2.out (.inr q7)) q7 q4 (by omega)
                  have hFin := merge_fin HF.out HS2.out (SameOn.refl f2 mid b) HT2.out hT3 HM.out.2.2.2.2 (by omega) (by omega)
                  exact ⟨⟨_, rfl⟩, f2, hR2, hFin.1, hFin.2, hG3⟩
              · skip
                go_upto_region 43 with fail
                have HS2 : Hid (SameOn f1 f1 a mid) := Lib.hid (SameOn.refl _ _ _)
                have HT2 : Hid (Srt wt f1 a mid) := Lib.hid (srt_half HM.out.1 HM.out.2.1 q1 q6 (by omega))
                have hR2 := hR1
                have hG3 := hG1
                clear hR1 hG1
                by_cases x1 : (mid : Int) < (e : Int)
                · skip
                  by_cases x2 : (e : Int) < (b : Int)
                  · skip
                    go_wp2_with (first | (go_at_call 125; refine (HIH.out wr f1 mid e b (by omega) hR2 (HC.out.grown hG3) (HP1.out.same HS2.out (by omega)) (by omega) (by omega) hb (HM.out.2.2.1.out HS2.out (.inr (Nat.le_refl _))) (HM.out.2.2.2.1.out HS2.out (.inr q7)) (fun i j i1 i2 j1 j2 => by rw [HS2.out.out i (by omega), HS2.out.out j (by omega)]; exact HQ.out.2 i j i1 i2 j1 j2)).mono ?_; rintro e' W3 ⟨⟨v3, rfl⟩, f3, hR3, hS3, hT3, hG4⟩))
                    go_end0
                    have hFin := merge_fin HF.out HS2.out hS3 HT2.out hT3 HM.out.2.2.2.2 (by omega) (by omega)
                    exact ⟨⟨_, rfl⟩, f3, hR3, hFin.1, hFin.2, grown_trans hG3 hG4⟩
                  · skip
                    go_wp2
                    go_end0
                    have hT3 : Srt wt f1 mid b := srt_half (HM.out.2.2.1.out HS2.out (.inr (Nat.le_refl _))) (HM.out.2.2.2.1.out HS2.out (.inr q7)) q7 q4 (by omega)
                    have hFin := merge_fin HF.out HS2.out (SameOn.refl f1 mid b) HT2.out hT3 HM.out.2.2.2.2 (by omega) (by omega)
                    exact ⟨⟨_, rfl⟩, f1, hR2, hFin.1, hFin.2, hG3⟩
                · skip
                  go_wp2
                  go_end0
                  have hT3 : Srt wt f1 mid b := srt_half (HM.out.2.2.1.out HS2.out (.inr (Nat.le_refl _))) (HM.out.2.2.2.1.out HS2.out (.inr q7)) q7 q4 (by omega)
                  have hFin := merge_fin HF.out HS2.out (SameOn.refl f1 mid b) HT2.out hT3 HM.out.2.2.2.2 (by omega) (by omega)
                  exact ⟨⟨_, rfl⟩, f1, hR2, hFin.1, hFin.2, hG3⟩
            · skip
              go_upto_region 43 with fail
              have HS2 : Hid (SameOn f1 f1 a mid) := Lib.hid (SameOn.refl _ _ _)
              have HT2 : Hid (Srt wt f1 a mid) := Lib.hid (srt_half HM.out.1 HM.out.2.1 q1 q6 (by omega))
              have hR2 := hR1
              have hG3 := hG1
              clear hR1 hG1
              by_cases x1 : (mid : Int) < (e : Int)
              · skip
                by_cases x2 : (e : Int) < (b : Int)
                · skip
                  go_wp2_with (first | (go_at_call 125; refine (HIH.out wr f1 mid e b (by omega) hR2 (HC.out.grown hG3) (HP1.out.same HS2.out (by omega)) (by omega) (by omega) hb (HM.out.2.2.1.out HS2.out (.inr (Nat.le_refl _))) (HM.out.2.2.2.1.out HS2.out (.inr q7)) (fun i j i1 i2 j1 j2 => by rw [HS2.out.out i (by omega), HS2.out.out j (by omega)]; exact HQ.out.2 i j i1 i2 j1 j2)).mono ?_; rintro e' W3 ⟨⟨v3, rfl⟩, f3, hR3, hS3, hT3, hG4⟩))
                  go_end0
                  have hFin := merge_fin HF.out HS2.out hS3 HT2.out hT3 HM.out.2.2.2.2 (by omega) (by omega)
                  exact ⟨⟨_, rfl⟩, f3, hR3, hFin.1, hFin.2, grown_trans hG3 hG4⟩
                · skip
                  go_wp2
                  go_end0
                  have hT3 : Srt wt f1 mid b := srt_half (HM.out.2.2.1.out HS2.out (.inr (Nat.le_refl _))) (HM.out.2.2.2.1.out HS2.out (.inr q7)) q7 q4 (by omega)
                  have hFin := merge_fin HF.out HS2.out (SameOn.refl f1 mid b) HT2.out hT3 HM.out.2.2.2.2 (by omega) (by omega)
                  exact ⟨⟨_, rfl⟩, f1, hR2, hFin.1, hFin.2, hG3⟩
              · skip
                go_wp2
                go_end0
                have hT3 : Srt wt f1 mid b := srt_half (HM.out.2.2.1.out HS2.out (.inr (Nat.le_refl _))) (HM.out.2.2.2.1.out HS2.out (.inr q7)) q7 q4 (by omega)
                have hFin := merge_fin HF.out HS2.out (SameOn.refl f1 mid b) HT2.out hT3 HM.out.2.2.2.2 (by omega) (by omega)
                exact ⟨⟨_, rfl⟩, f1, hR2, hFin.1, hFin.2, hG3⟩
          · skip
            clear g7
            go_upto_region 41 with fail
            by_cases y1 : (a : Int) < (s : Int)
            · skip
              by_cases y2 : (s : Int) < (mid : Int)
              · skip
                go_upto_region 43 with (first | (go_at_call 125; refine (HIH.out wr f1 a s mid (by omega) hR1 (HC.out.grown hG1) HP1.out (by omega) (by omega) (by omega) HM.out.1 HM.out.2.1 HQ.out.1).mono ?_; rintro e' W2 ⟨⟨v2, rfl⟩, f2, hR2, hS2, hT2, hG2⟩))
                have hG3 := grown_trans hG1 hG2
                have HS2 := Lib.hid hS2
                have HT2 := Lib.hid hT2
                clear hR1 hG1 hG2 hS2 hT2
                by_cases x1 : (mid : Int) < (e : Int)
                · skip
                  by_cases x2 : (e : Int) < (b : Int)
                  · skip
                    go_wp2_with (first | (go_at_call 125; refine (HIH.out W2 f2 mid e b (by omega) hR2 (HC.out.grown hG3) (HP1.out.same HS2.out (by omega)) (by omega) (by omega) hb (HM.out.2.2.1.out HS2.out (.inr (Nat.le_refl _))) (HM.out.2.2.2.1.out HS2.out (.inr q7)) (fun i j i1 i2 j1 j2 => by rw [HS2.out.out i (by omega), HS2.out.out j (by omega)]; exact HQ.out.2 i j i1 i2 j1 j2)).mono ?_; rintro e' W3 ⟨⟨v3, rfl⟩, f3, hR3, hS3, hT3, hG4⟩))
                    go_end0
                    have hFin := merge_fin HF.out HS2.out hS3 HT2.out hT3 HM.out.2.2.2.2 (by omega) (by omega)
                    exact ⟨⟨_, rfl⟩, f3, hR3, hFin.1, hFin.2, grown_trans hG3 hG4⟩
                  · skip
                    go_wp2
                    go_end0
                    have hT3 : Srt wt f2 mid b := srt_half (HM.out.2.2.1.out HS2.out (.inr (Nat.le_refl _))) (HM.out.2.2.2.1.out HS2.out (.inr q7)) q7 q4 (by omega)
                    have hFin := merge_fin HF.out HS2.out (SameOn.refl f2 mid b) HT2.out hT3 HM.out.2.2.2.2 (by omega) (by omega)
                    exact ⟨⟨_, rfl⟩, f2, hR2, hFin.1, hFin.2, hG3⟩
                · skip
                  go_wp2
                  go_end0
                  have hT3 : Srt wt f2 mid b := srt_half (HM.out.2.2.1.out HS2.out (.inr (Nat.le_refl _))) (HM.out.2.2.2.1.out HS2.out (.inr q7)) q7 q4 (by omega)
                  have hFin := merge_fin HF.out HS2.out (SameOn.refl f2 mid b) HT2.out hT3 HM.out.2.2.2.2 (by omega) (by omega)
                  exact ⟨⟨_, rfl⟩, f2, hR2, hFin.1, hFin.2, hG3⟩
              · skip
                go_upto_region 43 with fail
                have HS2 : Hid (SameOn f1 f1 a mid) := Lib.hid (SameOn.refl _ _ _)
                have HT2 : Hid (Srt wt f1 a mid) := Lib.hid (srt_half HM.out.1 HM.out.2.1 q1 q6 (by omega))
                have hR2 := hR1
                have hG3 := hG1
                clear hR1 hG1
                by_cases x1 : (mid : Int) < (e : Int)
                · skip
                  by_cases x2 : (e : Int) < (b : Int)
                  · skip
                    go_wp2_with (first | (go_at_call 125; refine (HIH.out wr f1 mid e b (by omega) hR2 (HC.out.grown hG3) (HP1.out.same HS2.out (by omega)) (by omega) (by omega) hb (HM.out.2.2.1.out HS2.out (.inr (Nat.le_refl _))) (HM.out.2.2.2.1.out HS2.out (.inr q7)) (fun i j i1 i2 j1 j2 => by rw [HS2.out.out i (by omega), HS2.out.out j (by omega)]; exact HQ.out.2 i j i1 i2 j1 j2)).mono ?_; rintro e' W3 ⟨⟨v3, rfl⟩, f3, hR3, hS3, hT3, hG4⟩))
                    go_end0
                    have hFin := merge_fin HF.out HS2.out hS3 HT2.out hT3 HM.out.2.2.2.2 (by omega) (by omega)
                    exact ⟨⟨_, rfl⟩, f3, hR3, hFin.1, hFin.2, grown_trans hG3 hG4⟩
                  · skip
                    go_wp2
                    go_end0
                    have hT3 : Srt wt f1 mid b := srt_half (HM.out.2.2.1.out HS2.out (.inr (Nat.le_refl _))) (HM.out.2.2.2.1.out HS2.out (.inr q7)) q7 q4 (by omega)
                    have hFin := merge_fin HF.out HS2.out (SameOn.refl f1 mid b) HT2.out hT3 HM.out.2.2.2.2 (by omega) (by omega)
                    exact ⟨⟨_, rfl⟩, f1, hR2, hFin.1, hFin.2, hG3⟩
                · skip
                  go_wp2
                  go_end0
                  have hT3 : Srt wt f1 mid b := srt_half (HM.out.2.2.1.out HS2.out (.inr (Nat.le_refl _))) (HM.out.2.2.2.1.out HS2.out (.inr q7)) q7 q4 (by omega)
                  have hFin := merge_fin HF.out HS2.out (SameOn.refl f1 mid b) HT2.out hT3 HM.out.2.2.2.2 (by omega) (by omega)
                  exact ⟨⟨_, rfl⟩, f1, hR2, hFin.1, hFin.2, hG3⟩
            · skip
              go_upto_region 43 with fail
              have HS2 : Hid (SameOn f1 f1 a mid) := Lib.hid (SameOn.refl _ _ _)
              have HT2 : Hid (Srt wt f1 a mid) := Lib.hid (srt_half HM.out.1 HM.out.2.1 q1 q6 (by omega))
              have hR2 := hR1
              have hG3 := hG1
              clear hR1 hG1
              by_cases x1 : (mid : Int) < (e : Int)
              · skip
                by_cases x2 : (e : Int) < (b : Int)
                · skip
                  go_wp2_with (first | (go_at_call 125; refine (HIH.out wr f1 mid e b (by omega) hR2 (HC.out.grown hG3) (HP1.out.same HS2.out (by omega)) (by omega) (by omega) hb (HM.out.2.2.1.out HS2.out (.inr (Nat.le_refl _))) (HM.out.2.2.2.1.out HS2.out (.inr q7)) (fun i j i1 i2 j1 j2 => by rw [HS2.out.out i (by omega), HS2.out.out j (by omega)]; exact HQ.out.2 i j i1 i2 j1 j2)).mono ?_; rintro e' W3 ⟨⟨v3, rfl⟩, f3, hR3, hS3, hT3, hG4⟩))
                  go_end0
                  have hFin := merge_fin HF.out HS2.out hS3 HT2.out hT3 HM.out.2.2.2.2 (by omega) (by omega)
                  exact ⟨⟨_, rfl⟩, f3, hR3, hFin.1, hFin.2, grown_trans hG3 hG4⟩
                · skip
                  go_wp2
                  go_end0
                  have hT3 : Srt wt f1 mid b := srt_half (HM.out.2.2.1.out HS2.out (.inr (Nat.le_refl _))) (HM.out.2.2.2.1.out HS2.out (.inr q7)) q7 q4 (by omega)
                  have hFin := merge_fin HF.out HS2.out (SameOn.refl f1 mid b) HT2.out hT3 HM.out.2.2.2.2 (by omega) (by omega)
                  exact ⟨⟨_, rfl⟩, f1, hR2, hFin.1, hFin.2, hG3⟩
              · skip
                go_wp2
                go_end0
                have hT3 : Srt wt f1 mid b := srt_half (HM.out.2.2.1.out HS2.out (.inr (Nat.le_refl _))) (HM.out.2.2.2.1.out HS2.out (.inr q7)) q7 q4 (by omega)
                have hFin := merge_fin HF.out HS2.out (SameOn.refl f1 mid b) HT2.out hT3 HM.out.2.2.2.2 (by omega) (by omega)
                exact ⟨⟨_, rfl⟩, f1, hR2, hFin.1, hFin.2, hG3⟩
  · skip
    go_wp2_with fail
    go_loopw [20, 21, 23] (fun x y z wr => ∃ (s r : Nat), a ≤ s ∧ s ≤ r ∧ r ≤ m ∧ x = .int .i64 s ∧ y = .int .i64 r ∧ Rw R wr g n f ∧ (∀ k e, s = k + 1 → s + e = s2 → a < s → Ltw wt (f k) (f e)) ∧ (∀ e, r + e + 1 = s2 → r < m → Ltw wt (f e) (f r)) ∧ w.grownBy wr (some g)) (fun x y _ _ => (intOf y).toNat - (intOf x).toNat)
    case atStart => exact ⟨a, m, by omega, by omega, by omega, rfl, rfl, hR, fun k e _ _ h => by omega, fun e _ h => by omega, grown_refl _ _⟩
    case round =>
      clear hR
      obtain ⟨s, r, hs, hsr, hr, rfl, rfl, hR, hD, hU, hG⟩ := hrel
      have HD := Lib.hid hD
      have HU := Lib.hid hU
      clear hD hU
      by_cases hlt : (s : Int) < (r : Int)
      · obtain ⟨sr, hsr2⟩ : ∃ x : Nat, (s : Int) + r = x := ⟨s + r, by omega⟩
        obtain ⟨c, hc⟩ : ∃ t : Nat, (sr : Int) / 2 = t := ⟨sr / 2, by omega⟩
        obtain ⟨pc, hpc⟩ : ∃ t : Nat, (p : Int) - c = t := ⟨p - c, by omega⟩
        obtain ⟨c1, hc1⟩ : ∃ t : Nat, (c : Int) + 1 = t := ⟨c + 1, by omega⟩
        have hwp : IntKind.i64.wrap ((p : Int) - (c : Int)) = (pc : Int) := by rw [hpc]; exact IntWalk.i64_in _ (by omega)
        have t1 : s ≤ c := by omega
        have t2 : c < r := by omega
        have t3 : m ≤ pc := by omega
        have t4 : pc < b := by omega
        have t5 : c < m := by omega
        have t6 : a ≤ c := by omega
        have ct := hR.cell (i := c) (by omega)
        have ca := hR.cell (i := pc) (by omega)
        have i1 : (c : Int) < (n : Int) := by omega
        have i2 : (pc : Int) < (n : Int) := by omega
        have hlo := HL.out c pc t6 t5 t3 t4
        have HLO := Lib.hid hlo
        clear hlo
        obtain ⟨D, hDD⟩ : ∃ D, wt (f pc) - wt (f c) = D := ⟨_, rfl⟩
        have HDD := Lib.hid hDD
        clear hDD
        have hK : ∀ q, Calls Try.prog 96 #[.int .i64 (f pc), .int .i64 (f c), .pointer (some ⟨pb, 0, none⟩)] (wr.drewN q) fun e w'' => e = .returned (.int .i64 D) ∧ ∃ d, w'' = (wr.drewN q).drewN d := fun q =>
          HC.out _ (grown_drewN hG q) _ _ D (HP.out pc (by omega)).1 (HP.out pc (by omega)).2 (HP.out c (by omega)).1 (HP.out c (by omega)).2 HDD.out
        have HK := Lib.hid hK
        clear hK
        by_cases hd : D < 0
        · have g2 : decide (D < 0) = true := by simp; omega
          go_wp2_with fail
          go_quiet ((go_at_call 96; exact quiet_dr (HK.out _)))
          go_wp2
          go_roundw
          case rel =>
            have hx : Ltw wt (f pc) (f c) := (ltw_lo HLO.out).1 (by have := HDD.out; omega)
            refine ⟨s, c, hs, t1, by omega, rfl, rfl, hR.drewN _, HD.out, fun e he _ => ?_, grown_drewN hG _⟩
            have e1 : e = pc := by omega
            rw [e1]; exact hx
          case measure => simp [intOf]; omega
        · have g2 : decide (D < 0) = false := by simp; omega
          go_wp2_with fail
          go_quiet ((go_at_call 96; exact quiet_dr (HK.out _)))
          go_wp2
          go_roundw
          case rel =>
            have hx : Ltw wt (f c) (f pc) := Ltw.total (fun hx => by have h1 := (ltw_lo HLO.out).2 hx; have h2 := HDD.out; omega) (by have := HLO.out; omega)
            refine ⟨c1, r, by omega, by omega, hr, rfl, rfl, hR.drewN _, fun k e hk he _ => ?_, HU.out, grown_drewN hG _⟩
            have e1 : e = pc := by omega
            have e2 : k = c := by omega
            rw [e1, e2]; exact hx
          case measure => simp [intOf]; omega
      · have hsr2 : s = r := by omega
        subst hsr2
        obtain ⟨e, he⟩ : ∃ e : Nat, (s2 : Int) - s = e := ⟨s2 - s, by omega⟩
        have q1 : a ≤ s := by omega
        have q2 : s ≤ m := by omega
        have q3 : m ≤ e := by omega
        have q4 : e ≤ b := by omega
        have q5 : s + (e - m) = mid := by omega
        have q6 : s ≤ mid := by omega
        have q7 : mid ≤ e := by omega
        have hM := merge_srt HSA.out HSB.out q1 q2 q3 q4 q5 (fun h1 h2 => HD.out (s - 1) e (by omega) (by omega) (by omega)) (fun h1 h2 => HU.out (e - 1) (by omega) (by omega))
        have hQ := rot_lo HL.out q1 q2 q3 q4 q5
        have hF : SameOn f (rot f s m e) a b := (rot_same f q2 q3).wide q1 q4
        have hZ : ¬ (s < m ∧ m < e) → rot f s m e = f := fun h => rot_none f (by omega) q2 q3
        have HZ := Lib.hid hZ
        have HM := Lib.hid hM
        have HQ := Lib.hid hQ
        have HF := Lib.hid hF
        have HW : Hid (∀ V, Rw R V g n f → w.grownBy V (some g) → s < m → m < e → Calls Try.prog 129 #[.slice (some ⟨g, 0, none⟩) n cap, .int .i64 s, .int .i64 m, .int .i64 e, .func (.func 96) #[] #[.pointer (some ⟨pb, 0, none⟩)]] V fun e' w' => (∃ r, e' = .returned r) ∧ Rw R w' g n (rot f s m e) ∧ w.grownBy w' (some g)) := Lib.hid (fun V hV hGV k1 k2 => (rotate_any V g n cap f s m e _ hV hn k1 k2 (by omega)).mono fun _ _ ⟨h1, h2, h3⟩ => ⟨h1, h2, grown_trans hGV h3⟩)
        clear hZ hM hQ hF HD HU
        obtain ⟨f1, hf1⟩ : ∃ f1, rot f s m e = f1 := ⟨_, rfl⟩
        rw [hf1] at HZ HM HQ HF HW
        have hP1 : Pl n N f1 := HP.out.same HF.out hb
        have HP1 := Lib.hid hP1
        have HF1 := Lib.hid hf1
        clear hP1 hf1
        by_cases z1 : (s : Int) < (m : Int) ∧ (m : Int) < (e : Int)
        · obtain ⟨z1, z2⟩ := z1
          go_upto_region 41 with (first | (go_at_call 129; refine (HW.out wr hR hG (by omega) (by omega)).mono ?_; rintro e' W1 ⟨⟨v1, rfl⟩, hR1, hG1⟩))
          clear hR hG
          by_cases y1 : (a : Int) < (s : Int)
          · skip
            by_cases y2 : (s : Int) < (mid : Int)
            · skip
              go_upto_region 43 with (first | (go_at_call 125; refine (HIH.out W1 f1 a s mid (by omega) hR1 (HC.out.grown hG1) HP1.out (by omega) (by omega) (by omega) HM.out.1 HM.out.2.1 HQ.out.1).mono ?_; rintro e' W2 ⟨⟨v2, rfl⟩, f2, hR2, hS2, hT2, hG2⟩))
              have hG3 := grown_trans hG1 hG2
              have HS2 := Lib.hid hS2
              have HT2 := Lib.hid hT2
              clear hR1 hG1 hG2 hS2 hT2
              by_cases x1 : (mid : Int) < (e : Int)
              · skip
                by_cases x2 : (e : Int) < (b : Int)
                · skip
                  go_wp2_with (first | (go_at_call 125; refine (HIH.out W2 f2 mid e b (by omega) hR2 (HC.out.grown hG3) (HP1.out.same HS2.out (by omega)) (by omega) (by omega) hb (HM.out.2.2.1.out HS2.out (.inr (Nat.le_refl _))) (HM.out.2.2.2.1.out HS2.out (.inr q7)) (fun i j i1 i2 j1 j2 => by rw [HS2.out.out i (by omega), HS2.out.out j (by omega)]; exact HQ.out.2 i j i1 i2 j1 j2)).mono ?_; rintro e' W3 ⟨⟨v3, rfl⟩, f3, hR3, hS3, hT3, hG4⟩))
                  go_end0
                  have hFin := merge_fin HF.out HS2.out hS3 HT2.out hT3 HM.out.2.2.2.2 (by omega) (by omega)
                  exact ⟨⟨_, rfl⟩, f3, hR3, hFin.1, hFin.2, grown_trans hG3 hG4⟩
                · skip
                  go_wp2
                  go_end0
                  have hT3 : Srt wt f2 mid b := srt_half (HM.out.2.2.1.out HS2.out (.inr (Nat.le_refl _))) (HM.out.2.2.2.1.out HS2.out (.inr q7)) q7 q4 (by omega)
                  have hFin := merge_fin HF.out HS2.out (SameOn.refl f2 mid b) HT2.out hT3 HM.out.2.2.2.2 (by omega) (by omega)
                  exact ⟨⟨_, rfl⟩, f2, hR2, hFin.1, hFin.2, hG3⟩
              · skip
                go_wp2
                go_end0
                have hT3 : Srt wt f2 mid b := srt_half (HM.out.2.2.1.out HS2.out (.inr (Nat.le_refl _))) (HM.out.2.2.2.1.out HS2.out (.inr q7)) q7 q4 (by omega)
                have hFin := merge_fin HF.out HS2.out (SameOn.refl f2 mid b) HT2.out hT3 HM.out.2.2.2.2 (by omega) (by omega)
                exact ⟨⟨_, rfl⟩, f2, hR2, hFin.1, hFin.2, hG3⟩
            · skip
              go_upto_region 43 with fail
              have HS2 : Hid (SameOn f1 f1 a mid) := Lib.hid (SameOn.refl _ _ _)
              have HT2 : Hid (Srt wt f1 a mid) := Lib.hid (srt_half HM.out.1 HM.out.2.1 q1 q6 (by omega))
              have hR2 := hR1
              have hG3 := hG1
              clear hR1 hG1
              by_cases x1 : (mid : Int) < (e : Int)
              · skip
                by_cases x2 : (e : Int) < (b : Int)
                · skip
                  go_wp2_with (first | (go_at_call 125; refine (HIH.out W1 f1 mid e b (by omega) hR2 (HC.out.grown hG3) (HP1.out.same HS2.out (by omega)) (by omega) (by omega) hb (HM.out.2.2.1.out HS2.out (.inr (Nat.le_refl _))) (HM.out.2.2.2.1.out HS2.out (.inr q7)) (fun i j i1 i2 j1 j2 => by rw [HS2.out.out i (by omega), HS2.out.out j (by omega)]; exact HQ.out.2 i j i1 i2 j1 j2)).mono ?_; rintro e' W3 ⟨⟨v3, rfl⟩, f3, hR3, hS3, hT3, hG4⟩))
                  go_end0
                  have hFin := merge_fin HF.out HS2.out hS3 HT2.out hT3 HM.out.2.2.2.2 (by omega) (by omega)
                  exact ⟨⟨_, rfl⟩, f3, hR3, hFin.1, hFin.2, grown_trans hG3 hG4⟩
                · skip
                  go_wp2
                  go_end0
                  have hT3 : Srt wt f1 mid b := srt_half (HM.out.2.2.1.out HS2.out (.inr (Nat.le_refl _))) (HM.out.2.2.2.1.out HS2.out (.inr q7)) q7 q4 (by omega)
                  have hFin := merge_fin HF.out HS2.out (SameOn.refl f1 mid b) HT2.out hT3 HM.out.2.2.2.2 (by omega) (by omega)
                  exact ⟨⟨_, rfl⟩, f1, hR2, hFin.1, hFin.2, hG3⟩
              · skip
                go_wp2
                go_end0
                have hT3 : Srt wt f1 mid b := srt_half (HM.out.2.2.1.out HS2.out (.inr (Nat.le_refl _))) (HM.out.2.2.2.1.out HS2.out (.inr q7)) q7 q4 (by omega)
                have hFin := merge_fin HF.out HS2.out (SameOn.refl f1 mid b) HT2.out hT3 HM.out.2.2.2.2 (by omega) (by omega)
                exact ⟨⟨_, rfl⟩, f1, hR2, hFin.1, hFin.2, hG3⟩
          · skip
            go_upto_region 43 with fail
            have HS2 : Hid (SameOn f1 f1 a mid) := Lib.hid (SameOn.refl _ _ _)
            have HT2 : Hid (Srt wt f1 a mid) := Lib.hid (srt_half HM.out.1 HM.out.2.1 q1 q6 (by omega))
            have hR2 := hR1
            have hG3 := hG1
            clear hR1 hG1
            by_cases x1 : (mid : Int) < (e : Int)
            · skip
              by_cases x2 : (e : Int) < (b : Int)
              · skip
                go_wp2_with (first | (go_at_call 125; refine (HIH.out W1 f1 mid e b (by omega) hR2 (HC.out.grown hG3) (HP1.out.same HS2.out (by omega)) (by omega) (by omega) hb (HM.out.2.2.1.out HS2.out (.inr (Nat.le_refl _))) (HM.out.2.2.2.1.out HS2.out (.inr q7)) (fun i j i1 i2 j1 j2 => by rw [HS2.out.out i (by omega), HS2.out.out j (by omega)]; exact HQ.out.2 i j i1 i2 j1 j2)).mono ?_; rintro e' W3 ⟨⟨v3, rfl⟩, f3, hR3, hS3, hT3, hG4⟩))
                go_end0
                have hFin := merge_fin HF.out HS2.out hS3 HT2.out hT3 HM.out.2.2.2.2 (by omega) (by omega)
                exact ⟨⟨_, rfl⟩, f3, hR3, hFin.1, hFin.2, grown_trans hG3 hG4⟩
              · skip
                go_wp2
                go_end0
                have hT3 : Srt wt f1 mid b := srt_half (HM.out.2.2.1.out HS2.out (.inr (Nat.le_refl _))) (HM.out.2.2.2.1.out HS2.out (.inr q7)) q7 q4 (by omega)
                have hFin := merge_fin HF.out HS2.out (SameOn.refl f1 mid b) HT2.out hT3 HM.out.2.2.2.2 (by omega) (by omega)
                exact ⟨⟨_, rfl⟩, f1, hR2, hFin.1, hFin.2, hG3⟩
            · skip
              go_wp2
              go_end0
              have hT3 : Srt wt f1 mid b := srt_half (HM.out.2.2.1.out HS2.out (.inr (Nat.le_refl _))) (HM.out.2.2.2.1.out HS2.out (.inr q7)) q7 q4 (by omega)
              have hFin := merge_fin HF.out HS2.out (SameOn.refl f1 mid b) HT2.out hT3 HM.out.2.2.2.2 (by omega) (by omega)
              exact ⟨⟨_, rfl⟩, f1, hR2, hFin.1, hFin.2, hG3⟩
        · have hz := HZ.out (by omega)
          have hR1 : Rw R wr g n f1 := by rw [hz]; exact hR
          have hG1 := hG
          clear hR hG hz
          have g7 : (s : Int) < (m : Int) → decide ((m : Int) < (e : Int)) = false := fun h => by simp; omega
          by_cases z1 : (s : Int) < (m : Int)
          · have z2 : ¬ ((m : Int) < (e : Int)) := by omega
            clear g7
            go_upto_region 41 with fail
            by_cases y1 : (a : Int) < (s : Int)
            · skip
              by_cases y2 : (s : Int) < (mid : Int)
              · skip
                go_upto_region 43 with (first | (go_at_call 125; refine (HIH.out wr f1 a s mid (by omega) hR1 (HC.out.grown hG1) HP1.out (by omega) (by omega) (by omega) HM.out.1 HM.out.2.1 HQ.out.1).mono ?_; rintro e' W2 ⟨⟨v2, rfl⟩, f2, hR2, hS2, hT2, hG2⟩))
                have hG3 := grown_trans hG1 hG2
                have HS2 := Lib.hid hS2
                have HT2 := Lib.hid hT2
                clear hR1 hG1 hG2 hS2 hT2
                by_cases x1 : (mid : Int) < (e : Int)
                · skip
                  by_cases x2 : (e : Int) < (b : Int)
                  · skip
                    go_wp2_with (first | (go_at_call 125; refine (HIH.out W2 f2 mid e b (by omega) hR2 (HC.out.grown hG3) (HP1.out.same HS2.out (by omega)) (by omega) (by omega) hb (HM.out.2.2.1.out HS2.out (.inr (Nat.le_refl _))) (HM.out.2.2.2.1.out HS2.out (.inr q7)) (fun i j i1 i2 j1 j2 => by rw [HS2.out.out i (by omega), HS2.out.out j (by omega)]; exact HQ.out.2 i j i1 i2 j1 j2)).mono ?_; rintro e' W3 ⟨⟨v3, rfl⟩, f3, hR3, hS3, hT3, hG4⟩))
                    go_end0
                    have hFin := merge_fin HF.out HS2.out hS3 HT2.out hT3 HM.out.2.2.2.2 (by omega) (by omega)
                    exact ⟨⟨_, rfl⟩, f3, hR3, hFin.1, hFin.2, grown_trans hG3 hG4⟩
                  · skip
                    go_wp2
                    go_end0
                    have hT3 : Srt wt f2 mid b := srt_half (HM.out.2.2.1.out HS2.out (.inr (Nat.le_refl _))) (HM.out.2.2.2.1.out HS2.out (.inr q7)) q7 q4 (by omega)
                    have hFin := merge_fin HF.out HS2.out (SameOn.refl f2 mid b) HT2.out hT3 HM.out.2.2.2.2 (by omega) (by omega)
                    exact ⟨⟨_, rfl⟩, f2, hR2, hFin.1, hFin.2, hG3⟩
                · skip
                  go_wp2
                  go_end0
                  have hT3 : Srt wt f2 mid b := srt_half (HM.out.2.2.1.out HS2.out (.inr (Nat.le_refl _))) (HM.out.2.2.2.1.out HS2.out (.inr q7)) q7 q4 (by omega)
                  have hFin := merge_fin HF.out HS2.out (SameOn.refl f2 mid b) HT2.out hT3 HM.out.2.2.2.2 (by omega) (by omega)
                  exact ⟨⟨_, rfl⟩, f2, hR2, hFin.1, hFin.2, hG3⟩
              · skip
                go_upto_region 43 with fail
                have HS2 : Hid (SameOn f1 f1 a mid) := Lib.hid (SameOn.refl _ _ _)
                have HT2 : Hid (Srt wt f1 a mid) := Lib.hid (srt_half HM.out.1 HM.out.2.1 q1 q6 (by omega))
                have hR2 := hR1
                have hG3 := hG1
                clear hR1 hG1
                by_cases x1 : (mid : Int) < (e : Int)
                · skip
                  by_cases x2 : (e : Int) < (b : Int)
                  · skip
                    go_wp2_with (first | (go_at_call 125; refine (HIH.out wr f1 mid e b (by omega) hR2 (HC.out.grown hG3) (HP1.out.same HS2.out (by omega)) (by omega) (by omega) hb (HM.out.2.2.1.out HS2.out (.inr (Nat.le_refl _))) (HM.out.2.2.2.1.out HS2.out (.inr q7)) (fun i j i1 i2 j1 j2 => by rw [HS2.out.out i (by omega), HS2.out.out j (by omega)]; exact HQ.out.2 i j i1 i2 j1 j2)).mono ?_; rintro e' W3 ⟨⟨v3, rfl⟩, f3, hR3, hS3, hT3, hG4⟩))
                    go_end0
                    have hFin := merge_fin HF.out HS2.out hS3 HT2.out hT3 HM.out.2.2.2.2 (by omega) (by omega)
                    exact ⟨⟨_, rfl⟩, f3, hR3, hFin.1, hFin.2, grown_trans hG3 hG4⟩
                  · skip
                    go_wp2
                    go_end0
                    have hT3 : Srt wt f1 mid b := srt_half (HM.out.2.2.1.out HS2.out (.inr (Nat.le_refl _))) (HM.out.2.2.2.1.out HS2.out (.inr q7)) q7 q4 (by omega)
                    have hFin := merge_fin HF.out HS2.out (SameOn.refl f1 mid b) HT2.out hT3 HM.out.2.2.2.2 (by omega) (by omega)
                    exact ⟨⟨_, rfl⟩, f1, hR2, hFin.1, hFin.2, hG3⟩
                · skip
                  go_wp2
                  go_end0
                  have hT3 : Srt wt f1 mid b := srt_half (HM.out.2.2.1.out HS2.out (.inr (Nat.le_refl _))) (HM.out.2.2.2.1.out HS2.out (.inr q7)) q7 q4 (by omega)
                  have hFin := merge_fin HF.out HS2.out (SameOn.refl f1 mid b) HT2.out hT3 HM.out.2.2.2.2 (by omega) (by omega)
                  exact ⟨⟨_, rfl⟩, f1, hR2, hFin.1, hFin.2, hG3⟩
            · skip
              go_upto_region 43 with fail
              have HS2 : Hid (SameOn f1 f1 a mid) := Lib.hid (SameOn.refl _ _ _)
              have HT2 : Hid (Srt wt f1 a mid) := Lib.hid (srt_half HM.out.1 HM.out.2.1 q1 q6 (by omega))
              have hR2 := hR1
              have hG3 := hG1
              clear hR1 hG1
              by_cases x1 : (mid : Int) < (e : Int)
              · skip
                by_cases x2 : (e : Int) < (b : Int)
                · skip
                  go_wp2_with (first | (go_at_call 125; refine (HIH.out wr f1 mid e b (by omega) hR2 (HC.out.grown hG3) (HP1.out.same HS2.out (by omega)) (by omega) (by omega) hb (HM.out.2.2.1.out HS2.out (.inr (Nat.le_refl _))) (HM.out.2.2.2.1.out HS2.out (.inr q7)) (fun i j i1 i2 j1 j2 => by rw [HS2.out.out i (by omega), HS2.out.out j (by omega)]; exact HQ.out.2 i j i1 i2 j1 j2)).mono ?_; rintro e' W3 ⟨⟨v3, rfl⟩, f3, hR3, hS3, hT3, hG4⟩))
                  go_end0
                  have hFin := merge_fin HF.out HS2.out hS3 HT2.out hT3 HM.out.2.2.2.2 (by omega) (by omega)
                  exact ⟨⟨_, rfl⟩, f3, hR3, hFin.1, hFin.2, grown_trans hG3 hG4⟩
                · skip
                  go_wp2
                  go_end0
                  have hT3 : Srt wt f1 mid b := srt_half (HM.out.2.2.1.out HS2.out (.inr (Nat.le_refl _))) (HM.out.2.2.2.1.out HS2.out (.inr q7)) q7 q4 (by omega)
                  have hFin := merge_fin HF.out HS2.out (SameOn.refl f1 mid b) HT2.out hT3 HM.out.2.2.2.2 (by omega) (by omega)
                  exact ⟨⟨_, rfl⟩, f1, hR2, hFin.1, hFin.2, hG3⟩
              · skip
                go_wp2
                go_end0
                have hT3 : Srt wt f1 mid b := srt_half (HM.out.2.2.1.out HS2.out (.inr (Nat.le_refl _))) (HM.out.2.2.2.1.out HS2.out (.inr q7)) q7 q4 (by omega)
                have hFin := merge_fin HF.out HS2.out (SameOn.refl f1 mid b) HT2.out hT3 HM.out.2.2.2.2 (by omega) (by omega)
                exact ⟨⟨_, rfl⟩, f1, hR2, hFin.1, hFin.2, hG3⟩
          · skip
            clear g7
            go_upto_region 41 with fail
            by_cases y1 : (a : Int) < (s : Int)
            · skip
              by_cases y2 : (s : Int) < (mid : Int)
              · skip
                go_upto_region 43 with (first | (go_at_call 125; refine (HIH.out wr f1 a s mid (by omega) hR1 (HC.out.grown hG1) HP1.out (by omega) (by omega) (by omega) HM.out.1 HM.out.2.1 HQ.out.1).mono ?_; rintro e' W2 ⟨⟨v2, rfl⟩, f2, hR2, hS2, hT2, hG2⟩))
                have hG3 := grown_trans hG1 hG2
                have HS2 := Lib.hid hS2
                have HT2 := Lib.hid hT2
                clear hR1 hG1 hG2 hS2 hT2
                by_cases x1 : (mid : Int) < (e : Int)
                · skip
                  by_cases x2 : (e : Int) < (b : Int)
                  · skip
                    go_wp2_with (first | (go_at_call 125; refine (HIH.out W2 f2 mid e b (by omega) hR2 (HC.out.grown hG3) (HP1.out.same HS2.out (by omega)) (by omega) (by omega) hb (HM.out.2.2.1.out HS2.out (.inr (Nat.le_refl _))) (HM.out.2.2.2.1.out HS2.out (.inr q7)) (fun i j i1 i2 j1 j2 => by rw [HS2.out.out i (by omega), HS2.out.out j (by omega)]; exact HQ.out.2 i j i1 i2 j1 j2)).mono ?_; rintro e' W3 ⟨⟨v3, rfl⟩, f3, hR3, hS3, hT3, hG4⟩))
                    go_end0
                    have hFin := merge_fin HF.out HS2.out hS3 HT2.out hT3 HM.out.2.2.2.2 (by omega) (by omega)
                    exact ⟨⟨_, rfl⟩, f3, hR3, hFin.1, hFin.2, grown_trans hG3 hG4⟩
                  · skip
                    go_wp2
                    go_end0
                    have hT3 : Srt wt f2 mid b := srt_half (HM.out.2.2.1.out HS2.out (.inr (Nat.le_refl _))) (HM.out.2.2.2.1.out HS2.out (.inr q7)) q7 q4 (by omega)
                    have hFin := merge_fin HF.out HS2.out (SameOn.refl f2 mid b) HT2.out hT3 HM.out.2.2.2.2 (by omega) (by omega)
                    exact ⟨⟨_, rfl⟩, f2, hR2, hFin.1, hFin.2, hG3⟩
                · skip
                  go_wp2
                  go_end0
                  have hT3 : Srt wt f2 mid b := srt_half (HM.out.2.2.1.out HS2.out (.inr (Nat.le_refl _))) (HM.out.2.2.2.1.out HS2.out (.inr q7)) q7 q4 (by omega)
                  have hFin := merge_fin HF.out HS2.out (SameOn.refl f2 mid b) HT2.out hT3 HM.out.2.2.2.2 (by omega) (by omega)
                  exact ⟨⟨_, rfl⟩, f2, hR2, hFin.1, hFin.2, hG3⟩
              · skip
                go_upto_region 43 with fail
                have HS2 : Hid (SameOn f1 f1 a mid) := Lib.hid (SameOn.refl _ _ _)
                have HT2 : Hid (Srt wt f1 a mid) := Lib.hid (srt_half HM.out.1 HM.out.2.1 q1 q6 (by omega))
                have hR2 := hR1
                have hG3 := hG1
                clear hR1 hG1
                by_cases x1 : (mid : Int) < (e : Int)
                · skip
                  by_cases x2 : (e : Int) < (b : Int)
                  · skip
                    go_wp2_with (first | (go_at_call 125; refine (HIH.out wr f1 mid e b (by omega) hR2 (HC.out.grown hG3) (HP1.out.same HS2.out (by omega)) (by omega) (by omega) hb (HM.out.2.2.1.out HS2.out (.inr (Nat.le_refl _))) (HM.out.2.2.2.1.out HS2.out (.inr q7)) (fun i j i1 i2 j1 j2 => by rw [HS2.out.out i (by omega), HS2.out.out j (by omega)]; exact HQ.out.2 i j i1 i2 j1 j2)).mono ?_; rintro e' W3 ⟨⟨v3, rfl⟩, f3, hR3, hS3, hT3, hG4⟩))
                    go_end0
                    have hFin := merge_fin HF.out HS2.out hS3 HT2.out hT3 HM.out.2.2.2.2 (by omega) (by omega)
                    exact ⟨⟨_, rfl⟩, f3, hR3, hFin.1, hFin.2, grown_trans hG3 hG4⟩
                  · skip
                    go_wp2
                    go_end0
                    have hT3 : Srt wt f1 mid b := srt_half (HM.out.2.2.1.out HS2.out (.inr (Nat.le_refl _))) (HM.out.2.2.2.1.out HS2.out (.inr q7)) q7 q4 (by omega)
                    have hFin := merge_fin HF.out HS2.out (SameOn.refl f1 mid b) HT2.out hT3 HM.out.2.2.2.2 (by omega) (by omega)
                    exact ⟨⟨_, rfl⟩, f1, hR2, hFin.1, hFin.2, hG3⟩
                · skip
                  go_wp2
                  go_end0
                  have hT3 : Srt wt f1 mid b := srt_half (HM.out.2.2.1.out HS2.out (.inr (Nat.le_refl _))) (HM.out.2.2.2.1.out HS2.out (.inr q7)) q7 q4 (by omega)
                  have hFin := merge_fin HF.out HS2.out (SameOn.refl f1 mid b) HT2.out hT3 HM.out.2.2.2.2 (by omega) (by omega)
                  exact ⟨⟨_, rfl⟩, f1, hR2, hFin.1, hFin.2, hG3⟩
            · skip
              go_upto_region 43 with fail
              have HS2 : Hid (SameOn f1 f1 a mid) := Lib.hid (SameOn.refl _ _ _)
              have HT2 : Hid (Srt wt f1 a mid) := Lib.hid (srt_half HM.out.1 HM.out.2.1 q1 q6 (by omega))
              have hR2 := hR1
              have hG3 := hG1
              clear hR1 hG1
              by_cases x1 : (mid : Int) < (e : Int)
              · skip
                by_cases x2 : (e : Int) < (b : Int)
                · skip
                  go_wp2_with (first | (go_at_call 125; refine (HIH.out wr f1 mid e b (by omega) hR2 (HC.out.grown hG3) (HP1.out.same HS2.out (by omega)) (by omega) (by omega) hb (HM.out.2.2.1.out HS2.out (.inr (Nat.le_refl _))) (HM.out.2.2.2.1.out HS2.out (.inr q7)) (fun i j i1 i2 j1 j2 => by rw [HS2.out.out i (by omega), HS2.out.out j (by omega)]; exact HQ.out.2 i j i1 i2 j1 j2)).mono ?_; rintro e' W3 ⟨⟨v3, rfl⟩, f3, hR3, hS3, hT3, hG4⟩))
                  go_end0
                  have hFin := merge_fin HF.out HS2.out hS3 HT2.out hT3 HM.out.2.2.2.2 (by omega) (by omega)
                  exact ⟨⟨_, rfl⟩, f3, hR3, hFin.1, hFin.2, grown_trans hG3 hG4⟩
                · skip
                  go_wp2
                  go_end0
                  have hT3 : Srt wt f1 mid b := srt_half (HM.out.2.2.1.out HS2.out (.inr (Nat.le_refl _))) (HM.out.2.2.2.1.out HS2.out (.inr q7)) q7 q4 (by omega)
                  have hFin := merge_fin HF.out HS2.out (SameOn.refl f1 mid b) HT2.out hT3 HM.out.2.2.2.2 (by omega) (by omega)
                  exact ⟨⟨_, rfl⟩, f1, hR2, hFin.1, hFin.2, hG3⟩
              · skip
                go_wp2
                go_end0
                have hT3 : Srt wt f1 mid b := srt_half (HM.out.2.2.1.out HS2.out (.inr (Nat.le_refl _))) (HM.out.2.2.2.1.out HS2.out (.inr q7)) q7 q4 (by omega)
                have hFin := merge_fin HF.out HS2.out (SameOn.refl f1 mid b) HT2.out hT3 HM.out.2.2.2.2 (by omega) (by omega)
                exact ⟨⟨_, rfl⟩, f1, hR2, hFin.1, hFin.2, hG3⟩
end Go.Proofs.Ytgemhgllifhckaa
