/- slices.stableCmpFunc and SortStableFunc at []int: the places 0 .. n-1 come out sorted by their weights, equal ones in their order. Conditions: as named in each theorem. -/
import Derived.Test.YtgkcnocfijckoaaGreatQH
import Derived.Deep.Cut
namespace Go.Proofs.YtgkcnocfijckoaaGreat
open Go.RowKit
set_option linter.unusedVariables false
theorem merge_fin {wt : Int → Int} {f f1 f2 f3 : Nat → Int} {a mid b : Nat} (hS1 : SameOn f f1 a b) (hS2 : SameOn f1 f2 a mid) (hS3 : SameOn f2 f3 mid b) (t2 : Srt wt f2 a mid) (t3 : Srt wt f3 mid b) (cross : ∀ i j, a ≤ i → i < mid → mid ≤ j → j < b → Ltw wt (f1 i) (f1 j)) (ha : a ≤ mid) (hb : mid ≤ b) : SameOn f f3 a b ∧ Srt wt f3 a b := by
  refine ⟨(hS1.trans (hS2.wide (Nat.le_refl _) hb)).trans (hS3.wide ha (Nat.le_refl _)), Srt.join (t2.out hS3 (.inl (Nat.le_refl _))) t3 fun i j i1 i2 j1 j2 => ?_⟩
  obtain ⟨i', q1, q2, e1⟩ := hS2.to i i1 i2
  obtain ⟨j', q3, q4, e2⟩ := hS3.to j j1 j2
  rw [hS3.out i (by omega), e1, e2, hS2.out j' (by omega)]
  exact cross i' j' q1 q2 q3 q4
/-- the contract of the merge for shorter runs -/
def MergeIH (R : List Value) (pb g n cap N : Nat) (wt : Int → Int) (d : Nat) : Prop :=
  ∀ (w : World) (f : Nat → Int) (a m b : Nat), b - a < d → Rw R w g n f → Cp pb g N wt w → Pl n N f → a < m → m < b → b ≤ n → Srt wt f a m → Srt wt f m b → (∀ i j, a ≤ i → i < m → m ≤ j → j < b → f i < f j) →
    Calls Tryz.prog 138 #[.slice (some ⟨g, 0, none⟩) n cap, .int .i64 a, .int .i64 m, .int .i64 b, .func (.func 126) #[] #[.pointer (some ⟨pb, 0, none⟩)]] w (MergeR R w g n f wt a b)
theorem rot_lo {f : Nat → Int} {a s m e b mid : Nat} (hL : ∀ i j, a ≤ i → i < m → m ≤ j → j < b → f i < f j) (h1 : a ≤ s) (h2 : s ≤ m) (h3 : m ≤ e) (h4 : e ≤ b) (hmid : s + (e - m) = mid) :
    (∀ i j, a ≤ i → i < s → s ≤ j → j < mid → rot f s m e i < rot f s m e j) ∧ (∀ i j, mid ≤ i → i < e → e ≤ j → j < b → rot f s m e i < rot f s m e j) := by
  have r1 : ∀ t, t < s → rot f s m e t = f t := fun t ht => by unfold rot; rw [if_neg (by omega), if_neg (by omega)]
  have r2 : ∀ t, s ≤ t → t < mid → rot f s m e t = f (t + (m - s)) := fun t t1 t2 => by unfold rot; rw [if_pos (by omega)]
  have r3 : ∀ t, mid ≤ t → t < e → rot f s m e t = f (t - (e - m)) := fun t t1 t2 => by unfold rot; rw [if_neg (by omega), if_pos (by omega)]
  have r4 : ∀ t, e ≤ t → rot f s m e t = f t := fun t ht => by unfold rot; rw [if_neg (by omega), if_neg (by omega)]
  refine ⟨fun i j i1 i2 j1 j2 => ?_, fun i j i1 i2 j1 j2 => ?_⟩
  · rw [r1 i i2, r2 j j1 j2]; exact hL _ _ i1 (by omega) (by omega) (by omega)
  · rw [r3 i i1 i2, r4 j j1]; exact hL _ _ (by omega) (by omega) (by omega) j2
theorem srt_half {wt : Int → Int} {f : Nat → Int} {a s mid : Nat} (h1 : Srt wt f a s) (h2 : Srt wt f s mid) (ha : a ≤ s) (hs : s ≤ mid) (hn : ¬ (a < s ∧ s < mid)) : Srt wt f a mid := by
  by_cases e : a = s
  · rw [e]; exact h2
  · have e2 : s = mid := by omega
    rw [← e2]; exact h1
set_option maxRecDepth 100000 in
set_option maxHeartbeats 20000000 in
theorem symMerge_gen {R : List Value} (w : World) (pb g n cap N : Nat) (f : Nat → Int) (wt : Int → Int) (a m b : Nat) (IH : MergeIH R pb g n cap N wt (b - a)) (hR : Rw R w g n f) (hC : Cp pb g N wt w) (hP : Pl n N f) (hn : n ≤ 1000000000) (ham : a + 1 < m) (hmb : m + 1 < b) (hb : b ≤ n)
    (hSA : Srt wt f a m) (hSB : Srt wt f m b) (hlo : ∀ i j, a ≤ i → i < m → m ≤ j → j < b → f i < f j) :
    Calls Tryz.prog 138 #[.slice (some ⟨g, 0, none⟩) n cap, .int .i64 a, .int .i64 m, .int .i64 b, .func (.func 126) #[] #[.pointer (some ⟨pb, 0, none⟩)]] w (MergeR R w g n f wt a b) := by
  obtain ⟨x0, hx0⟩ : ∃ x0 : Nat, (m : Int) - a = x0 := ⟨m - a, by omega⟩
  have hx1 : ((x0 : Int) == 1) = false := by simp; omega
  obtain ⟨y0, hy0⟩ : ∃ y0 : Nat, (b : Int) - m = y0 := ⟨b - m, by omega⟩
  have hy1 : ((y0 : Int) == 1) = false := by simp; omega
  obtain ⟨sab, hsab⟩ : ∃ s : Nat, (a : Int) + b = s := ⟨a + b, by omega⟩
  obtain ⟨mid, hmid⟩ : ∃ t : Nat, (sab : Int) / 2 = t := ⟨sab / 2, by omega⟩
  obtain ⟨s2, hs2⟩ : ∃ s : Nat, (mid : Int) + m = s := ⟨mid + m, by omega⟩
  obtain ⟨p, hp⟩ : ∃ s : Nat, (s2 : Int) - 1 = s := ⟨s2 - 1, by omega⟩
  have hma : a < mid := by omega
  have hmb2 : mid < b := by omega
  have HIH := Lib.hid IH
  have HC := Lib.hid hC
  have HP := Lib.hid hP
  have HSA := Lib.hid hSA
  have HSB := Lib.hid hSB
  have HL := Lib.hid hlo
  clear IH hC hP hSA hSB hlo
  go_enter Tryz.func138, Tryz.ntmps138
  by_cases hmm : (mid : Int) < (m : Int)
  · obtain ⟨st0, hst0⟩ : ∃ s : Nat, (s2 : Int) - b = s := ⟨s2 - b, by omega⟩
    go_wp2_with fail
    go_loopw [20, 21, 23] (fun x y z wr => ∃ (s r : Nat), st0 ≤ s ∧ s ≤ r ∧ r ≤ mid ∧ x = .int .i64 s ∧ y = .int .i64 r ∧ Rw R wr g n f ∧ (∀ k e, s = k + 1 → s + e = s2 → st0 < s → Ltw wt (f k) (f e)) ∧ (∀ e, r + e + 1 = s2 → r < mid → Ltw wt (f e) (f r)) ∧ w.grownBy wr (some g)) (fun x y _ _ => (intOf y).toNat - (intOf x).toNat)
    case atStart => exact ⟨st0, mid, by omega, by omega, by omega, rfl, rfl, hR, fun k e _ _ h => by omega, fun e _ h => by omega, grown_refl _ _⟩
    case round =>
      clear hR
      obtain ⟨s, r, hs, hsr, hr, rfl, rfl, hR, hD, hU, hG⟩ := hrel
      have HD := Lib.hid hD
      have HU := Lib.hid hU
      clear hD hU
      by_cases hlt : (s : Int) < (r : Int)
      · obtain ⟨sr, hsr2⟩ : ∃ x : Nat, (s : Int) + r = x := ⟨s + r, by omega⟩
        obtain ⟨c, hc⟩ : ∃ t : Nat, (sr : Int) / 2 = t := ⟨sr / 2, by omega⟩
        obtain ⟨pc, hpc⟩ : ∃ t : Nat, (p : Int) - c = t := ⟨p - c, by omega⟩
        obtain ⟨c1, hc1⟩ : ∃ t : Nat, (c : Int) + 1 = t := ⟨c + 1, by omega⟩
        have hwp : IntKind.i64.wrap ((p : Int) - (c : Int)) = (pc : Int) := by rw [hpc]; exact IntWalk.i64_in _ (by omega)
        have t1 : s ≤ c := by omega
        have t2 : c < r := by omega
        have t3 : m ≤ pc := by omega
        have t4 : pc < b := by omega
        have t5 : c < m := by omega
        have t6 : a ≤ c := by omega
        have ct := hR.cell (i := c) (by omega)
        have ca := hR.cell (i := pc) (by omega)
        have i1 : (c : Int) < (n : Int) := by omega
        have i2 : (pc : Int) < (n : Int) := by omega
        have hlo := HL.out c pc t6 t5 t3 t4
        have HLO := Lib.hid hlo
        clear hlo
        obtain ⟨D, hDD⟩ : ∃ D, wt (f pc) - wt (f c) = D := ⟨_, rfl⟩
        have HDD := Lib.hid hDD
        clear hDD
        have hK : ∀ q, Calls Tryz.prog 126 #[.int .i64 (f pc), .int .i64 (f c), .pointer (some ⟨pb, 0, none⟩)] (wr.drewN q) fun e w'' => e = .returned (.int .i64 D) ∧ ∃ d, w'' = (wr.drewN q).drewN d := fun q =>
          HC.out _ (grown_drewN hG q) _ _ D (HP.out pc (by omega)).1 (HP.out pc (by omega)).2 (HP.out c (by omega)).1 (HP.out c (by omega)).2 HDD.out
        have HK := Lib.hid hK
        clear hK
        by_cases hd : D < 0
        · have g2 : decide (D < 0) = true := by simp; omega
          go_wp2_with fail
          go_quiet ((go_at_call 126; exact quiet_dr (HK.out _)))
          go_wp2
          go_roundw
          case rel =>
            have hx : Ltw wt (f pc) (f c) := (ltw_lo HLO.out).1 (by have := HDD.out; omega)
            refine ⟨s, c, hs, t1, by omega, rfl, rfl, hR.drewN _, HD.out, fun e he _ => ?_, grown_drewN hG _⟩
            have e1 : e = pc := by omega
            rw [e1]; exact hx
          case measure => simp [intOf]; omega
        · have g2 : decide (D < 0) = false := by simp; omega
          go_wp2_with fail
          go_quiet ((go_at_call 126; exact quiet_dr (HK.out _)))
          go_wp2
          go_roundw
          case rel =>
            have hx : Ltw wt (f c) (f pc) := Ltw.total (fun hx => by have h1 := (ltw_lo HLO.out).2 hx; have h2 := HDD.out; omega) (by have := HLO.out; omega)
            refine ⟨c1, r, by omega, by omega, hr, rfl, rfl, hR.drewN _, fun k e hk he _ => ?_, HU.out, grown_drewN hG _⟩
            have e1 : e = pc := by omega
            have e2 : k = c := by omega
            rw [e1, e2]; exact hx
          case measure => simp [intOf]; omega
      · have hsr2 : s = r := by omega
        subst hsr2
        obtain ⟨e, he⟩ : ∃ e : Nat, (s2 : Int) - s = e := ⟨s2 - s, by omega⟩
        have q1 : a ≤ s := by omega
        have q2 : s ≤ m := by omega
        have q3 : m ≤ e := by omega
        have q4 : e ≤ b := by omega
        have q5 : s + (e - m) = mid := by omega
        have q6 : s ≤ mid := by omega
        have q7 : mid ≤ e := by omega
        have hM := merge_srt HSA.out HSB.out q1 q2 q3 q4 q5 (fun h1 h2 => HD.out (s - 1) e (by omega) (by omega) (by omega)) (fun h1 h2 => HU.out (e - 1) (by omega) (by omega))
        have hQ := rot_lo HL.out q1 q2 q3 q4 q5
        have hF : SameOn f (rot f s m e) a b := (rot_same f q2 q3).wide q1 q4
        have hZ : ¬ (s < m ∧ m < e) → rot f s m e = f := fun h => rot_none f (by omega) q2 q3
        have HZ := Lib.hid hZ
        have HM := Lib.hid hM
        have HQ := Lib.hid hQ
        have HF := Lib.hid hF
        have HW : Hid (∀ V, Rw R V g n f → w.grownBy V (some g) → s < m → m < e → Calls Tryz.prog 141 #[.slice (some ⟨g, 0, none⟩) n cap, .int .i64 s, .int .i64 m, .int .i64 e, .func (.func 126) #[] #[.pointer (some ⟨pb, 0, none⟩)]] V fun e' w' => (∃ r, e' = .returned r) ∧ Rw R w' g n (rot f s m e) ∧ w.grownBy w' (some g)) := Lib.hid (fun V hV hGV k1 k2 => (rotate_any V g n cap f s m e _ hV hn k1 k2 (by omega)).mono fun _ _ ⟨h1, h2, h3⟩ => ⟨h1, h2, grown_trans hGV h3⟩)
        clear hZ hM hQ hF HD HU
        obtain ⟨f1, hf1⟩ : ∃ f1, rot f s m e = f1 := ⟨_, rfl⟩
        rw [hf1] at HZ HM HQ HF HW
        have hP1 : Pl n N f1 := HP.out.same HF.out hb
        have HP1 := Lib.hid hP1
        have HF1 := Lib.hid hf1
        clear hP1 hf1
        by_cases z1 : (s : Int) < (m : Int) ∧ (m : Int) < (e : Int)
        · obtain ⟨z1, z2⟩ := z1
          go_upto_region 41 with (first | (go_at_call 141; refine (HW.out wr hR hG (by omega) (by omega)).mono ?_; rintro e' W1 ⟨⟨v1, rfl⟩, hR1, hG1⟩))
          clear hR hG
          by_cases y1 : (a : Int) < (s : Int)
          · skip
            by_cases y2 : (s : Int) < (mid : Int)
            · skip
              go_upto_region 43 with (first | (go_at_call 138; refine (HIH.out W1 f1 a s mid (by omega) hR1 (HC.out.grown hG1) HP1.out (by omega) (by omega) (by omega) HM.out.1 HM.out.2.1 HQ.out.1).mono ?_; rintro e' W2 ⟨⟨v2, rfl⟩, f2, hR2, hS2, hT2, hG2⟩))
              have hG3 := grown_trans hG1 hG2
              have HS2 := Lib.hid hS2
              have HT2 := Lib.hid hT2
              clear hR1 hG1 hG2 hS2 hT2
              by_cases x1 : (mid : Int) < (e : Int)
              · skip
                by_cases x2 : (e : Int) < (b : Int)
                · skip
                  go_wp2_with (first | (go_at_call 138; refine (HIH.out W2 f2 mid e b (by omega) hR2 (HC.out.grown hG3) (HP1.out.same HS2.out (by omega)) (by omega) (by omega) hb (HM.out.2.2.1.out HS2.out (.inr (Nat.le_refl _))) (HM.out.2.2.2.1.out HS2.out (.inr q7)) (fun i j i1 i2 j1 j2 => by rw [HS2.out.out i (by omega), HS2.out.out j (by omega)]; exact HQ.out.2 i j i1 i2 j1 j2)).mono ?_; rintro e' W3 ⟨⟨v3, rfl⟩, f3, hR3, hS3, hT3, hG4⟩))
                  go_end0
                  have hFin := merge_fin HF.out HS2.out hS3 HT2.out hT3 HM.out.2.2.2.2 (by omega) (by omega)
                  exact ⟨⟨_, rfl⟩, f3, hR3, hFin.1, hFin.2, grown_trans hG3 hG4⟩
                · skip
                  go_wp2
                  go_end0
                  have hT3 : Srt wt f2 mid b := srt_half (HM.out.2.2.1.out HS2.out (.inr (Nat.le_refl _))) (HM.out.2.2.2.1.out HS2.out (.inr q7)) q7 q4 (by omega)
                  have hFin := merge_fin HF.out HS2.out (SameOn.refl f2 mid b) HT2.out hT3 HM.out.2.2.2.2 (by omega) (by omega)
                  exact ⟨⟨_, rfl⟩, f2, hR2, hFin.1, hFin.2, hG3⟩
              · skip
                go_wp2
                go_end0
                have hT3 : Srt wt f2 mid b := srt_half (HM.out.2.2.1.out HS2.out (.inr (Nat.le_refl _))) (HM.out.2.2.2.1.out HS2.out (.inr q7)) q7 q4 (by omega)
                have hFin := merge_fin HF.out HS2.out (SameOn.refl f2 mid b) HT2.out hT3 HM.out.2.2.2.2 (by omega) (by omega)
                exact ⟨⟨_, rfl⟩, f2, hR2, hFin.1, hFin.2, hG3⟩
            · skip
              go_upto_region 43 with fail
              have HS2 : Hid (SameOn f1 f1 a mid) := Lib.hid (SameOn.refl _ _ _)
              have HT2 : Hid (Srt wt f1 a mid) := Lib.hid (srt_half HM.out.1 HM.out.2.1 q1 q6 (by omega))
              have hR2 := hR1
              have hG3 := hG1
              clear hR1 hG1
              by_cases x1 : (mid : Int) < (e : Int)
              · skip
                by_cases x2 : (e : Int) < (b : Int)
                · skip
                  go_wp2_with (first | (go_at_call 138; refine (HIH.out W1 f1 mid e b (by omega) hR2 (HC.out.grown hG3) (HP1.out.same HS2.out (by omega)) (by omega) (by omega) hb (HM.out.2.2.1.out HS2.out (.inr (Nat.le_refl _))) (HM.out.2.2.2.1.out HS2.out (.inr q7)) (fun i j i1 i2 j1 j2 => by rw [HS2.out.out i (by omega), HS2.out.out j (by omega)]; exact HQ.out.2 i j i1 i2 j1 j2)).mono ?_; rintro e' W3 ⟨⟨v3, rfl⟩, f3, hR3, hS3, hT3, hG4⟩))
                  go_end0
                  have hFin := merge_fin HF.out HS2.out hS3 HT2.out hT3 HM.out.2.2.2.2 (by omega) (by omega)
                  exact ⟨⟨_, rfl⟩, f3, hR3, hFin.1, hFin.2, grown_trans hG3 hG4⟩
                · skip
                  go_wp2
                  go_end0
                  have hT3 : Srt wt f1 mid b := srt_half (HM.out.2.2.1.out HS2.out (.inr (Nat.le_refl _))) (HM.out.2.2.2.1.out HS2.out (.inr q7)) q7 q4 (by omega)
                  have hFin := merge_fin HF.out HS2.out (SameOn.refl f1 mid b) HT2.out hT3 HM.out.2.2.2.2 (by omega) (by omega)
                  exact ⟨⟨_, rfl⟩, f1, hR2, hFin.1, hFin.2, hG3⟩
              · skip
                go_wp2
                go_end0
                have hT3 : Srt wt f1 mid b := srt_half (HM.out.2.2.1.out HS2.out (.inr (Nat.le_refl _))) (HM.out.2.2.2.1.out HS2.out (.inr q7)) q7 q4 (by omega)
                have hFin := merge_fin HF.out HS2.out (SameOn.refl f1 mid b) HT2.out hT3 HM.out.2.2.2.2 (by omega) (by omega)
                exact ⟨⟨_, rfl⟩, f1, hR2, hFin.1, hFin.2, hG3⟩
          · skip
            go_upto_region 43 with fail
            have HS2 : Hid (SameOn f1 f1 a mid) := Lib.hid (SameOn.refl _ _ _)
            have HT2 : Hid (Srt wt f1 a mid) := Lib.hid (srt_half HM.out.1 HM.out.2.1 q1 q6 (by omega))
            have hR2 := hR1
            have hG3 := hG1
            clear hR1 hG1
            by_cases x1 : (mid : Int) < (e : Int)
            · skip
              by_cases x2 : (e : Int) < (b : Int)
              · skip
                go_wp2_with (first | (go_at_call 138; refine (HIH.out W1 f1 mid e b (by omega) hR2 (HC.out.grown hG3) (HP1.out.same HS2.out (by omega)) (by omega) (by omega) hb (HM.out.2.2.1.out HS2.out (.inr (Nat.le_refl _))) (HM.out.2.2.2.1.out HS2.out (.inr q7)) (fun i j i1 i2 j1 j2 => by rw [HS2.out.out i (by omega), HS2.out.out j (by omega)]; exact HQ.out.2 i j i1 i2 j1 j2)).mono ?_; rintro e' W3 ⟨⟨v3, rfl⟩, f3, hR3, hS3, hT3, hG4⟩))
                go_end0
                have hFin := merge_fin HF.out HS2.out hS3 HT2.out hT3 HM.out.2.2.2.2 (by omega) (by omega)
                exact ⟨⟨_, rfl⟩, f3, hR3, hFin.1, hFin.2, grown_trans hG3 hG4⟩
              · skip
                go_wp2
                go_end0
                have hT3 : Srt wt f1 mid b := srt_half (HM.out.2.2.1.out HS2.out (.inr (Nat.le_refl _))) (HM.out.2.2.2.1.out HS2.out (.inr q7)) q7 q4 (by omega)
                have hFin := merge_fin HF.out HS2.out (SameOn.refl f1 mid b) HT2.out hT3 HM.out.2.2.2.2 (by omega) (by omega)
                exact ⟨⟨_, rfl⟩, f1, hR2, hFin.1, hFin.2, hG3⟩
            · skip
              go_wp2
              go_end0
              have hT3 : Srt wt f1 mid b := srt_half (HM.out.2.2.1.out HS2.out (.inr (Nat.le_refl _))) (HM.out.2.2.2.1.out HS2.out (.inr q7)) q7 q4 (by omega)
              have hFin := merge_fin HF.out HS2.out (SameOn.refl f1 mid b) HT2.out hT3 HM.out.2.2.2.2 (by omega) (by omega)
              exact ⟨⟨_, rfl⟩, f1, hR2, hFin.1, hFin.2, hG3⟩
        · have hz := HZ.out (by omega)
          have hR1 : Rw R wr g n f1 := by rw [hz]; exact hR
          have hG1 := hG
          clear hR hG hz
          have g7 : (s : Int) < (m : Int) → decide ((m : Int) < (e : Int)) = false := fun h => by simp; omega
          by_cases z1 : (s : Int) < (m : Int)
          · have z2 : ¬ ((m : Int) < (e : Int)) := by omega
            clear g7
            go_upto_region 41 with fail
            by_cases y1 : (a : Int) < (s : Int)
            · skip
              by_cases y2 : (s : Int) < (mid : Int)
              · skip
                go_upto_region 43 with (first | (go_at_call 138; refine (HIH.out wr f1 a s mid (by omega) hR1 (HC.out.grown hG1) HP1.out (by omega) (by omega) (by omega) HM.out.1 HM.out.2.1 HQ.out.1).mono ?_; rintro e' W2 ⟨⟨v2, rfl⟩, f2, hR2, hS2, hT2, hG2⟩))
                have hG3 := grown_trans hG1 hG2
                have HS2 := Lib.hid hS2
                have HT2 := Lib.hid hT2
                clear hR1 hG1 hG2 hS2 hT2
                by_cases x1 : (mid : Int) < (e : Int)
                · skip
                  by_cases x2 : (e : Int) < (b : Int)
                  · skip
                    go_wp2_with (first | (go_at_call 138; refine (HIH.out W2 f2 mid e b (by omega) hR2 (HC.out.grown hG3) (HP1.out.same HS2.out (by omega)) (by omega) (by omega) hb (HM.out.2.2.1.out HS2.out (.inr (Nat.le_refl _))) (HM.out.2.2.2.1.out HS2.out (.inr q7)) (fun i j i1 i2 j1 j2 => by rw [HS2.out.out i (by omega), HS2.out.out j (by omega)]; exact HQ.out.2 i j i1 i2 j1 j2)).mono ?_; rintro e' W3 ⟨⟨v3, rfl⟩, f3, hR3, hS3, hT3, hG4⟩))
                    go_end0
                    have hFin := merge_fin HF.out HS2.out hS3 HT2.out hT3 HM.out.2.2.2.2 (by omega) (by omega)
                    exact ⟨⟨_, rfl⟩, f3, hR3, hFin.1, hFin.2, grown_trans hG3 hG4⟩
                  · skip
                    go_wp2
                    go_end0
                    have hT3 : Srt wt f2 mid b := srt_half (HM.out.2.2.1.out HS2.out (.inr (Nat.le_refl _))) (HM.out.2.2.2.1.out HS2.out (.inr q7)) q7 q4 (by omega)
                    have hFin := merge_fin HF.out HS2.out (SameOn.refl f2 mid b) HT2.out hT3 HM.out.2.2.2.2 (by omega) (by omega)
                    exact ⟨⟨_, rfl⟩, f2, hR2, hFin.1, hFin.2, hG3⟩
                · skip
                  go_wp2
                  go_end0
                  have hT3 : Srt wt f2 mid b := srt_half (HM.out.2.2.1.out HS2.out (.inr (Nat.le_refl _))) (HM.out.2.2.2.1.out HS2.out (.inr q7)) q7 q4 (by omega)
                  have hFin := merge_fin HF.out HS2.out (SameOn.refl f2 mid b) HT2.out hT3 HM.out.2.2.2.2 (by omega) (by omega)
                  exact ⟨⟨_, rfl⟩, f2, hR2, hFin.1, hFin.2, hG3⟩
              · skip
                go_upto_region 43 with fail
                have HS2 : Hid (SameOn f1 f1 a mid) := Lib.hid (SameOn.refl _ _ _)
                have HT2 : Hid (Srt wt f1 a mid) := Lib.hid (srt_half HM.out.1 HM.out.2.1 q1 q6 (by omega))
                have hR2 := hR1
                have hG3 := hG1
                clear hR1 hG1
                by_cases x1 : (mid : Int) < (e : Int)
                · skip
                  by_cases x2 : (e : Int) < (b : Int)
                  · skip
                    go_wp2_with (first | (go_at_call 138; refine (HIH.out wr f1 mid e b (by omega) hR2 (HC.out.grown hG3) (HP1.out.same HS2.out (by omega)) (by omega) (by omega) hb (HM.out.2.2.1.out HS2.out (.inr (Nat.le_refl _))) (HM.out.2.2.2.1.out HS2.out (.inr q7)) (fun i j i1 i2 j1 j2 => by rw [HS2.out.out i (by omega), HS2.out.out j (by omega)]; exact HQ.out.2 i j i1 i2 j1 j2)).mono ?_; rintro e' W3 ⟨⟨v3, rfl⟩, f3, hR3, hS3, hT3, hG4⟩))
                    go_end0
                    have hFin := merge_fin HF.out HS2.out hS3 HT2.out hT3 HM.out.2.2.2.2 (by omega) (by omega)
                    exact ⟨⟨_, rfl⟩, f3, hR3, hFin.1, hFin.2, grown_trans hG3 hG4⟩
                  · skip
                    go_wp2
                    go_end0
                    have hT3 : Srt wt f1 mid b := srt_half (HM.out.2.2.1.out HS2.out (.inr (Nat.le_refl _))) (HM.out.2.2.2.1.out HS2.out (.inr q7)) q7 q4 (by omega)
                    have hFin := merge_fin HF.out HS2.out (SameOn.refl f1 mid b) HT2.out hT3 HM.out.2.2.2.2 (by omega) (by omega)
                    exact ⟨⟨_, rfl⟩, f1, hR2, hFin.1, hFin.2, hG3⟩
                · skip
                  go_wp2
                  go_end0
                  have hT3 : Srt wt f1 mid b := srt_half (HM.out.2.2.1.out HS2.out (.inr (Nat.le_refl _))) (HM.out.2.2.2.1.out HS2.out (.inr q7)) q7 q4 (by omega)
                  have hFin := merge_fin HF.out HS2.out (SameOn.refl f1 mid b) HT2.out hT3 HM.out.2.2.2.2 (by omega) (by omega)
                  exact ⟨⟨_, rfl⟩, f1, hR2, hFin.1, hFin.2, hG3⟩
            · skip
              go_upto_region 43 with fail
              have HS2 : Hid (SameOn f1 f1 a mid) := Lib.hid (SameOn.refl _ _ _)
              have HT2 : Hid (Srt wt f1 a mid) := Lib.hid (srt_half HM.out.1 HM.out.2.1 q1 q6 (by omega))
              have hR2 := hR1
              have hG3 := hG1
              clear hR1 hG1
              by_cases x1 : (mid : Int) < (e : Int)
              · skip
                by_cases x2 : (e : Int) < (b : Int)
                · skip
                  go_wp2_with (first | (go_at_call 138; refine (HIH.out wr f1 mid e b (by omega) hR2 (HC.out.grown hG3) (HP1.out.same HS2.out (by omega)) (by omega) (by omega) hb (HM.out.2.2.1.out HS2.out (.inr (Nat.le_refl _))) (HM.out.2.2.2.1.out HS2.out (.inr q7)) (fun i j i1 i2 j1 j2 => by rw [HS2.out.out i (by omega), HS2.out.out j (by omega)]; exact HQ.out.2 i j i1 i2 j1 j2)).mono ?_; rintro e' W3 ⟨⟨v3, rfl⟩, f3, hR3, hS3, hT3, hG4⟩))
                  go_end0
                  have hFin := merge_fin HF.out HS2.out hS3 HT2.out hT3 HM.out.2.2.2.2 (by omega) (by omega)
                  exact ⟨⟨_, rfl⟩, f3, hR3, hFin.1, hFin.2, grown_trans hG3 hG4⟩
                · skip
                  go_wp2
                  go_end0
                  have hT3 : Srt wt f1 mid b := srt_half (HM.out.2.2.1.out HS2.out (.inr (Nat.le_refl _))) (HM.out.2.2.2.1.out HS2.out (.inr q7)) q7 q4 (by omega)
                  have hFin := merge_fin HF.out HS2.out (SameOn.refl f1 mid b) HT2.out hT3 HM.out.2.2.2.2 (by omega) (by omega)
                  exact ⟨⟨_, rfl⟩, f1, hR2, hFin.1, hFin.2, hG3⟩
              · skip
                go_wp2
                go_end0
                have hT3 : Srt wt f1 mid b := srt_half (HM.out.2.2.1.out HS2.out (.inr (Nat.le_refl _))) (HM.out.2.2.2.1.out HS2.out (.inr q7)) q7 q4 (by omega)
                have hFin := merge_fin HF.out HS2.out (SameOn.refl f1 mid b) HT2.out hT3 HM.out.2.2.2.2 (by omega) (by omega)
                exact ⟨⟨_, rfl⟩, f1, hR2, hFin.1, hFin.2, hG3⟩
          · skip
            clear g7
            go_upto_region 41 with fail
            by_cases y1 : (a : Int) < (s : Int)
            · skip
              by_cases y2 : (s : Int) < (mid : Int)
              · skip
                go_upto_region 43 with (first | (go_at_call 138; refine (HIH.out wr f1 a s mid (by omega) hR1 (HC.out.grown hG1) HP1.out (by omega) (by omega) (by omega) HM.out.1 HM.out.2.1 HQ.out.1).mono ?_; rintro e' W2 ⟨⟨v2, rfl⟩, f2, hR2, hS2, hT2, hG2⟩))
                have hG3 := grown_trans hG1 hG2
                have HS2 := Lib.hid hS2
                have HT2 := Lib.hid hT2
                clear hR1 hG1 hG2 hS2 hT2
                by_cases x1 : (mid : Int) < (e : Int)
                · skip
                  by_cases x2 : (e : Int) < (b : Int)
                  · skip
                    go_wp2_with (first | (go_at_call 138; refine (HIH.out W2 f2 mid e b (by omega) hR2 (HC.out.grown hG3) (HP1.out.same HS2.out (by omega)) (by omega) (by omega) hb (HM.out.2.2.1.out HS2.out (.inr (Nat.le_refl _))) (HM.out.2.2.2.1.out HS2.out (.inr q7)) (fun i j i1 i2 j1 j2 => by rw [HS2.out.out i (by omega), HS2.out.out j (by omega)]; exact HQ.out.2 i j i1 i2 j1 j2)).mono ?_; rintro e' W3 ⟨⟨v3, rfl⟩, f3, hR3, hS3, hT3, hG4⟩))
                    go_end0
                    have hFin := merge_fin HF.out HS2.out hS3 HT2.out hT3 HM.out.2.2.2.2 (by omega) (by omega)
                    exact ⟨⟨_, rfl⟩, f3, hR3, hFin.1, hFin.2, grown_trans hG3 hG4⟩
                  · skip
                    go_wp2
                    go_end0
                    have hT3 : Srt wt f2 mid b := srt_half (HM.out.2.2.1.out HS2.out (.inr (Nat.le_refl _))) (HM.out.2.2.2.1.out HS2.out (.inr q7)) q7 q4 (by omega)
                    have hFin := merge_fin HF.out HS2.out (SameOn.refl f2 mid b) HT2.out hT3 HM.out.2.2.2.2 (by omega) (by omega)
                    exact ⟨⟨_, rfl⟩, f2, hR2, hFin.1, hFin.2, hG3⟩
                · skip
                  go_wp2
                  go_end0
                  have hT3 : Srt wt f2 mid b := srt_half (HM.out.2.2.1.out HS2.out (.inr (Nat.le_refl _))) (HM.out.2.2.2.1.out HS2.out (.inr q7)) q7 q4 (by omega)
                  have hFin := merge_fin HF.out HS2.out (SameOn.refl f2 mid b) HT2.out hT3 HM.out.2.2.2.2 (by omega) (by omega)
                  exact ⟨⟨_, rfl⟩, f2, hR2, hFin.1, hFin.2, hG3⟩
              · skip
                go_upto_region 43 with fail
                have HS2 : Hid (SameOn f1 f1 a mid) := Lib.hid (SameOn.refl _ _ _)
                have HT2 : Hid (Srt wt f1 a mid) := Lib.hid (srt_half HM.out.1 HM.out.2.1 q1 q6 (by omega))
                have hR2 := hR1
                have hG3 := hG1
                clear hR1 hG1
                by_cases x1 : (mid : Int) < (e : Int)
                · skip
                  by_cases x2 : (e : Int) < (b : Int)
                  · skip
                    go_wp2_with (first | (go_at_call 138; refine (HIH.out wr f1 mid e b (by omega) hR2 (HC.out.grown hG3) (HP1.out.same HS2.out (by omega)) (by omega) (by omega) hb (HM.out.2.2.1.out HS2.out (.inr (Nat.le_refl _))) (HM.out.2.2.2.1.out HS2.out (.inr q7)) (fun i j i1 i2 j1 j2 => by rw [HS2.out.out i (by omega), HS2.out.out j (by omega)]; exact HQ.out.2 i j i1 i2 j1 j2)).mono ?_; rintro e' W3 ⟨⟨v3, rfl⟩, f3, hR3, hS3, hT3, hG4⟩))
                    go_end0
                    have hFin := merge_fin HF.out HS2.out hS3 HT2.out hT3 HM.out.2.2.2.2 (by omega) (by omega)
                    exact ⟨⟨_, rfl⟩, f3, hR3, hFin.1, hFin.2, grown_trans hG3 hG4⟩
                  · skip
                    go_wp2
                    go_end0
                    have hT3 : Srt wt f1 mid b := srt_half (HM.out.2.2.1.out HS2.out (.inr (Nat.le_refl _))) (HM.out.2.2.2.1.out HS2.out (.inr q7)) q7 q4 (by omega)
                    have hFin := merge_fin HF.out HS2.out (SameOn.refl f1 mid b) HT2.out hT3 HM.out.2.2.2.2 (by omega) (by omega)
                    exact ⟨⟨_, rfl⟩, f1, hR2, hFin.1, hFin.2, hG3⟩
                · skip
                  go_wp2
                  go_end0
                  have hT3 : Srt wt f1 mid b := srt_half (HM.out.2.2.1.out HS2.out (.inr (Nat.le_refl _))) (HM.out.2.2.2.1.out HS2.out (.inr q7)) q7 q4 (by omega)
                  have hFin := merge_fin HF.out HS2.out (SameOn.refl f1 mid b) HT2.out hT3 HM.out.2.2.2.2 (by omega) (by omega)
                  exact ⟨⟨_, rfl⟩, f1, hR2, hFin.1, hFin.2, hG3⟩
            · skip
              go_upto_region 43 with fail
              have HS2 : Hid (SameOn f1 f1 a mid) := Lib.hid (SameOn.refl _ _ _)
              have HT2 : Hid (Srt wt f1 a mid) := Lib.hid (srt_half HM.out.1 HM.out.2.1 q1 q6 (by omega))
              have hR2 := hR1
              have hG3 := hG1
              clear hR1 hG1
              by_cases x1 : (mid : Int) < (e : Int)
              · skip
                by_cases x2 : (e : Int) < (b : Int)
                · skip
                  go_wp2_with (first | (go_at_call 138; refine (HIH.out wr f1 mid e b (by omega) hR2 (HC.out.grown hG3) (HP1.out.same HS2.out (by omega)) (by omega) (by omega) hb (HM.out.2.2.1.out HS2.out (.inr (Nat.le_refl _))) (HM.out.2.2.2.1.out HS2.out (.inr q7)) (fun i j i1 i2 j1 j2 => by rw [HS2.out.out i (by omega), HS2.out.out j (by omega)]; exact HQ.out.2 i j i1 i2 j1 j2)).mono ?_; rintro e' W3 ⟨⟨v3, rfl⟩, f3, hR3, hS3, hT3, hG4⟩))
                  go_end0
                  have hFin := merge_fin HF.out HS2.out hS3 HT2.out hT3 HM.out.2.2.2.2 (by omega) (by omega)
                  exact ⟨⟨_, rfl⟩, f3, hR3, hFin.1, hFin.2, grown_trans hG3 hG4⟩
                · skip
                  go_wp2
                  go_end0
                  have hT3 : Srt wt f1 mid b := srt_half (HM.out.2.2.1.out HS2.out (.inr (Nat.le_refl _))) (HM.out.2.2.2.1.out HS2.out (.inr q7)) q7 q4 (by omega)
                  have hFin := merge_fin HF.out HS2.out (SameOn.refl f1 mid b) HT2.out hT3 HM.out.2.2.2.2 (by omega) (by omega)
                  exact ⟨⟨_, rfl⟩, f1, hR2, hFin.1, hFin.2, hG3⟩
              · skip
                go_wp2
                go_end0
                have hT3 : Srt wt f1 mid b := srt_half (HM.out.2.2.1.out HS2.out (.inr (Nat.le_refl _))) (HM.out.2.2.2.1.out HS2.out (.inr q7)) q7 q4 (by omega)
                have hFin := merge_fin HF.out HS2.out (SameOn.refl f1 mid b) HT2.out hT3 HM.out.2.2.2.2 (by omega) (by omega)
                exact ⟨⟨_, rfl⟩, f1, hR2, hFin.1, hFin.2, hG3⟩
  · skip
    go_wp2_with fail
    go_loopw [20, 21, 23] (fun x y z wr => ∃ (s r : Nat), a ≤ s ∧ s ≤ r ∧ r ≤ m ∧ x = .int .i64 s ∧ y = .int .i64 r ∧ Rw R wr g n f ∧ (∀ k e, s = k + 1 → s + e = s2 → a < s → Ltw wt (f k) (f e)) ∧ (∀ e, r + e + 1 = s2 → r < m → Ltw wt (f e) (f r)) ∧ w.grownBy wr (some g)) (fun x y _ _ => (intOf y).toNat - (intOf x).toNat)
    case atStart => exact ⟨a, m, by omega, by omega, by omega, rfl, rfl, hR, fun k e _ _ h => by omega, fun e _ h => by omega, grown_refl _ _⟩
    case round =>
      clear hR
      obtain ⟨s, r, hs, hsr, hr, rfl, rfl, hR, hD, hU, hG⟩ := hrel
      have HD := Lib.hid hD
      have HU := Lib.hid hU
      clear hD hU
      by_cases hlt : (s : Int) < (r : Int)
      · obtain ⟨sr, hsr2⟩ : ∃ x : Nat, (s : Int) + r = x := ⟨s + r, by omega⟩
        obtain ⟨c, hc⟩ : ∃ t : Nat, (sr : Int) / 2 = t := ⟨sr / 2, by omega⟩
        obtain ⟨pc, hpc⟩ : ∃ t : Nat, (p : Int) - c = t := ⟨p - c, by omega⟩
        obtain ⟨c1, hc1⟩ : ∃ t : Nat, (c : Int) + 1 = t := ⟨c + 1, by omega⟩
        have hwp : IntKind.i64.wrap ((p : Int) - (c : Int)) = (pc : Int) := by rw [hpc]; exact IntWalk.i64_in _ (by omega)
        have t1 : s ≤ c := by omega
        have t2 : c < r := by omega
        have t3 : m ≤ pc := by omega
        have t4 : pc < b := by omega
        have t5 : c < m := by omega
        have t6 : a ≤ c := by omega
        have ct := hR.cell (i := c) (by omega)
        have ca := hR.cell (i := pc) (by omega)
        have i1 : (c : Int) < (n : Int) := by omega
        have i2 : (pc : Int) < (n : Int) := by omega
        have hlo := HL.out c pc t6 t5 t3 t4
        have HLO := Lib.hid hlo
        clear hlo
        obtain ⟨D, hDD⟩ : ∃ D, wt (f pc) - wt (f c) = D := ⟨_, rfl⟩
        have HDD := Lib.hid hDD
        clear hDD
        have hK : ∀ q, Calls Tryz.prog 126 #[.int .i64 (f pc), .int .i64 (f c), .pointer (some ⟨pb, 0, none⟩)] (wr.drewN q) fun e w'' => e = .returned (.int .i64 D) ∧ ∃ d, w'' = (wr.drewN q).drewN d := fun q =>
          HC.out _ (grown_drewN hG q) _ _ D (HP.out pc (by omega)).1 (HP.out pc (by omega)).2 (HP.out c (by omega)).1 (HP.out c (by omega)).2 HDD.out
        have HK := Lib.hid hK
        clear hK
        by_cases hd : D < 0
        · have g2 : decide (D < 0) = true := by simp; omega
          go_wp2_with fail
          go_quiet ((go_at_call 126; exact quiet_dr (HK.out _)))
          go_wp2
          go_roundw
          case rel =>
            have hx : Ltw wt (f pc) (f c) := (ltw_lo HLO.out).1 (by have := HDD.out; omega)
            refine ⟨s, c, hs, t1, by omega, rfl, rfl, hR.drewN _, HD.out, fun e he _ => ?_, grown_drewN hG _⟩
            have e1 : e = pc := by omega
            rw [e1]; exact hx
          case measure => simp [intOf]; omega
        · have g2 : decide (D < 0) = false := by simp; omega
          go_wp2_with fail
          go_quiet ((go_at_call 126; exact quiet_dr (HK.out _)))
          go_wp2
          go_roundw
          case rel =>
            have hx : Ltw wt (f c) (f pc) := Ltw.total (fun hx => by have h1 := (ltw_lo HLO.out).2 hx; have h2 := HDD.out; omega) (by have := HLO.out; omega)
            refine ⟨c1, r, by omega, by omega, hr, rfl, rfl, hR.drewN _, fun k e hk he _ => ?_, HU.out, grown_drewN hG _⟩
            have e1 : e = pc := by omega
            have e2 : k = c := by omega
            rw [e1, e2]; exact hx
          case measure => simp [intOf]; omega
      · have hsr2 : s = r := by omega
        subst hsr2
        obtain ⟨e, he⟩ : ∃ e : Nat, (s2 : Int) - s = e := ⟨s2 - s, by omega⟩
        have q1 : a ≤ s := by omega
        have q2 : s ≤ m := by omega
        have q3 : m ≤ e := by omega
        have q4 : e ≤ b := by omega
        have q5 : s + (e - m) = mid := by omega
        have q6 : s ≤ mid := by omega
        have q7 : mid ≤ e := by omega
        have hM := merge_srt HSA.out HSB.out q1 q2 q3 q4 q5 (fun h1 h2 => HD.out (s - 1) e (by omega) (by omega) (by omega)) (fun h1 h2 => HU.out (e - 1) (by omega) (by omega))
        have hQ := rot_lo HL.out q1 q2 q3 q4 q5
        have hF : SameOn f (rot f s m e) a b := (rot_same f q2 q3).wide q1 q4
        have hZ : ¬ (s < m ∧ m < e) → rot f s m e = f := fun h => rot_none f (by omega) q2 q3
        have HZ := Lib.hid hZ
        have HM := Lib.hid hM
        have HQ := Lib.hid hQ
        have HF := Lib.hid hF
        have HW : Hid (∀ V, Rw R V g n f → w.grownBy V (some g) → s < m → m < e → Calls Tryz.prog 141 #[.slice (some ⟨g, 0, none⟩) n cap, .int .i64 s, .int .i64 m, .int .i64 e, .func (.func 126) #[] #[.pointer (some ⟨pb, 0, none⟩)]] V fun e' w' => (∃ r, e' = .returned r) ∧ Rw R w' g n (rot f s m e) ∧ w.grownBy w' (some g)) := Lib.hid (fun V hV hGV k1 k2 => (rotate_any V g n cap f s m e _ hV hn k1 k2 (by omega)).mono fun _ _ ⟨h1, h2, h3⟩ => ⟨h1, h2, grown_trans hGV h3⟩)
        clear hZ hM hQ hF HD HU
        obtain ⟨f1, hf1⟩ : ∃ f1, rot f s m e = f1 := ⟨_, rfl⟩
        rw [hf1] at HZ HM HQ HF HW
        have hP1 : Pl n N f1 := HP.out.same HF.out hb
        have HP1 := Lib.hid hP1
        have HF1 := Lib.hid hf1
        clear hP1 hf1
        by_cases z1 : (s : Int) < (m : Int) ∧ (m : Int) < (e : Int)
        · obtain ⟨z1, z2⟩ := z1
          go_upto_region 41 with (first | (go_at_call 141; refine (HW.out wr hR hG (by omega) (by omega)).mono ?_; rintro e' W1 ⟨⟨v1, rfl⟩, hR1, hG1⟩))
          clear hR hG
          by_cases y1 : (a : Int) < (s : Int)
          · skip
            by_cases y2 : (s : Int) < (mid : Int)
            · skip
              go_upto_region 43 with (first | (go_at_call 138; refine (HIH.out W1 f1 a s mid (by omega) hR1 (HC.out.grown hG1) HP1.out (by omega) (by omega) (by omega) HM.out.1 HM.out.2.1 HQ.out.1).mono ?_; rintro e' W2 ⟨⟨v2, rfl⟩, f2, hR2, hS2, hT2, hG2⟩))
              have hG3 := grown_trans hG1 hG2
              have HS2 := Lib.hid hS2
              have HT2 := Lib.hid hT2
              clear hR1 hG1 hG2 hS2 hT2
              by_cases x1 : (mid : Int) < (e : Int)
              · skip
                by_cases x2 : (e : Int) < (b : Int)
                · skip
                  go_wp2_with (first | (go_at_call 138; refine (HIH.out W2 f2 mid e b (by omega) hR2 (HC.out.grown hG3) (HP1.out.same HS2.out (by omega)) (by omega) (by omega) hb (HM.out.2.2.1.out HS2.out (.inr (Nat.le_refl _))) (HM.out.2.2.2.1.out HS2.out (.inr q7)) (fun i j i1 i2 j1 j2 => by rw [HS2.out.out i (by omega), HS2.out.out j (by omega)]; exact HQ.out.2 i j i1 i2 j1 j2)).mono ?_; rintro e' W3 ⟨⟨v3, rfl⟩, f3, hR3, hS3, hT3, hG4⟩))
                  go_end0
                  have hFin := merge_fin HF.out HS2.out hS3 HT2.out hT3 HM.out.2.2.2.2 (by omega) (by omega)
                  exact ⟨⟨_, rfl⟩, f3, hR3, hFin.1, hFin.2, grown_trans hG3 hG4⟩
                · skip
                  go_wp2
                  go_end0
                  have hT3 : Srt wt f2 mid b := srt_half (HM.out.2.2.1.out HS2.out (.inr (Nat.le_refl _))) (HM.out.2.2.2.1.out HS2.out (.inr q7)) q7 q4 (by omega)
                  have hFin := merge_fin HF.out HS2.out (SameOn.refl f2 mid b) HT2.out hT3 HM.out.2.2.2.2 (by omega) (by omega)
                  exact ⟨⟨_, rfl⟩, f2, hR2, hFin.1, hFin.2, hG3⟩
              · skip
                go_wp2
                go_end0
                have hT3 : Srt wt f2 mid b := srt_half (HM.out.2.2.1.out HS2.out (.inr (Nat.le_refl _))) (HM.out.2.2.2.1.out HS2.out (.inr q7)) q7 q4 (by omega)
                have hFin := merge_fin HF.out HS2.out (SameOn.refl f2 mid b) HT2.out hT3 HM.out.2.2.2.2 (by omega) (by omega)
                exact ⟨⟨_, rfl⟩, f2, hR2, hFin.1, hFin.2, hG3⟩
            · skip
              go_upto_region 43 with fail
              have HS2 : Hid (SameOn f1 f1 a mid) := Lib.hid (SameOn.refl _ _ _)
              have HT2 : Hid (Srt wt f1 a mid) := Lib.hid (srt_half HM.out.1 HM.out.2.1 q1 q6 (by omega))
              have hR2 := hR1
              have hG3 := hG1
              clear hR1 hG1
              by_cases x1 : (mid : Int) < (e : Int)
              · skip
                by_cases x2 : (e : Int) < (b : Int)
                · skip
                  go_wp2_with (first | (go_at_call 138; refine (HIH.out W1 f1 mid e b (by omega) hR2 (HC.out.grown hG3) (HP1.out.same HS2.out (by omega)) (by omega) (by omega) hb (HM.out.2.2.1.out HS2.out (.inr (Nat.le_refl _))) (HM.out.2.2.2.1.out HS2.out (.inr q7)) (fun i j i1 i2 j1 j2 => by rw [HS2.out.out i (by omega), HS2.out.out j (by omega)]; exact HQ.out.2 i j i1 i2 j1 j2)).mono ?_; rintro e' W3 ⟨⟨v3, rfl⟩, f3, hR3, hS3, hT3, hG4⟩))
                  go_end0
                  have hFin := merge_fin HF.out HS2.out hS3 HT2.out hT3 HM.out.2.2.2.2 (by omega) (by omega)
                  exact ⟨⟨_, rfl⟩, f3, hR3, hFin.1, hFin.2, grown_trans hG3 hG4⟩
                · skip
                  go_wp2
                  go_end0
                  have hT3 : Srt wt f1 mid b := srt_half (HM.out.2.2.1.out HS2.out (.inr (Nat.le_refl _))) (HM.out.2.2.2.1.out HS2.out (.inr q7)) q7 q4 (by omega)
                  have hFin := merge_fin HF.out HS2.out (SameOn.refl f1 mid b) HT2.out hT3 HM.out.2.2.2.2 (by omega) (by omega)
                  exact ⟨⟨_, rfl⟩, f1, hR2, hFin.1, hFin.2, hG3⟩
              · skip
                go_wp2
                go_end0
                have hT3 : Srt wt f1 mid b := srt_half (HM.out.2.2.1.out HS2.out (.inr (Nat.le_refl _))) (HM.out.2.2.2.1.out HS2.out (.inr q7)) q7 q4 (by omega)
                have hFin := merge_fin HF.out HS2.out (SameOn.refl f1 mid b) HT2.out hT3 HM.out.2.2.2.2 (by omega) (by omega)
                exact ⟨⟨_, rfl⟩, f1, hR2, hFin.1, hFin.2, hG3⟩
          · skip
            go_upto_region 43 with fail
            have HS2 : Hid (SameOn f1 f1 a mid) := Lib.hid (SameOn.refl _ _ _)
            have HT2 : Hid (Srt wt f1 a mid) := Lib.hid (srt_half HM.out.1 HM.out.2.1 q1 q6 (by omega))
            have hR2 := hR1
            have hG3 := hG1
            clear hR1 hG1
            by_cases x1 : (mid : Int) < (e : Int)
            · skip
              by_cases x2 : (e : Int) < (b : Int)
              · skip
                go_wp2_with (first | (go_at_call 138; refine (HIH.out W1 f1 mid e b (by omega) hR2 (HC.out.grown hG3) (HP1.out.same HS2.out (by omega)) (by omega) (by omega) hb (HM.out.2.2.1.out HS2.out (.inr (Nat.le_refl _))) (HM.out.2.2.2.1.out HS2.out (.inr q7)) (fun i j i1 i2 j1 j2 => by rw [HS2.out.out i (by omega), HS2.out.out j (by omega)]; exact HQ.out.2 i j i1 i2 j1 j2)).mono ?_; rintro e' W3 ⟨⟨v3, rfl⟩, f3, hR3, hS3, hT3, hG4⟩))
                go_end0
                have hFin := merge_fin HF.out HS2.out hS3 HT2.out hT3 HM.out.2.2.2.2 (by omega) (by omega)
                exact ⟨⟨_, rfl⟩, f3, hR3, hFin.1, hFin.2, grown_trans hG3 hG4⟩
              · skip
                go_wp2
                go_end0
                have hT3 : Srt wt f1 mid b := srt_half (HM.out.2.2.1.out HS2.out (.inr (Nat.le_refl _))) (HM.out.2.2.2.1.out HS2.out (.inr q7)) q7 q4 (by omega)
                have hFin := merge_fin HF.out HS2.out (SameOn.refl f1 mid b) HT2.out hT3 HM.out.2.2.2.2 (by omega) (by omega)
                exact ⟨⟨_, rfl⟩, f1, hR2, hFin.1, hFin.2, hG3⟩
            · skip
              go_wp2
              go_end0
              have hT3 : Srt wt f1 mid b := srt_half (HM.out.2.2.1.out HS2.out (.inr (Nat.le_refl _))) (HM.out.2.2.2.1.out HS2.out (.inr q7)) q7 q4 (by omega)
              have hFin := merge_fin HF.out HS2.out (SameOn.refl f1 mid b) HT2.out hT3 HM.out.2.2.2.2 (by omega) (by omega)
              exact ⟨⟨_, rfl⟩, f1, hR2, hFin.1, hFin.2, hG3⟩
        · have hz := HZ.out (by omega)
          have hR1 : Rw R wr g n f1 := by rw [hz]; exact hR
          have hG1 := hG
          clear hR hG hz
          have g7 : (s : Int) < (m : Int) → decide ((m : Int) < (e : Int)) = false := fun h => by simp; omega
          by_cases z1 : (s : Int) < (m : Int)
          · have z2 : ¬ ((m : Int) < (e : Int)) := by omega
            clear g7
            go_upto_region 41 with fail
            by_cases y1 : (a : Int) < (s : Int)
            · skip
              by_cases y2 : (s : Int) < (mid : Int)
              · skip
                go_upto_region 43 with (first | (go_at_call 138; refine (HIH.out wr f1 a s mid (by omega) hR1 (HC.out.grown hG1) HP1.out (by omega) (by omega) (by omega) HM.out.1 HM.out.2.1 HQ.out.1).mono ?_; rintro e' W2 ⟨⟨v2, rfl⟩, f2, hR2, hS2, hT2, hG2⟩))
                have hG3 := grown_trans hG1 hG2
                have HS2 := Lib.hid hS2
                have HT2 := Lib.hid hT2
                clear hR1 hG1 hG2 hS2 hT2
                by_cases x1 : (mid : Int) < (e : Int)
                · skip
                  by_cases x2 : (e : Int) < (b : Int)
                  · skip
                    go_wp2_with (first | (go_at_call 138; refine (HIH.out W2 f2 mid e b (by omega) hR2 (HC.out.grown hG3) (HP1.out.same HS2.out (by omega)) (by omega) (by omega) hb (HM.out.2.2.1.out HS2.out (.inr (Nat.le_refl _))) (HM.out.2.2.2.1.out HS2.out (.inr q7)) (fun i j i1 i2 j1 j2 => by rw [HS2.out.out i (by omega), HS2.out.out j (by omega)]; exact HQ.out.2 i j i1 i2 j1 j2)).mono ?_; rintro e' W3 ⟨⟨v3, rfl⟩, f3, hR3, hS3, hT3, hG4⟩))
                    go_end0
                    have hFin := merge_fin HF.out HS2.out hS3 HT2.out hT3 HM.out.2.2.2.2 (by omega) (by omega)
                    exact ⟨⟨_, rfl⟩, f3, hR3, hFin.1, hFin.2, grown_trans hG3 hG4⟩
                  · skip
                    go_wp2
                    go_end0
                    have hT3 : Srt wt f2 mid b := srt_half (HM.out.2.2.1.out HS2.out (.inr (Nat.le_refl _))) (HM.out.2.2.2.1.out HS2.out (.inr q7)) q7 q4 (by omega)
                    have hFin := merge_fin HF.out HS2.out (SameOn.refl f2 mid b) HT2.out hT3 HM.out.2.2.2.2 (by omega) (by omega)
                    exact ⟨⟨_, rfl⟩, f2, hR2, hFin.1, hFin.2, hG3⟩
                · skip
                  go_wp2
                  go_end0
                  have hT3 : Srt wt f2 mid b := srt_half (HM.out.2.2.1.out HS2.out (.inr (Nat.le_refl _))) (HM.out.2.2.2.1.out HS2.out (.inr q7)) q7 q4 (by omega)
                  have hFin := merge_fin HF.out HS2.out (SameOn.refl f2 mid b) HT2.out hT3 HM.out.2.2.2.2 (by omega) (by omega)
                  exact ⟨⟨_, rfl⟩, f2, hR2, hFin.1, hFin.2, hG3⟩
              · skip
                go_upto_region 43 with fail
                have HS2 : Hid (SameOn f1 f1 a mid) := Lib.hid (SameOn.refl _ _ _)
                have HT2 : Hid (Srt wt f1 a mid) := Lib.hid (srt_half HM.out.1 HM.out.2.1 q1 q6 (by omega))
                have hR2 := hR1
                have hG3 := hG1
                clear hR1 hG1
                by_cases x1 : (mid : Int) < (e : Int)
                · skip
                  by_cases x2 : (e : Int) < (b : Int)
                  · skip
                    go_wp2_with (first | (go_at_call 138; refine (HIH.out wr f1 mid e b (by omega) hR2 (HC.out.grown hG3) (HP1.out.same HS2.out (by omega)) (by omega) (by omega) hb (HM.out.2.2.1.out HS2.out (.inr (Nat.le_refl _))) (HM.out.2.2.2.1.out HS2.out (.inr q7)) (fun i j i1 i2 j1 j2 => by rw [HS2.out.out i (by omega), HS2.out.out j (by omega)]; exact HQ.out.2 i j i1 i2 j1 j2)).mono ?_; rintro e' W3 ⟨⟨v3, rfl⟩, f3, hR3, hS3, hT3, hG4⟩))
                    go_end0
                    have hFin := merge_fin HF.out HS2.out hS3 HT2.out hT3 HM.out.2.2.2.2 (by omega) (by omega)
                    exact ⟨⟨_, rfl⟩, f3, hR3, hFin.1, hFin.2, grown_trans hG3 hG4⟩
                  · skip
                    go_wp2
                    go_end0
                    have hT3 : Srt wt f1 mid b := srt_half (HM.out.2.2.1.out HS2.out (.inr (Nat.le_refl _))) (HM.out.2.2.2.1.out HS2.out (.inr q7)) q7 q4 (by omega)
                    have hFin := merge_fin HF.out HS2.out (SameOn.refl f1 mid b) HT2.out hT3 HM.out.2.2.2.2 (by omega) (by omega)
                    exact ⟨⟨_, rfl⟩, f1, hR2, hFin.1, hFin.2, hG3⟩
                · skip
                  go_wp2
                  go_end0
                  have hT3 : Srt wt f1 mid b := srt_half (HM.out.2.2.1.out HS2.out (.inr (Nat.le_refl _))) (HM.out.2.2.2.1.out HS2.out (.inr q7)) q7 q4 (by omega)
                  have hFin := merge_fin HF.out HS2.out (SameOn.refl f1 mid b) HT2.out hT3 HM.out.2.2.2.2 (by omega) (by omega)
                  exact ⟨⟨_, rfl⟩, f1, hR2, hFin.1, hFin.2, hG3⟩
            · skip
              go_upto_region 43 with fail
              have HS2 : Hid (SameOn f1 f1 a mid) := Lib.hid (SameOn.refl _ _ _)
              have HT2 : Hid (Srt wt f1 a mid) := Lib.hid (srt_half HM.out.1 HM.out.2.1 q1 q6 (by omega))
              have hR2 := hR1
              have hG3 := hG1
              clear hR1 hG1
              by_cases x1 : (mid : Int) < (e : Int)
              · skip
                by_cases x2 : (e : Int) < (b : Int)
                · skip
                  go_wp2_with (first | (go_at_call 138; refine (HIH.out wr f1 mid e b (by omega) hR2 (HC.out.grown hG3) (HP1.out.same HS2.out (by omega)) (by omega) (by omega) hb (HM.out.2.2.1.out HS2.out (.inr (Nat.le_refl _))) (HM.out.2.2.2.1.out HS2.out (.inr q7)) (fun i j i1 i2 j1 j2 => by rw [HS2.out.out i (by omega), HS2.out.out j (by omega)]; exact HQ.out.2 i j i1 i2 j1 j2)).mono ?_; rintro e' W3 ⟨⟨v3, rfl⟩, f3, hR3, hS3, hT3, hG4⟩))
                  go_end0
                  have hFin := merge_fin HF.out HS2.out hS3 HT2.out hT3 HM.out.2.2.2.2 (by omega) (by omega)
                  exact ⟨⟨_, rfl⟩, f3, hR3, hFin.1, hFin.2, grown_trans hG3 hG4⟩
                · skip
                  go_wp2
                  go_end0
                  have hT3 : Srt wt f1 mid b := srt_half (HM.out.2.2.1.out HS2.out (.inr (Nat.le_refl _))) (HM.out.2.2.2.1.out HS2.out (.inr q7)) q7 q4 (by omega)
                  have hFin := merge_fin HF.out HS2.out (SameOn.refl f1 mid b) HT2.out hT3 HM.out.2.2.2.2 (by omega) (by omega)
                  exact ⟨⟨_, rfl⟩, f1, hR2, hFin.1, hFin.2, hG3⟩
              · skip
                go_wp2
                go_end0
                have hT3 : Srt wt f1 mid b := srt_half (HM.out.2.2.1.out HS2.out (.inr (Nat.le_refl _))) (HM.out.2.2.2.1.out HS2.out (.inr q7)) q7 q4 (by omega)
                have hFin := merge_fin HF.out HS2.out (SameOn.refl f1 mid b) HT2.out hT3 HM.out.2.2.2.2 (by omega) (by omega)
                exact ⟨⟨_, rfl⟩, f1, hR2, hFin.1, hFin.2, hG3⟩
          · skip
            clear g7
            go_upto_region 41 with fail
            by_cases y1 : (a : Int) < (s : Int)
            · skip
              by_cases y2 : (s : Int) < (mid : Int)
              · skip
                go_upto_region 43 with (first | (go_at_call 138; refine (HIH.out wr f1 a s mid (by omega) hR1 (HC.out.grown hG1) HP1.out (by omega) (by omega) (by omega) HM.out.1 HM.out.2.1 HQ.out.1).mono ?_; rintro e' W2 ⟨⟨v2, rfl⟩, f2, hR2, hS2, hT2, hG2⟩))
                have hG3 := grown_trans hG1 hG2
                have HS2 := Lib.hid hS2
                have HT2 := Lib.hid hT2
                clear hR1 hG1 hG2 hS2 hT2
                by_cases x1 : (mid : Int) < (e : Int)
                · skip
                  by_cases x2 : (e : Int) < (b : Int)
                  · skip
                    go_wp2_with (first | (go_at_call 138; refine (HIH.out W2 f2 mid e b (by omega) hR2 (HC.out.grown hG3) (HP1.out.same HS2.out (by omega)) (by omega) (by omega) hb (HM.out.2.2.1.out HS2.out (.inr (Nat.le_refl _))) (HM.out.2.2.2.1.out HS2.out (.inr q7)) (fun i j i1 i2 j1 j2 => by rw [HS2.out.out i (by omega), HS2.out.out j (by omega)]; exact HQ.out.2 i j i1 i2 j1 j2)).mono ?_; rintro e' W3 ⟨⟨v3, rfl⟩, f3, hR3, hS3, hT3, hG4⟩))
                    go_end0
                    have hFin := merge_fin HF.out HS2.out hS3 HT2.out hT3 HM.out.2.2.2.2 (by omega) (by omega)
                    exact ⟨⟨_, rfl⟩, f3, hR3, hFin.1, hFin.2, grown_trans hG3 hG4⟩
                  · skip
                    go_wp2
                    go_end0
                    have hT3 : Srt wt f2 mid b := srt_half (HM.out.2.2.1.out HS2.out (.inr (Nat.le_refl _))) (HM.out.2.2.2.1.out HS2.out (.inr q7)) q7 q4 (by omega)
                    have hFin := merge_fin HF.out HS2.out (SameOn.refl f2 mid b) HT2.out hT3 HM.out.2.2.2.2 (by omega) (by omega)
                    exact ⟨⟨_, rfl⟩, f2, hR2, hFin.1, hFin.2, hG3⟩
                · skip
                  go_wp2
                  go_end0
                  have hT3 : Srt wt f2 mid b := srt_half (HM.out.2.2.1.out HS2.out (.inr (Nat.le_refl _))) (HM.out.2.2.2.1.out HS2.out (.inr q7)) q7 q4 (by omega)
                  have hFin := merge_fin HF.out HS2.out (SameOn.refl f2 mid b) HT2.out hT3 HM.out.2.2.2.2 (by omega) (by omega)
                  exact ⟨⟨_, rfl⟩, f2, hR2, hFin.1, hFin.2, hG3⟩
              · skip
                go_upto_region 43 with fail
                have HS2 : Hid (SameOn f1 f1 a mid) := Lib.hid (SameOn.refl _ _ _)
                have HT2 : Hid (Srt wt f1 a mid) := Lib.hid (srt_half HM.out.1 HM.out.2.1 q1 q6 (by omega))
                have hR2 := hR1
                have hG3 := hG1
                clear hR1 hG1
                by_cases x1 : (mid : Int) < (e : Int)
                · skip
                  by_cases x2 : (e : Int) < (b : Int)
                  · skip
                    go_wp2_with (first | (go_at_call 138; refine (HIH.out wr f1 mid e b (by omega) hR2 (HC.out.grown hG3) (HP1.out.same HS2.out (by omega)) (by omega) (by omega) hb (HM.out.2.2.1.out HS2.out (.inr (Nat.le_refl _))) (HM.out.2.2.2.1.out HS2.out (.inr q7)) (fun i j i1 i2 j1 j2 => by rw [HS2.out.out i (by omega), HS2.out.out j (by omega)]; exact HQ.out.2 i j i1 i2 j1 j2)).mono ?_; rintro e' W3 ⟨⟨v3, rfl⟩, f3, hR3, hS3, hT3, hG4⟩))
                    go_end0
                    have hFin := merge_fin HF.out HS2.out hS3 HT2.out hT3 HM.out.2.2.2.2 (by omega) (by omega)
                    exact ⟨⟨_, rfl⟩, f3, hR3, hFin.1, hFin.2, grown_trans hG3 hG4⟩
                  · skip
                    go_wp2
                    go_end0
                    have hT3 : Srt wt f1 mid b := srt_half (HM.out.2.2.1.out HS2.out (.inr (Nat.le_refl _))) (HM.out.2.2.2.1.out HS2.out (.inr q7)) q7 q4 (by omega)
                    have hFin := merge_fin HF.out HS2.out (SameOn.refl f1 mid b) HT2.out hT3 HM.out.2.2.2.2 (by omega) (by omega)
                    exact ⟨⟨_, rfl⟩, f1, hR2, hFin.1, hFin.2, hG3⟩
                · skip
                  go_wp2
                  go_end0
                  have hT3 : Srt wt f1 mid b := srt_half (HM.out.2.2.1.out HS2.out (.inr (Nat.le_refl _))) (HM.out.2.2.2.1.out HS2.out (.inr q7)) q7 q4 (by omega)
                  have hFin := merge_fin HF.out HS2.out (SameOn.refl f1 mid b) HT2.out hT3 HM.out.2.2.2.2 (by omega) (by omega)
                  exact ⟨⟨_, rfl⟩, f1, hR2, hFin.1, hFin.2, hG3⟩
            · skip
              go_upto_region 43 with fail
              have HS2 : Hid (SameOn f1 f1 a mid) := Lib.hid (SameOn.refl _ _ _)
              have HT2 : Hid (Srt wt f1 a mid) := Lib.hid (srt_half HM.out.1 HM.out.2.1 q1 q6 (by omega))
              have hR2 := hR1
              have hG3 := hG1
              clear hR1 hG1
              by_cases x1 : (mid : Int) < (e : Int)
              · skip
                by_cases x2 : (e : Int) < (b : Int)
                · skip
                  go_wp2_with (first | (go_at_call 138; refine (HIH.out wr f1 mid e b (by omega) hR2 (HC.out.grown hG3) (HP1.out.same HS2.out (by omega)) (by omega) (by omega) hb (HM.out.2.2.1.out HS2.out (.inr (Nat.le_refl _))) (HM.out.2.2.2.1.out HS2.out (.inr q7)) (fun i j i1 i2 j1 j2 => by rw [HS2.out.out i (by omega), HS2.out.out j (by omega)]; exact HQ.out.2 i j i1 i2 j1 j2)).mono ?_; rintro e' W3 ⟨⟨v3, rfl⟩, f3, hR3, hS3, hT3, hG4⟩))
                  go_end0
                  have hFin := merge_fin HF.out HS2.out hS3 HT2.out hT3 HM.out.2.2.2.2 (by omega) (by omega)
                  exact ⟨⟨_, rfl⟩, f3, hR3, hFin.1, hFin.2, grown_trans hG3 hG4⟩
                · skip
                  go_wp2
                  go_end0
                  have hT3 : Srt wt f1 mid b := srt_half (HM.out.2.2.1.out HS2.out (.inr (Nat.le_refl _))) (HM.out.2.2.2.1.out HS2.out (.inr q7)) q7 q4 (by omega)
                  have hFin := merge_fin HF.out HS2.out (SameOn.refl f1 mid b) HT2.out hT3 HM.out.2.2.2.2 (by omega) (by omega)
                  exact ⟨⟨_, rfl⟩, f1, hR2, hFin.1, hFin.2, hG3⟩
              · skip
                go_wp2
                go_end0
                have hT3 : Srt wt f1 mid b := srt_half (HM.out.2.2.1.out HS2.out (.inr (Nat.le_refl _))) (HM.out.2.2.2.1.out HS2.out (.inr q7)) q7 q4 (by omega)
                have hFin := merge_fin HF.out HS2.out (SameOn.refl f1 mid b) HT2.out hT3 HM.out.2.2.2.2 (by omega) (by omega)
                exact ⟨⟨_, rfl⟩, f1, hR2, hFin.1, hFin.2, hG3⟩
end Go.Proofs.YtgkcnocfijckoaaGreat
namespace Go.Proofs.YtgkcnocfijckoaaGreat
open Go.RowKit
set_option linter.unusedVariables false
theorem symMerge_any {R : List Value} (pb g n cap N : Nat) (wt : Int → Int) (hn : n ≤ 1000000000) : ∀ d, MergeIH R pb g n cap N wt d := by
  intro d
  induction d with
  | zero => intro w f a m b h; omega
  | succ d ih =>
    intro w f a m b hd hR hC hP ham hmb hb hSA hSB hL
    by_cases e1 : m = a + 1
    · subst e1
      exact symMerge_one w pb g n cap N f wt a b hR hC hP hn hmb hb hSB (fun j j1 j2 => hL a j (Nat.le_refl _) (by omega) j1 j2)
    · by_cases e2 : b = m + 1
      · subst e2
        exact symMerge_last w pb g n cap N f wt a m hR hC hP hn (by omega) hb hSA (fun j j1 j2 => hL j m j1 j2 (Nat.le_refl _) hmb)
      · exact symMerge_gen w pb g n cap N f wt a m b (fun w' f' a' m' b' h' => ih w' f' a' m' b' (by omega)) hR hC hP hn (by omega) (by omega) hb hSA hSB hL
theorem dvd_gap {d s a : Nat} (h1 : d ∣ s) (h2 : d ∣ a) (h : s < a) : s + d ≤ a := by
  obtain ⟨x, rfl⟩ := h1
  obtain ⟨y, rfl⟩ := h2
  have hxy : x < y := Nat.lt_of_mul_lt_mul_left h
  calc d * x + d = d * (x + 1) := by rw [Nat.mul_add, Nat.mul_one]
    _ ≤ d * y := Nat.mul_le_mul_left d hxy
/-- chunks of bs, from the place lo on -/
def Chs (wt : Int → Int) (f : Nat → Int) (n bs lo : Nat) : Prop := ∀ s, bs ∣ s → lo ≤ s → s < n → Okc wt f s (if s + bs ≤ n then s + bs else n)
/-- chunks of bs up to the place hi -/
def Chd (wt : Int → Int) (f : Nat → Int) (bs hi : Nat) : Prop := ∀ s, bs ∣ s → s < hi → Okc wt f s (s + bs)
theorem Chd.zero (wt : Int → Int) (f : Nat → Int) (bs : Nat) : Chd wt f bs 0 := fun s _ h => by omega
theorem Chd.step {wt : Int → Int} {f h : Nat → Int} {bs hi : Nat} (k : Chd wt f bs hi) (hd : bs ∣ hi) (hS : SameOn f h hi (hi + bs)) (hO : Okc wt h hi (hi + bs)) : Chd wt h bs (hi + bs) := by
  intro s hs hlt
  by_cases e : s = hi
  · rw [e]; exact hO
  · have h3 : s < hi := by
      rcases Nat.lt_or_ge s hi with h4 | h4
      · exact h4
      · have h5 : hi < s := by omega
        have := dvd_gap hd hs h5
        omega
    have := dvd_gap hs hd h3
    exact (k s hs h3).out hS (.inl this)
theorem Chs.step {wt : Int → Int} {f h : Nat → Int} {n bs lo hi : Nat} (k : Chs wt f n bs lo) (hS : SameOn f h lo hi) (hlo : lo ≤ hi) : Chs wt h n bs hi := fun s hs h1 h2 => (k s hs (by omega) h2).out hS (.inr h1)
/-- the last chunk, shorter or none -/
theorem Chd.last {wt : Int → Int} {f h : Nat → Int} {n bs hi : Nat} (k : Chd wt f bs hi) (hd : bs ∣ hi) (hn : hi ≤ n) (hlt : n < hi + bs) (hS : SameOn f h hi n) (hO : Okc wt h hi n) : Chs wt h n bs 0 := by
  intro s hs _ hlt2
  by_cases e : s < hi
  · have := dvd_gap hs hd e
    rw [if_pos (by omega)]
    exact (k s hs e).out hS (.inl this)
  · have e2 : s = hi := by
      rcases Nat.lt_or_ge hi s with h4 | h4
      · have := dvd_gap hd hs h4; omega
      · omega
    rw [e2, if_neg (by omega)]
    exact hO
theorem InB.id_ (a b : Nat) {f : Nat → Int} (h : ∀ i, a ≤ i → i < b → f i = i) : InB f a b := ⟨fun i i1 i2 => by rw [h i i1 i2]; omega, fun v v1 v2 => ⟨v, v1, v2, h v v1 v2⟩⟩
set_option maxHeartbeats 4000000 in
theorem stable_any {R : List Value} (w : World) (pb g n cap N : Nat) (wt : Int → Int) (hR : Rw R w g n (fun i => (i : Int))) (hC : Cp pb g N wt w) (hnN : n ≤ N) (hn : n ≤ 1000000000) :
    Calls Tryz.prog 134 #[.slice (some ⟨g, 0, none⟩) n cap, .int .i64 n, .func (.func 126) #[] #[.pointer (some ⟨pb, 0, none⟩)]] w fun e w' => (∃ r, e = .returned r) ∧ ∃ h, Rw R w' g n h ∧ Srt wt h 0 n ∧ InB h 0 n ∧ w.grownBy w' (some g) := by
  have hP : Pl n N (fun i => (i : Int)) := fun i hi => ⟨Int.natCast_nonneg i, by show (i : Int) < N; omega⟩
  have HC := Lib.hid hC
  clear hC
  go_enter Tryz.func134, Tryz.ntmps134
  go_wp2_with fail
  go_loopw [7, 8] (fun x y wr => ∃ (a b : Nat) (h : Nat → Int), b = a + 20 ∧ 20 ∣ a ∧ a ≤ n ∧ x = .int .i64 a ∧ y = .int .i64 b ∧ Rw R wr g n h ∧ Pl n N h ∧ Chd wt h 20 a ∧ (∀ i, a ≤ i → h i = i) ∧ w.grownBy wr (some g)) (fun x _ _ => n - (intOf x).toNat)
  case atStart => exact ⟨0, 20, _, rfl, Nat.dvd_zero _, by omega, rfl, rfl, hR, hP, Chd.zero _ _ _, fun i _ => rfl, grown_refl _ _⟩
  case round =>
    clear hR hP
    obtain ⟨a, b, h, hab, hd, han, rfl, rfl, hR, hP, hK, hI, hG⟩ := hrel
    have HP := Lib.hid hP
    have HK := Lib.hid hK
    have HI := Lib.hid hI
    have HD := Lib.hid hd
    have HAB := Lib.hid hab
    clear hP hK hI hd hab
    by_cases hlt : (b : Int) ≤ (n : Int)
    · obtain ⟨b2, hb2⟩ : ∃ b2 : Nat, (b : Int) + 20 = b2 := ⟨b + 20, by omega⟩
      go_wp2_with (first | (go_at_call 137; refine (insertion_any wr pb g n cap N h wt a b hR (HC.out.grown hG) HP.out (fun i j i1 i2 i3 => by rw [HI.out i i1, HI.out j (by omega)]; omega) hn (by have := HAB.out; omega) (by omega)).mono ?_; rintro e' W1 ⟨⟨v1, rfl⟩, h1, hR1, hS1, hT1, hG1⟩))
      go_roundw
      case rel =>
        have e := HAB.out
        rw [e] at hS1 hT1
        refine ⟨b, b2, h1, by omega, by rw [e]; exact (Nat.dvd_add_right HD.out).2 (Nat.dvd_refl _), by omega, rfl, rfl, hR1, HP.out.same hS1 (by omega), ?_, fun i hi => by rw [hS1.out i (by omega)]; exact HI.out i (by omega), grown_trans hG hG1⟩
        rw [e]
        exact HK.out.step HD.out hS1 ⟨hT1, (InB.id_ a (a + 20) (fun i i1 i2 => HI.out i i1)).same hS1⟩
      case measure => have e := HAB.out; simp [intOf]; omega
    · go_wp2_with (first | (go_at_call 137; refine (insertion_any wr pb g n cap N h wt a n hR (HC.out.grown hG) HP.out (fun i j i1 i2 i3 => by rw [HI.out i i1, HI.out j (by omega)]; omega) hn (by omega) (by omega)).mono ?_; rintro e' W1 ⟨⟨v1, rfl⟩, h1, hR1, hS1, hT1, hG1⟩))
      have hQ : Chs wt h1 n 20 0 := HK.out.last HD.out han (by have := HAB.out; omega) hS1 ⟨hT1, (InB.id_ a n (fun i i1 i2 => HI.out i i1)).same hS1⟩
      have hP1 : Pl n N h1 := HP.out.same hS1 (by omega)
      have hG2 := grown_trans hG hG1
      clear HP HK HI HD HAB hR hG hS1 hT1 hG1
      go_loopw [6, 7, 8, 9] (fun x _ _ _ wr => ∃ (bs : Nat) (h : Nat → Int), 1 ≤ bs ∧ bs ≤ 2000000000 ∧ x = .int .i64 bs ∧ Rw R wr g n h ∧ Pl n N h ∧ Chs wt h n bs 0 ∧ w.grownBy wr (some g)) (fun x _ _ _ _ => n - (intOf x).toNat)
      case atStart => exact ⟨20, h1, by omega, by omega, rfl, hR1, hP1, hQ, hG2⟩
      case round =>
        clear hR1 hP1 hQ hG2
        obtain ⟨bs, h, hb1, hb2, rfl, hR, hP, hQ, hG⟩ := hrel
        have HP := Lib.hid hP
        have HQ := Lib.hid hQ
        clear hP hQ
        by_cases hlt2 : (bs : Int) < (n : Int)
        · obtain ⟨d, hd2⟩ : ∃ d : Nat, (2 : Int) * bs = d := ⟨2 * bs, by omega⟩
          have hd3 : (bs : Int) * 2 = d := by omega
          have hdv : bs ∣ d := ⟨2, by omega⟩
          have HDV := Lib.hid hdv
          clear hdv
          go_wp2_with fail
          go_loopw [7, 8] (fun x y wr => ∃ (a b : Nat) (h : Nat → Int), b = a + d ∧ d ∣ a ∧ a ≤ n ∧ x = .int .i64 a ∧ y = .int .i64 b ∧ Rw R wr g n h ∧ Pl n N h ∧ Chd wt h d a ∧ Chs wt h n bs a ∧ w.grownBy wr (some g)) (fun x _ _ => n - (intOf x).toNat)
          case atStart => exact ⟨0, d, h, by omega, Nat.dvd_zero _, by omega, rfl, rfl, hR, HP.out, Chd.zero _ _ _, HQ.out, hG⟩
          case round =>
            clear hR hG HP HQ
            obtain ⟨a, b, h, hab, hd, han, rfl, rfl, hR, hP, hK, hQ, hG⟩ := hrel
            have HP := Lib.hid hP
            have HK := Lib.hid hK
            have HQ := Lib.hid hQ
            have HD := Lib.hid hd
            have HAB := Lib.hid hab
            obtain ⟨m, hm⟩ : ∃ m : Nat, (a : Int) + bs = m := ⟨a + bs, by omega⟩
            have hba : bs ∣ a := Nat.dvd_trans HDV.out hd
            have hbm : bs ∣ m := by
              have e : m = a + bs := by omega
              rw [e]; exact (Nat.dvd_add_right hba).2 (Nat.dvd_refl _)
            have hem : a + bs = m := by omega
            have hem2 : m + bs = a + d := by omega
            have HBA := Lib.hid hba
            have HBM := Lib.hid hbm
            have HEM := Lib.hid hem
            have HEM2 := Lib.hid hem2
            clear hP hK hQ hd hab hba hbm hem hem2
            by_cases hlt : (b : Int) ≤ (n : Int)
            · obtain ⟨b2, hb2⟩ : ∃ b2 : Nat, (b : Int) + d = b2 := ⟨b + d, by have := HAB.out; omega⟩
              have o1 : Okc wt h a m := by
                have := HQ.out a HBA.out (Nat.le_refl _) (by have := HAB.out; omega)
                rw [if_pos (by have := HAB.out; omega), HEM.out] at this
                exact this
              have o2 : Okc wt h m b := by
                have := HQ.out m HBM.out (by omega) (by have := HAB.out; omega)
                rw [if_pos (by have := HAB.out; have := HEM2.out; omega), HEM2.out, ← HAB.out] at this
                exact this
              have k1 : a < m := by omega
              have k2 : m < b := by have := HAB.out; have := HEM2.out; omega
              have O1 := Lib.hid o1
              have O2 := Lib.hid o2
              clear o1 o2
              go_wp2_with (first | (go_at_call 138; refine (symMerge_any pb g n cap N wt hn _ wr h a m b (Nat.lt_succ_self _) hR (HC.out.grown hG) HP.out k1 k2 (by omega) O1.out.1 O2.out.1 (InB.lo O1.out.2 O2.out.2)).mono ?_; rintro e' W2 ⟨⟨v2, rfl⟩, h2, hR2, hS2, hT2, hG3⟩))
              go_roundw
              case rel =>
                have e := HAB.out
                have hO : Okc wt h2 a b := ⟨hT2, (InB.join O1.out.2 O2.out.2 (by omega) (by omega)).same hS2⟩
                refine ⟨b, b2, h2, by omega, by rw [e]; exact (Nat.dvd_add_right HD.out).2 (Nat.dvd_refl _), by omega, rfl, rfl, hR2, HP.out.same hS2 (by omega), ?_, HQ.out.step hS2 (by omega), grown_trans hG hG3⟩
                rw [e] at hS2 hO ⊢
                exact HK.out.step HD.out hS2 hO
              case measure => have e := HAB.out; simp [intOf]; omega
            · by_cases hmn : (m : Int) < (n : Int)
              · have o1 : Okc wt h a m := by
                  have := HQ.out a HBA.out (Nat.le_refl _) (by omega)
                  rw [if_pos (by omega), HEM.out] at this
                  exact this
                have o2 : Okc wt h m n := by
                  have := HQ.out m HBM.out (by omega) (by omega)
                  rw [if_neg (by have := HAB.out; have := HEM2.out; omega)] at this
                  exact this
                have k1 : a < m := by omega
                have O1 := Lib.hid o1
                have O2 := Lib.hid o2
                clear o1 o2
                go_wp2_with (first | (go_at_call 138; refine (symMerge_any pb g n cap N wt hn _ wr h a m n (Nat.lt_succ_self _) hR (HC.out.grown hG) HP.out k1 (by omega) (Nat.le_refl _) O1.out.1 O2.out.1 (InB.lo O1.out.2 O2.out.2)).mono ?_; rintro e' W2 ⟨⟨v2, rfl⟩, h2, hR2, hS2, hT2, hG3⟩))
                go_roundw
                case rel =>
                  have hO : Okc wt h2 a n := ⟨hT2, (InB.join O1.out.2 O2.out.2 (by omega) (by omega)).same hS2⟩
                  exact ⟨d, h2, by omega, by omega, rfl, hR2, HP.out.same hS2 (Nat.le_refl _), HK.out.last HD.out han (by have := HAB.out; omega) hS2 hO, grown_trans hG hG3⟩
                case measure => simp [intOf]; omega
              · have hO : Okc wt h a n := by
                  by_cases e : a = n
                  · rw [e]; exact ⟨fun i j _ _ _ => by omega, ⟨fun i _ _ => by omega, fun v _ _ => by omega⟩⟩
                  · have := HQ.out a HBA.out (Nat.le_refl _) (by omega)
                    by_cases e2 : a + bs ≤ n
                    · rw [if_pos e2, show a + bs = n by omega] at this; exact this
                    · rw [if_neg e2] at this; exact this
                have HO := Lib.hid hO
                clear hO
                go_wp2
                go_roundw
                case rel => exact ⟨d, h, by omega, by omega, rfl, hR, HP.out, HK.out.last HD.out han (by have := HAB.out; omega) (SameOn.refl _ _ _) HO.out, hG⟩
                case measure => simp [intOf]; omega
        · go_wp2
          go_end0
          have hO : Okc wt h 0 n := by
            by_cases e : n = 0
            · subst e; exact ⟨fun i j _ _ _ => by omega, ⟨fun i _ _ => by omega, fun v _ _ => by omega⟩⟩
            · have := HQ.out 0 (Nat.dvd_zero _) (Nat.le_refl _) (by omega)
              by_cases e2 : 0 + bs ≤ n
              · rw [if_pos e2, show 0 + bs = n by omega] at this; exact this
              · rw [if_neg e2] at this; exact this
          exact ⟨⟨_, rfl⟩, h, hR, hO.1, hO.2, hG⟩
theorem sortStable_any {R : List Value} (w : World) (pb g n cap N : Nat) (wt : Int → Int) (hR : Rw R w g n (fun i => (i : Int))) (hC : Cp pb g N wt w) (hnN : n ≤ N) (hn : n ≤ 1000000000) :
    Calls Tryz.prog 125 #[.slice (some ⟨g, 0, none⟩) n cap, .func (.func 126) #[] #[.pointer (some ⟨pb, 0, none⟩)]] w fun e w' => (∃ r, e = .returned r) ∧ ∃ h, Rw R w' g n h ∧ Srt wt h 0 n ∧ InB h 0 n ∧ w.grownBy w' (some g) := by
  go_enter Tryz.func125, Tryz.ntmps125
  go_wp2_with (first | (go_at_call 134; refine (stable_any w pb g n cap N wt hR hC hnN hn).mono ?_; rintro e' W2 ⟨⟨v2, rfl⟩, h2, hR2, hT2, hI2, hG2⟩))
  go_end0
  exact ⟨⟨_, rfl⟩, h2, hR2, hT2, hI2, hG2⟩
end Go.Proofs.YtgkcnocfijckoaaGreat
