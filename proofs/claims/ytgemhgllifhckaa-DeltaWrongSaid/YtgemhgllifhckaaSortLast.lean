/- slices.symMergeCmpFunc at []int, one number on the other side. Conditions: as named in each theorem. -/
import Derived.Test.YtgemhgllifhckaaSortOne
namespace Go.Proofs.Ytgemhgllifhckaa
open Go.RowKit
set_option linter.unusedVariables false

set_option maxRecDepth 100000 in
set_option maxHeartbeats 4000000 in
theorem symMerge_last {R : List Value} (w : World) (pb g n cap N : Nat) (f : Nat → Int) (wt : Int → Int) (a m : Nat) (hR : Rw R w g n f) (hC : Cp pb g N wt w) (hP : Pl n N f) (hn : n ≤ 1000000000) (ham : a + 1 < m) (hb0 : m + 1 ≤ n)
    (hS : Srt wt f a m) (hlo : ∀ j, a ≤ j → j < m → f j < f m) :
    Calls Try.prog 125 #[.slice (some ⟨g, 0, none⟩) n cap, .int .i64 a, .int .i64 m, .int .i64 (m + 1 : Nat), .func (.func 96) #[] #[.pointer (some ⟨pb, 0, none⟩)]] w (MergeR R w g n f wt a (m + 1)) := by
  obtain ⟨b, hm⟩ : ∃ b : Nat, m + 1 = b := ⟨_, rfl⟩
  rw [hm] at hb0 ⊢
  obtain ⟨x0, hx0⟩ : ∃ x0 : Nat, (m : Int) - a = x0 := ⟨m - a, by omega⟩
  have hx1 : ((x0 : Int) == 1) = false := by simp; omega
  have h1 : IntKind.i64.wrap ((b : Int) - (m : Int)) = 1 := by rw [show (b : Int) - m = 1 by omega]; exact IntWalk.i64_in _ (by omega)
  have h2 : (b : Int) - (m : Int) = 1 := by omega
  have hma : a < m := by omega
  have hmn : m < n := by omega
  have HM := Lib.hid hm
  have HC := Lib.hid hC
  have HP := Lib.hid hP
  have HS := Lib.hid hS
  have HL := Lib.hid hlo
  clear hC hP hS hlo hm
  go_enter Try.func125, Try.ntmps125
  go_wp2_with fail
  go_loopw [14, 15] (fun x y wr => ∃ (i j : Nat), a ≤ i ∧ i ≤ j ∧ j ≤ m ∧ x = .int .i64 i ∧ y = .int .i64 j ∧ Rw R wr g n f ∧ (∀ k, a ≤ k → k < i → Ltw wt (f k) (f m)) ∧ (∀ k, j ≤ k → k < m → Ltw wt (f m) (f k)) ∧ w.grownBy wr (some g)) (fun x y _ => (intOf y).toNat - (intOf x).toNat)
  case atStart => exact ⟨a, m, by omega, by omega, by omega, rfl, rfl, hR, fun k k1 k2 => by omega, fun k k1 k2 => by omega, grown_refl _ _⟩
  case round =>
    clear hR
    obtain ⟨i, j, hi, hij, hj, rfl, rfl, hR, hD, hU, hG⟩ := hrel
    have HD := Lib.hid hD
    have HU := Lib.hid hU
    clear hD hU
    by_cases hlt : (i : Int) < (j : Int)
    · obtain ⟨s, hs⟩ : ∃ s : Nat, (i : Int) + j = s := ⟨i + j, by omega⟩
      obtain ⟨t, ht⟩ : ∃ t : Nat, (s : Int) / 2 = t := ⟨s / 2, by omega⟩
      have t1 : i ≤ t := by omega
      have t2 : t < j := by omega
      have ct := hR.cell (i := t) (by omega)
      have ca := hR.cell (i := m) hmn
      have i1 : (t : Int) < (n : Int) := by omega
      have i2 : (m : Int) < (n : Int) := by omega
      have hlo := HL.out t (by omega) (by omega)
      have HLO := Lib.hid hlo
      clear hlo
      obtain ⟨D, hDD⟩ : ∃ D, wt (f m) - wt (f t) = D := ⟨_, rfl⟩
      have HDD := Lib.hid hDD
      clear hDD
      have hK : ∀ q, Calls Try.prog 96 #[.int .i64 (f m), .int .i64 (f t), .pointer (some ⟨pb, 0, none⟩)] (wr.drewN q) fun e w'' => e = .returned (.int .i64 D) ∧ ∃ d, w'' = (wr.drewN q).drewN d := fun q =>
        HC.out _ (grown_drewN hG q) _ _ D (HP.out m (by omega)).1 (HP.out m (by omega)).2 (HP.out t (by omega)).1 (HP.out t (by omega)).2 HDD.out
      have HK := Lib.hid hK
      clear hK
      by_cases hd : D < 0
      · have g2 : decide (D < 0) = true := by simp; omega
        go_wp2_with fail
        go_quiet ((go_at_call 96; exact quiet_dr (HK.out _)))
        go_wp2
        go_roundw
        case rel =>
          have hx : Ltw wt (f m) (f t) := (ltw_lo HLO.out).1 (by have := HDD.out; omega)
          refine ⟨i, t, hi, t1, by omega, rfl, rfl, hR.drewN _, HD.out, fun k k1 k2 => ?_, grown_drewN hG _⟩
          by_cases e : k = t
          · rw [e]; exact hx
          · exact hx.trans (HS.out t k (by omega) (by omega) k2)
        case measure => simp [intOf]; omega
      · have g2 : decide (D < 0) = false := by simp; omega
        obtain ⟨t', ht'⟩ : ∃ t' : Nat, (t : Int) + 1 = t' := ⟨t + 1, by omega⟩
        go_wp2_with fail
        go_quiet ((go_at_call 96; exact quiet_dr (HK.out _)))
        go_wp2
        go_roundw
        case rel =>
          have hx : Ltw wt (f t) (f m) := Ltw.total (fun hx => by have h1 := (ltw_lo HLO.out).2 hx; have h2 := HDD.out; omega) (by have := HLO.out; omega)
          refine ⟨t', j, by omega, by omega, hj, rfl, rfl, hR.drewN _, fun k k1 k2 => ?_, HU.out, grown_drewN hG _⟩
          by_cases e : k = t
          · rw [e]; exact hx
          · exact (HS.out k t k1 (by omega) (by omega)).trans hx
        case measure => simp [intOf]; omega
    · have hij2 : i = j := by omega
      subst hij2
      go_wp2_with fail
      go_loopw [17] (fun x wr => ∃ k : Nat, i ≤ k ∧ k ≤ m ∧ x = .int .i64 k ∧ Rw R wr g n (insAt f m k) ∧ w.grownBy wr (some g)) (fun x _ => (intOf x).toNat)
      case atStart => exact ⟨m, by omega, by omega, rfl, by rw [insAt_self]; exact hR, hG⟩
      case round =>
        clear hR hG
        obtain ⟨k, hk1, hk2, rfl, hR, hG⟩ := hrel
        by_cases hkl : (i : Int) < (k : Int)
        · obtain ⟨q, hq⟩ : ∃ q : Nat, (k : Int) - 1 = q := ⟨k - 1, by omega⟩
          have eq_ : q = k - 1 := by omega
          have EQ := Lib.hid eq_
          clear eq_
          have ck := hR.cell (i := k) (by omega)
          have cq := hR.cell (i := q) (by have := EQ.out; omega)
          have fk := hR.frozen k
          have fq := hR.frozen q
          have i1 : (k : Int) < (n : Int) := by omega
          have i2 : (q : Int) < (n : Int) := by omega
          have hne : k ≠ q := by have := EQ.out; omega
          have hne2 : q ≠ k := by have := EQ.out; omega
          go_wp2_with fail
          go_region
          obtain ⟨W, hW⟩ : ∃ W, W = ((wr.setCell ⟨g, k, none⟩ (.int .i64 (insAt f m k q))).setCell ⟨g, q, none⟩ (.int .i64 (insAt f m k k))).drew := ⟨_, rfl⟩
          have hR2 : Rw R W g n (insAt f m q) := by
            rw [hW, EQ.out, ← insAt_swp f m k (by omega) hk2, ← EQ.out]
            exact hR.swap (by omega) (by omega)
          have hG2 : w.grownBy W (some g) := by rw [hW]; exact grown_drew (grown_set (grown_set hG _ _) _ _)
          rw [← hW]
          clear hW hR hG ck cq fk fq
          go_wp2
          go_roundw
          case rel => exact ⟨q, by omega, by omega, rfl, hR2, hG2⟩
          case measure => have := EQ.out; simp [intOf]; omega
        · have hkl2 : k = i := by omega
          subst hkl2
          go_wp2
          go_end0
          have e2 := HM.out
          refine ⟨⟨_, rfl⟩, insAt f m k, hR, ?_, ?_, hG⟩
          · rw [← e2]; exact insAt_same f hi hk2
          · rw [← e2]; exact insAt_srt HS.out hi hk2 HU.out (fun hx => HD.out (k - 1) (by omega) (by omega))
end Go.Proofs.Ytgemhgllifhckaa
