/- slices.symMergeCmpFunc at []int, one number on one side. Conditions: as named in each theorem. -/
import Derived.Test.YtgemhgllifhckaaSortIns
namespace Go.Proofs.Ytgemhgllifhckaa
open Go.RowKit
set_option linter.unusedVariables false

/-- what the merge answers -/
def MergeR (R : List Value) (w : World) (g n : Nat) (f : Nat → Int) (wt : Int → Int) (a b : Nat) (e : Ending) (w' : World) : Prop := (∃ r, e = .returned r) ∧ ∃ h, Rw R w' g n h ∧ SameOn f h a b ∧ Srt wt h a b ∧ w.grownBy w' (some g)

set_option maxRecDepth 100000 in
set_option maxHeartbeats 4000000 in
theorem symMerge_one {R : List Value} (w : World) (pb g n cap N : Nat) (f : Nat → Int) (wt : Int → Int) (a b : Nat) (hR : Rw R w g n f) (hC : Cp pb g N wt w) (hP : Pl n N f) (hn : n ≤ 1000000000) (hab : a + 1 < b) (hb : b ≤ n)
    (hS : Srt wt f (a + 1) b) (hlo : ∀ j, a < j → j < b → f a < f j) :
    Calls Try.prog 125 #[.slice (some ⟨g, 0, none⟩) n cap, .int .i64 a, .int .i64 (a + 1 : Nat), .int .i64 b, .func (.func 96) #[] #[.pointer (some ⟨pb, 0, none⟩)]] w (MergeR R w g n f wt a b) := by
  obtain ⟨m, hm⟩ : ∃ m : Nat, a + 1 = m := ⟨_, rfl⟩
  rw [hm]
  rw [hm] at hS hab
  have h1 : IntKind.i64.wrap ((m : Int) - (a : Int)) = 1 := by rw [show (m : Int) - a = 1 by omega]; exact IntWalk.i64_in _ (by omega)
  have h2 : (m : Int) - (a : Int) = 1 := by omega
  have hma : a < m := by omega
  have HM := Lib.hid hm
  have HC := Lib.hid hC
  have HP := Lib.hid hP
  have HS := Lib.hid hS
  have HL := Lib.hid hlo
  clear hC hP hS hlo hm
  go_enter Try.func125, Try.ntmps125
  go_wp2_with fail
  go_loopw [10, 11] (fun x y wr => ∃ (i j : Nat), m ≤ i ∧ i ≤ j ∧ j ≤ b ∧ x = .int .i64 i ∧ y = .int .i64 j ∧ Rw R wr g n f ∧ (∀ k, m ≤ k → k < i → Ltw wt (f k) (f a)) ∧ (∀ k, j ≤ k → k < b → Ltw wt (f a) (f k)) ∧ w.grownBy wr (some g)) (fun x y _ => (intOf y).toNat - (intOf x).toNat)
  case atStart => exact ⟨m, b, by omega, by omega, by omega, rfl, rfl, hR, fun k k1 k2 => by omega, fun k k1 k2 => by omega, grown_refl _ _⟩
  case round =>
    clear hR
    obtain ⟨i, j, hi, hij, hj, rfl, rfl, hR, hD, hU, hG⟩ := hrel
    have HD := Lib.hid hD
    have HU := Lib.hid hU
    clear hD hU
    by_cases hlt : (i : Int) < (j : Int)
    · obtain ⟨s, hs⟩ : ∃ s : Nat, (i : Int) + j = s := ⟨i + j, by omega⟩
      obtain ⟨t, ht⟩ : ∃ t : Nat, (s : Int) / 2 = t := ⟨s / 2, by omega⟩
      have t1 : i ≤ t := by omega
      have t2 : t < j := by omega
      have ct := hR.cell (i := t) (by omega)
      have ca := hR.cell (i := a) (by omega)
      have i1 : (t : Int) < (n : Int) := by omega
      have i2 : (a : Int) < (n : Int) := by omega
      have hlo := HL.out t (by omega) (by omega)
      have HLO := Lib.hid hlo
      clear hlo
      obtain ⟨D, hDD⟩ : ∃ D, wt (f t) - wt (f a) = D := ⟨_, rfl⟩
      have HDD := Lib.hid hDD
      clear hDD
      have hK : ∀ q, Calls Try.prog 96 #[.int .i64 (f t), .int .i64 (f a), .pointer (some ⟨pb, 0, none⟩)] (wr.drewN q) fun e w'' => e = .returned (.int .i64 D) ∧ ∃ d, w'' = (wr.drewN q).drewN d := fun q =>
        HC.out _ (grown_drewN hG q) _ _ D (HP.out t (by omega)).1 (HP.out t (by omega)).2 (HP.out a (by omega)).1 (HP.out a (by omega)).2 HDD.out
      have HK := Lib.hid hK
      clear hK
      by_cases hd : D < 0
      · have g2 : decide (D < 0) = true := by simp; omega
        go_wp2_with fail
        go_quiet ((go_at_call 96; exact quiet_dr (HK.out _)))
        go_wp2
        go_roundw
        case rel =>
          have hx : Ltw wt (f t) (f a) := (ltw_lo HLO.out).1 (by have := HDD.out; omega)
          refine ⟨t + 1, j, by omega, by omega, hj, by go_num, rfl, hR.drewN _, fun k k1 k2 => ?_, HU.out, grown_drewN hG _⟩
          by_cases e : k = t
          · rw [e]; exact hx
          · exact (HS.out k t k1 (by omega) (by omega)).trans hx
        case measure => simp [intOf]; omega
      · have g2 : decide (D < 0) = false := by simp; omega
        go_wp2_with fail
        go_quiet ((go_at_call 96; exact quiet_dr (HK.out _)))
        go_wp2
        go_roundw
        case rel =>
          have hx : Ltw wt (f a) (f t) := Ltw.total (fun hx => by have h1 := (ltw_lo HLO.out).2 hx; have h2 := HDD.out; omega) (by have := HLO.out; omega)
          refine ⟨i, t, hi, t1, by omega, rfl, rfl, hR.drewN _, HD.out, fun k k1 k2 => ?_, grown_drewN hG _⟩
          by_cases e : k = t
          · rw [e]; exact hx
          · exact hx.trans (HS.out t k (by omega) (by omega) k2)
        case measure => simp [intOf]; omega
    · have hij2 : i = j := by omega
      subst hij2
      obtain ⟨l, hl⟩ : ∃ l : Nat, (i : Int) - 1 = l := ⟨i - 1, by omega⟩
      have hli : l = i - 1 := by omega
      have HLI := Lib.hid hli
      clear hli
      go_wp2_with fail
      go_loopw [13] (fun x wr => ∃ k : Nat, a ≤ k ∧ k ≤ l ∧ x = .int .i64 k ∧ Rw R wr g n (delAt f a k) ∧ w.grownBy wr (some g)) (fun x _ => l - (intOf x).toNat)
      case atStart => exact ⟨a, by omega, by omega, rfl, by rw [delAt_self]; exact hR, hG⟩
      case round =>
        clear hR hG
        obtain ⟨k, hk1, hk2, rfl, hR, hG⟩ := hrel
        by_cases hkl : (k : Int) < (l : Int)
        · obtain ⟨q, hq⟩ : ∃ q : Nat, (k : Int) + 1 = q := ⟨k + 1, by omega⟩
          have eq_ : q = k + 1 := by omega
          have EQ := Lib.hid eq_
          clear eq_
          have ck := hR.cell (i := k) (by have := HLI.out; omega)
          have cq := hR.cell (i := q) (by have := HLI.out; have := EQ.out; omega)
          have fk := hR.frozen k
          have fq := hR.frozen q
          have i1 : (k : Int) < (n : Int) := by omega
          have i2 : (q : Int) < (n : Int) := by omega
          have hne : k ≠ q := by have := EQ.out; omega
          have hne2 : q ≠ k := by have := EQ.out; omega
          go_wp2_with fail
          go_region
          obtain ⟨W, hW⟩ : ∃ W, W = ((wr.setCell ⟨g, k, none⟩ (.int .i64 (delAt f a k q))).setCell ⟨g, q, none⟩ (.int .i64 (delAt f a k k))).drew := ⟨_, rfl⟩
          have hR2 : Rw R W g n (delAt f a q) := by
            rw [hW, EQ.out, ← delAt_swp f a k hk1, ← EQ.out]
            exact hR.swap (by omega) (by have := HLI.out; omega)
          have hG2 : w.grownBy W (some g) := by rw [hW]; exact grown_drew (grown_set (grown_set hG _ _) _ _)
          rw [← hW]
          clear hW hR hG ck cq fk fq
          go_wp2
          go_roundw
          case rel => exact ⟨q, by omega, by omega, rfl, hR2, hG2⟩
          case measure => simp [intOf]; omega
        · have hkl2 : k = l := by omega
          subst hkl2
          go_wp2
          go_end0
          have e := HLI.out
          have e2 := HM.out
          refine ⟨⟨_, rfl⟩, delAt f a k, hR, delAt_same f hk1 (by omega), ?_, hG⟩
          rw [e]
          exact delAt_srt (by rw [e2]; exact HS.out) (by omega) (by omega) (fun k k1 k2 => HD.out k (by omega) k2) HU.out
end Go.Proofs.Ytgemhgllifhckaa
