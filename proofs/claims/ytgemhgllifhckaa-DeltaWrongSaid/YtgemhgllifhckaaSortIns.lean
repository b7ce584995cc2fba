/- slices.insertionSortCmpFunc at []int, the comparison reading weights. Conditions: as named in each theorem. -/
import Derived.Test.YtgemhgllifhckaaSortBase
namespace Go.Proofs.Ytgemhgllifhckaa
open Go.RowKit
set_option linter.unusedVariables false

/-- the comparison answers by the weights, whatever the row g holds; it may draw -/
def Cp (pb g N : Nat) (wt : Int → Int) (w : World) : Prop :=
  ∀ w', w.grownBy w' (some g) → ∀ x y D : Int, 0 ≤ x → x < N → 0 ≤ y → y < N → wt x - wt y = D → Calls Try.prog 96 #[.int .i64 x, .int .i64 y, .pointer (some ⟨pb, 0, none⟩)] w' fun e w'' => e = .returned (.int .i64 D) ∧ ∃ d, w'' = w'.drewN d
theorem Cp.grown {pb g N : Nat} {wt : Int → Int} {w w' : World} (h : Cp pb g N wt w) (hg : w.grownBy w' (some g)) : Cp pb g N wt w' := fun w2 h2 => h w2 (grown_trans hg h2)
theorem quiet_dr {P : Program} {f : FuncId} {args : Array Value} {w : World} {n : Nat} {v : Value}
    (h : Calls P f args (w.drewN n) fun e w' => e = .returned v ∧ ∃ d, w' = (w.drewN n).drewN d) : Calls P f args (w.drewN n) fun e w'' => e = .returned v ∧ ∃ m, w'' = w.drewN m :=
  h.mono fun _ _ ⟨he, d, hm⟩ => ⟨he, n + d, by rw [hm, World.drewN_drewN]⟩
/-- the numbers of the row are places -/
def Pl (n N : Nat) (f : Nat → Int) : Prop := ∀ i, i < n → 0 ≤ f i ∧ f i < N
theorem Pl.same {n N : Nat} {f g : Nat → Int} {a b : Nat} (h : Pl n N f) (k : SameOn f g a b) (hb : b ≤ n) : Pl n N g := by
  intro i hi
  by_cases e : a ≤ i ∧ i < b
  · obtain ⟨j, j1, j2, e⟩ := k.to i e.1 e.2
    rw [e]; exact h j (by omega)
  · rw [k.out i e]; exact h i hi

set_option maxHeartbeats 2000000 in
theorem insertion_any {R : List Value} (w : World) (pb g n cap N : Nat) (f : Nat → Int) (wt : Int → Int) (a b : Nat) (hR : Rw R w g n f) (hC : Cp pb g N wt w) (hP : Pl n N f) (hinc : ∀ i j, a ≤ i → i < j → j < b → f i < f j) (hn : n ≤ 1000000000) (hab : a ≤ b) (hb : b ≤ n) :
    Calls Try.prog 124 #[.slice (some ⟨g, 0, none⟩) n cap, .int .i64 a, .int .i64 b, .func (.func 96) #[] #[.pointer (some ⟨pb, 0, none⟩)]] w fun e w' => (∃ r, e = .returned r) ∧ ∃ h, Rw R w' g n h ∧ SameOn f h a b ∧ Srt wt h a b ∧ w.grownBy w' (some g) := by
  obtain ⟨a1, ha1⟩ : ∃ a1 : Nat, (a : Int) + 1 = a1 := ⟨a + 1, by omega⟩
  have HC := Lib.hid hC
  have HP := Lib.hid hP
  have HI := Lib.hid hinc
  clear hC hP hinc
  go_enter Try.func124, Try.ntmps124
  go_wp2
  go_loopw [8] (fun x wr => ∃ (i : Nat) (h : Nat → Int), a1 ≤ i ∧ (i ≤ b ∨ (a = b ∧ h = f)) ∧ x = .int .i64 i ∧ Rw R wr g n h ∧ SameOn f h a i ∧ Srt wt h a i ∧ w.grownBy wr (some g)) (fun x _ => b - (intOf x).toNat)
  case atStart => 
    refine ⟨a1, f, by omega, ?_, rfl, hR, SameOn.refl _ _ _, fun i j h1 h2 h3 => by omega, grown_refl _ _⟩
    by_cases e : a1 ≤ b
    · exact .inl e
    · exact .inr ⟨by omega, rfl⟩
  case round =>
    clear hR
    obtain ⟨i, h, hi, hib, rfl, hR, hS, hT, hG⟩ := hrel
    have HS := Lib.hid hS
    have HT := Lib.hid hT
    have HB := Lib.hid hib
    clear hS hT hib
    by_cases hlt : (i : Int) < (b : Int)
    · have hPh : Pl n N h := HP.out.same HS.out (by omega)
      have HPh := Lib.hid hPh
      clear hPh
      go_wp2_with fail
      go_loopw [9] (fun x wq => ∃ j : Nat, a ≤ j ∧ j ≤ i ∧ x = .int .i64 j ∧ Rw R wq g n (insAt h i j) ∧ (∀ k, j ≤ k → k < i → Ltw wt (h i) (h k)) ∧ w.grownBy wq (some g)) (fun x _ => (intOf x).toNat)
      case atStart => exact ⟨i, by omega, by omega, rfl, by rw [insAt_self]; exact hR, fun k k1 k2 => by omega, hG⟩
      case round =>
        clear hR hG
        obtain ⟨j, hj1, hj2, rfl, hR, hU, hG⟩ := hrel
        have HU := Lib.hid hU
        clear hU
        by_cases hgt : (a : Int) < (j : Int)
        · obtain ⟨q, hq⟩ : ∃ q : Nat, (j : Int) - 1 = q := ⟨j - 1, by omega⟩
          have eq_ : q = j - 1 := by omega
          have hw1 : IntKind.i64.wrap ((j : Int) - 1) = (q : Int) := by rw [hq]; exact IntWalk.i64_in _ (by omega)
          have hxj : insAt h i j j = h i := by unfold insAt; rw [if_pos rfl]
          have hxq : insAt h i j q = h q := by unfold insAt; rw [if_neg (by omega), if_neg (by omega)]
          have cj := hR.cell (i := j) (by omega)
          have cq := hR.cell (i := q) (by omega)
          rw [hxj] at cj
          rw [hxq] at cq
          have fj := hR.frozen j
          have fq := hR.frozen q
          have HXJ := Lib.hid hxj
          have HXQ := Lib.hid hxq
          have EQ := Lib.hid eq_
          clear hxj hxq eq_
          have i1 : (j : Int) < (n : Int) := by omega
          have i2 : (q : Int) < (n : Int) := by omega
          have hne : j ≠ q := by have := EQ.out; omega
          have hne2 : q ≠ j := by have := EQ.out; omega
          have g1 : decide ((a : Int) < (j : Int)) = true := by simp; omega
          have hlo : h q < h i := by
            have e1 : h i = f i := HS.out.out i (by omega)
            obtain ⟨t, t1, t2, e2⟩ := HS.out.to q (by have := EQ.out; omega) (by have := EQ.out; omega)
            rw [e1, e2]
            exact HI.out t i t1 (by omega) (by omega)
          have HLO := Lib.hid hlo
          clear hlo
          obtain ⟨D, hD⟩ : ∃ D, wt (h i) - wt (h q) = D := ⟨_, rfl⟩
          have HD := Lib.hid hD
          clear hD
          have hK : ∀ m, Calls Try.prog 96 #[.int .i64 (h i), .int .i64 (h q), .pointer (some ⟨pb, 0, none⟩)] (wr.drewN m) fun e w'' => e = .returned (.int .i64 D) ∧ ∃ d, w'' = (wr.drewN m).drewN d := fun m =>
            HC.out _ (grown_drewN hG m) (h i) (h q) D (HPh.out i (by omega)).1 (HPh.out i (by omega)).2 (HPh.out q (by omega)).1 (HPh.out q (by omega)).2 HD.out
          have HK := Lib.hid hK
          clear hK
          by_cases hd : D < 0
          · have g2 : decide (D < 0) = true := by simp; omega
            go_wp2_with fail
            go_quiet ((go_at_call 96; exact quiet_dr (HK.out _)))
            go_wp2_with fail
            have cj2 : (wr.drewN nq).cell? ⟨g, j, none⟩ = some (.int .i64 (h i)) := cj
            have cq2 : (wr.drewN nq).cell? ⟨g, q, none⟩ = some (.int .i64 (h q)) := cq
            have fj2 : (wr.drewN nq).frozen? ⟨g, j, none⟩ = false := fj
            have fq2 : (wr.drewN nq).frozen? ⟨g, q, none⟩ = false := fq
            obtain ⟨V, hV⟩ : ∃ V, V = wr.drewN nq := ⟨_, rfl⟩
            rw [← hV] at cj2 cq2 fj2 fq2 ⊢
            have hRV : Rw R V g n (insAt h i j) := by rw [hV]; exact hR.drewN _
            have hGV : w.grownBy V (some g) := by rw [hV]; exact grown_drewN hG _
            clear hV cj cq fj fq hR hG
            go_region
            obtain ⟨W, hW⟩ : ∃ W, W = ((V.setCell ⟨g, j, none⟩ (.int .i64 (h q))).setCell ⟨g, q, none⟩ (.int .i64 (h i))).drew := ⟨_, rfl⟩
            have hR2 : Rw R W g n (insAt h i q) := by
              have hs := hRV.swap (i := j) (j := q) (by omega) (by omega)
              rw [HXJ.out, HXQ.out] at hs
              rw [hW, EQ.out, ← insAt_swp h i j (by omega) hj2, ← EQ.out]
              exact hs
            have hG2 : w.grownBy W (some g) := by rw [hW]; exact grown_drew (grown_set (grown_set hGV _ _) _ _)
            rw [← hW]
            clear hW hRV hGV cj2 cq2 fj2 fq2
            go_wp2
            go_roundw
            case rel =>
              have e := EQ.out
              refine ⟨q, by omega, by omega, rfl, hR2, fun k k1 k2 => ?_, hG2⟩
              by_cases e2 : k = q
              · rw [e2]; exact (ltw_lo HLO.out).1 (by rw [HD.out]; exact hd)
              · exact HU.out k (by omega) k2
            case measure => have e := EQ.out; simp [intOf]; omega
          · have g2 : decide (D < 0) = false := by simp; omega
            go_wp2_with fail
            go_quiet ((go_at_call 96; exact quiet_dr (HK.out _)))
            go_wp2
            go_roundw
            case rel =>
              refine ⟨i + 1, insAt h i j, by omega, .inl (by omega), by go_num, hR.drewN _, (HS.out.wide (Nat.le_refl _) (by omega)).trans (insAt_same h hj1 hj2), insAt_srt HT.out hj1 hj2 HU.out (fun _ => ?_), grown_drewN hG _⟩
              have e := EQ.out
              rw [← e]
              exact Ltw.total (fun hx => by have h1 := (ltw_lo HLO.out).2 hx; have h2 := HD.out; omega) (by have := HLO.out; omega)
            case measure => simp [intOf]; omega
        · have hja : j = a := by omega
          subst hja
          have g1 : decide ((j : Int) < (j : Int)) = false := by simp
          go_wp2_with fail
          go_quiet (fail)
          go_wp2
          go_roundw
          case rel => exact ⟨i + 1, insAt h i j, by omega, .inl (by omega), by go_num, hR.drewN _, (HS.out.wide (Nat.le_refl _) (by omega)).trans (insAt_same h hj1 hj2), insAt_srt HT.out hj1 hj2 HU.out (fun hx => absurd hx (Nat.lt_irrefl _)), grown_drewN hG _⟩
          case measure => simp [intOf]; omega
    · go_wp2
      go_end0
      refine ⟨⟨_, rfl⟩, h, hR, ?_, ?_, hG⟩
      · rcases HB.out with hb' | ⟨hb', rfl⟩
        · have e : i = b := by omega
          rw [← e]; exact HS.out
        · exact SameOn.refl _ _ _
      · rcases HB.out with hb' | ⟨hb', rfl⟩
        · have e : i = b := by omega
          rw [← e]; exact HT.out
        · intro x y h1 h2 h3; omega
end Go.Proofs.Ytgemhgllifhckaa
