/- RollWindows: the walk. No conditions. -/
import Derived.Test.YtndbongcmepjmaaRollSkip
import Derived.Test.YtndbongcmepjmaaOpen
import Derived.OpenShut
namespace Go.Proofs.Ytndbongcmepjmaa
open Go.RowKit
set_option linter.unusedVariables false

theorem refSum_win (s : ByteArray) (A z : Nat) (w : World) (hz : z ≤ 1024) :
    Calls Try.prog 13 #[.string (s.extract A (A + z))] w fun e w' => e = .returned (.int .i64 (weak (win s A z))) ∧ w = w' := by
  rw [← ext_win]
  exact refSum_any _ _ (by simp; omega)

set_option maxRecDepth 100000 in
theorem rollWindows_walk (w : World) (s0 : ByteArray) (hs0 : s0.size ≤ 140737488351232) (size : Int) (wn : (Lit.int .i64 size).wf = true)
    (ao : Option Addr) (len cap : Nat) (ms : List Int) (hm : IsInts w ao len cap ms) (hcap : cap * 8 ≤ 140737488351232) :
    Calls Try.prog 9 #[.string s0, .int .i64 size, .slice ao len cap] w fun e w' => e = .returned (.bool true) ∧ Below w.heap.size w w' := by
  clear wn
  have hcz := cutS_size s0 2000
  obtain ⟨s, hs⟩ : ∃ s, s = cutS s0 2000 := ⟨_, rfl⟩
  rw [← hs] at hcz
  have HS := Lib.hid hs
  clear hs
  obtain ⟨hlc, hwf, hc⟩ := hm
  have hlen : len ≤ 17592186043904 := by omega
  clear hcap
  by_cases h1 : size < 1 ∨ 1024 < size
  · have H1 := Lib.hid h1
    by_cases h2 : size < 1
    all_goals
      clear h1
      go_enter Try.func9, Try.ntmps9
      go_wp2_with fail
      refine (cut_any s0 2000 _ (by omega) (by omega)).mono ?_
      rintro e w' ⟨rfl, rfl⟩
      rw [← HS.out]
      go_wp2_with fail
      refine (new_arg _ _ _ H1.out).mono ?_
      rintro e w' ⟨rfl, rfl⟩
      have h3 := H1.out
      go_wp2_with (go_at_call 14; refine (awake_any _).mono ?_; rintro e w' ⟨rfl, rfl⟩)
      go_ret
      exact ⟨rfl, Below.refl _ _⟩
  · obtain ⟨z, rfl⟩ : ∃ z : Nat, size = z := ⟨size.toNat, by omega⟩
    have hz1 : 1 ≤ z := by omega
    have hz2 : z ≤ 1024 := by omega
    clear h1
    by_cases hz3 : z ≤ s.size
    · have d1 : decide ((z : Int) < 1) = false := by simp; omega
      have d2 : decide ((1024 : Int) < (z : Int)) = false := by simp; omega
      have d3 : decide (s.size < z) = false := by simp; omega
      have d4 : ¬ s.size < z := by omega
      go_enter Try.func9, Try.ntmps9
      go_wp2_with fail
      refine (cut_any s0 2000 _ (by omega) (by omega)).mono ?_
      rintro e w' ⟨rfl, rfl⟩
      rw [← HS.out]
      go_wp2_with fail
      refine (new_ok _ _ _ (by omega) (by omega) (by omega) (by omega)).mono ?_
      rintro e W1 ⟨rfl, ⟨o, ho⟩, hR⟩
      have hB : Below w.heap.size w W1 := by rw [ho]; exact (Below.refl _ _).alloc (Nat.le_refl _) _
      clear ho
      go_wp2
      go_loopw [9, 10, 11, 12, 13] (fun a j _ _ _ wr => ∃ k i : Nat, k + z ≤ s.size ∧ i ≤ len ∧ a = .int .i64 k ∧ j = .int .i64 i ∧ RollW wr w.heap.size s z k ∧ Below w.heap.size w wr) (fun _ j _ _ _ _ => len - (intOf j).toNat)
      case atStart => exact ⟨0, 0, by omega, by omega, rfl, rfl, hR, hB⟩
      case round =>
        clear hR hB
        obtain ⟨k, i, hk, hil, rfl, rfl, hR, hB⟩ := hrel
        by_cases hi : i < len ∧ i < 60
        · obtain ⟨hi1, hi2⟩ := hi
          obtain ⟨b, off, rfl, hbw, hcc⟩ := hc (by omega)
          obtain ⟨m, hmm⟩ : ∃ m, m = ms.getD i 0 := ⟨_, rfl⟩
          have hcell := (hB.cell (p := ⟨b, off + i, none⟩) hbw).trans (hcc i hi1)
          rw [← hmm] at hcell
          clear hcc hmm hc hwf hlc
          by_cases hneg : m < 0
          · by_cases hgo : k + z < s.size
            · have g1 : decide ((1 : Int) ≤ (s.size : Int) - (z : Int) - (k : Int)) = true := by simp; omega
              go_wp2_with fail
              refine (next_ok _ _ _ _ _ hR (by omega) (by omega) hgo (by omega)).mono ?_
              rintro e V5 ⟨rfl, hgr, hRn⟩
              have hBn : Below w.heap.size w V5 := hB.grown hgr hB.size (by intro k hk; cases hk; exact Nat.le_refl _)
              clear hR hB hgr hcell
              go_wp2
              obtain ⟨K, hK⟩ : ∃ K : Nat, K = k + 1 := ⟨_, rfl⟩
              rw [← hK] at hRn
              have hK2 : (k : Int) + 1 = (K : Int) := by omega
              rw [hK2]
              have hKb : K + z ≤ s.size := by omega
              clear hK hK2 g1
              have v0 : (K : Int) + (z : Int) ≤ (s.size : Int) := by omega
              have v1 : IntKind.i64.wrap ((K : Int) + (z : Int)) = (K : Int) + (z : Int) := IntWalk.i64_in _ (by omega)
              have v3 : ((K : Int) + (z : Int)).toNat = K + z := by omega
              have v4 : (0 : Int) ≤ (K : Int) + (z : Int) := by omega
              have v5 : (K : Int) ≤ (K : Int) + (z : Int) := by omega
              go_quiet (first
              | (go_at_call 18; exact quiet_eq (at_any _ _ _ _ _ _ _ hRn (by omega)))
              | (go_at_call 19; exact Calls.quiet_of (sumw_ok _ _ _ _ _ hRn))
              | (go_at_call 13; exact quiet_eq (refSum_win _ _ _ _ (by omega))))
              go_wp2
              go_roundw
              case rel => exact ⟨K, i + 1, by omega, by omega, rfl, by go_num, hRn, below_drewN' hBn _⟩
              case measure => simp [intOf]; omega
            · have g1 : decide ((1 : Int) ≤ (s.size : Int) - (z : Int) - (k : Int)) = false := by simp; omega
              go_wp2_with fail
              refine (next_end _ _ _ _ _ _ _ hR (by omega) (by omega) (by omega)).mono ?_
              rintro e V5 ⟨rfl, n1, hw3⟩
              obtain ⟨K, rfl⟩ : ∃ K : Nat, K = k := ⟨_, rfl⟩
              have hRn : RollW V5 w.heap.size s z K := by rw [hw3]; exact hR
              have hBn : Below w.heap.size w V5 := by rw [hw3]; exact below_drewN' hB _
              clear hR hB hw3 hcell
              go_wp2
              have v0 : (K : Int) + (z : Int) ≤ (s.size : Int) := by omega
              have v1 : IntKind.i64.wrap ((K : Int) + (z : Int)) = (K : Int) + (z : Int) := IntWalk.i64_in _ (by omega)
              have v3 : ((K : Int) + (z : Int)).toNat = K + z := by omega
              have v4 : (0 : Int) ≤ (K : Int) + (z : Int) := by omega
              have v5 : (K : Int) ≤ (K : Int) + (z : Int) := by omega
              go_quiet (first
              | (go_at_call 18; exact quiet_eq (at_any _ _ _ _ _ _ _ hRn (by omega)))
              | (go_at_call 19; exact Calls.quiet_of (sumw_ok _ _ _ _ _ hRn))
              | (go_at_call 13; exact quiet_eq (refSum_win _ _ _ _ (by omega))))
              go_wp2
              go_roundw
              case rel => exact ⟨K, i + 1, by omega, by omega, rfl, by go_num, hRn, below_drewN' hBn _⟩
              case measure => simp [intOf]; omega
          · obtain ⟨M, rfl⟩ : ∃ M : Nat, m = M := ⟨m.toNat, by omega⟩
            by_cases hgo : k + z + M ≤ s.size
            · have g1 : decide ((M : Int) ≤ (s.size : Int) - (z : Int) - (k : Int)) = true := by simp; omega
              go_wp2_with fail
              refine (skip_ok _ _ _ _ _ _ hR (by omega) (by omega) (by omega) (by omega)).mono ?_
              rintro e V5 ⟨rfl, hgr, hRn⟩
              have hBn : Below w.heap.size w V5 := hB.grown hgr hB.size (by intro k hk; cases hk; exact Nat.le_refl _)
              clear hR hB hgr hcell
              go_wp2
              obtain ⟨K, hK⟩ : ∃ K : Nat, K = k + M := ⟨_, rfl⟩
              rw [← hK] at hRn
              have hK2 : (k : Int) + (M : Int) = (K : Int) := by omega
              rw [hK2]
              have hKb : K + z ≤ s.size := by omega
              clear hK hK2 g1
              have v0 : (K : Int) + (z : Int) ≤ (s.size : Int) := by omega
              have v1 : IntKind.i64.wrap ((K : Int) + (z : Int)) = (K : Int) + (z : Int) := IntWalk.i64_in _ (by omega)
              have v3 : ((K : Int) + (z : Int)).toNat = K + z := by omega
              have v4 : (0 : Int) ≤ (K : Int) + (z : Int) := by omega
              have v5 : (K : Int) ≤ (K : Int) + (z : Int) := by omega
              go_quiet (first
              | (go_at_call 18; exact quiet_eq (at_any _ _ _ _ _ _ _ hRn (by omega)))
              | (go_at_call 19; exact Calls.quiet_of (sumw_ok _ _ _ _ _ hRn))
              | (go_at_call 13; exact quiet_eq (refSum_win _ _ _ _ (by omega))))
              go_wp2
              go_roundw
              case rel => exact ⟨K, i + 1, by omega, by omega, rfl, by go_num, hRn, below_drewN' hBn _⟩
              case measure => simp [intOf]; omega
            · have g1 : decide ((M : Int) ≤ (s.size : Int) - (z : Int) - (k : Int)) = false := by simp; omega
              go_wp2_with fail
              refine (skip_no _ _ _ _ _ _ hR (by omega) (by omega) (by omega) (.inr (by omega))).mono ?_
              rintro e V5 ⟨rfl, n1, hw3⟩
              obtain ⟨K, rfl⟩ : ∃ K : Nat, K = k := ⟨_, rfl⟩
              have hRn : RollW V5 w.heap.size s z K := by rw [hw3]; exact hR
              have hBn : Below w.heap.size w V5 := by rw [hw3]; exact below_drewN' hB _
              clear hR hB hw3 hcell
              go_wp2
              have v0 : (K : Int) + (z : Int) ≤ (s.size : Int) := by omega
              have v1 : IntKind.i64.wrap ((K : Int) + (z : Int)) = (K : Int) + (z : Int) := IntWalk.i64_in _ (by omega)
              have v3 : ((K : Int) + (z : Int)).toNat = K + z := by omega
              have v4 : (0 : Int) ≤ (K : Int) + (z : Int) := by omega
              have v5 : (K : Int) ≤ (K : Int) + (z : Int) := by omega
              go_quiet (first
              | (go_at_call 18; exact quiet_eq (at_any _ _ _ _ _ _ _ hRn (by omega)))
              | (go_at_call 19; exact Calls.quiet_of (sumw_ok _ _ _ _ _ hRn))
              | (go_at_call 13; exact quiet_eq (refSum_win _ _ _ _ (by omega))))
              go_wp2
              go_roundw
              case rel => exact ⟨K, i + 1, by omega, by omega, rfl, by go_num, hRn, below_drewN' hBn _⟩
              case measure => simp [intOf]; omega
        · by_cases hi1 : i < len
          all_goals
            go_wp2_with fail
            refine (skip_no _ _ _ _ _ _ hR (by omega) (by omega) (by omega) (.inl (by omega))).mono ?_
            rintro e V5 ⟨rfl, n1, hw3⟩
            have hRn : RollW V5 w.heap.size s z k := by rw [hw3]; exact hR
            have hBn : Below w.heap.size w V5 := by rw [hw3]; exact below_drewN' hB _
            clear hR hB hw3
            go_wp2_with fail
            refine (at_any _ _ _ _ _ _ _ hRn (by omega)).mono ?_
            rintro e V6 ⟨rfl, rfl⟩
            go_wp2_with (go_at_call 14; refine (awake_any _).mono ?_; rintro e w' ⟨rfl, rfl⟩)
            go_ret
            exact ⟨rfl, hBn⟩
    · go_enter Try.func9, Try.ntmps9
      go_wp2_with fail
      refine (cut_any s0 2000 _ (by omega) (by omega)).mono ?_
      rintro e w' ⟨rfl, rfl⟩
      rw [← HS.out]
      go_wp2_with fail
      refine (new_short _ _ _ (by omega) (by omega) (by omega)).mono ?_
      rintro e w' ⟨rfl, rfl⟩
      go_wp2_with (go_at_call 14; refine (awake_any _).mono ?_; rintro e w' ⟨rfl, rfl⟩)
      go_ret
      exact ⟨rfl, Below.refl _ _⟩
end Go.Proofs.Ytndbongcmepjmaa
