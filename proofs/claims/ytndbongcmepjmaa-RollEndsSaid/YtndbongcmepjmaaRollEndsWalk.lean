/- RollEnds: the walk. No conditions. -/
import Derived.Test.YtndbongcmepjmaaRollNew
namespace Go.Proofs.Ytndbongcmepjmaa
open Go.RowKit
set_option linter.unusedVariables false

theorem rollEnds_walk (w : World) (s0 : ByteArray) (hs0 : s0.size ≤ 140737488351232) (size : Int) (wn : (Lit.int .i64 size).wf = true) :
    Calls Try.prog 6 #[.string s0, .int .i64 size] w fun e w' => e = .returned (.bool true) ∧ Below w.heap.size w w' := by
  clear wn
  have hcz := cutS_size s0 2000
  by_cases h1 : size < 1 ∨ 1024 < size
  · have H1 := Lib.hid h1
    clear h1
    go_enter Try.func6, Try.ntmps6
    go_wp2_with fail
    refine (cut_any s0 2000 _ (by omega) (by omega)).mono ?_
    rintro e w' ⟨rfl, rfl⟩
    go_wp2_with fail
    refine (new_arg _ _ _ H1.out).mono ?_
    rintro e w' ⟨rfl, rfl⟩
    go_wp2_with fail
    refine (awake_any _).mono ?_
    rintro e w' ⟨rfl, rfl⟩
    go_wp2
    go_ret
    exact ⟨rfl, Below.refl _ _⟩
  · obtain ⟨s, hs⟩ : ∃ s, s = cutS s0 2000 := ⟨_, rfl⟩
    rw [← hs] at hcz
    have HS := Lib.hid hs
    clear hs
    by_cases h2 : (s.size : Int) < size
    · go_enter Try.func6, Try.ntmps6
      go_wp2_with fail
      refine (cut_any s0 2000 _ (by omega) (by omega)).mono ?_
      rintro e w' ⟨rfl, rfl⟩
      rw [← HS.out]
      go_wp2_with fail
      refine (new_short _ _ _ (by omega) (by omega) (by omega)).mono ?_
      rintro e w' ⟨rfl, rfl⟩
      go_wp2_with fail
      refine (awake_any _).mono ?_
      rintro e w' ⟨rfl, rfl⟩
      go_wp2
      go_ret
      exact ⟨rfl, Below.refl _ _⟩
    · obtain ⟨z, rfl⟩ : ∃ z : Nat, size = z := ⟨size.toNat, by omega⟩
      have hz1 : 1 ≤ z := by omega
      have hz2 : z ≤ 1024 := by omega
      have hz3 : z ≤ s.size := by omega
      clear h1 h2
      go_enter Try.func6, Try.ntmps6
      go_wp2_with fail
      refine (cut_any s0 2000 _ (by omega) (by omega)).mono ?_
      rintro e w' ⟨rfl, rfl⟩
      rw [← HS.out]
      go_wp2_with fail
      refine (new_ok _ _ _ (by omega) (by omega) (by omega) (by omega)).mono ?_
      rintro e W1 ⟨rfl, ⟨o, ho⟩, hR⟩
      have hB : Below w.heap.size w W1 := by rw [ho]; exact (Below.refl _ _).alloc (Nat.le_refl _) _
      clear ho
      go_wp2
      go_loopw [7] (fun i wr => ∃ k : Nat, k + z ≤ s.size ∧ i = .int .i64 k ∧ RollW wr w.heap.size s z k ∧ Below w.heap.size w wr) (fun i _ => s.size - (intOf i).toNat)
      case atStart => exact ⟨0, by omega, rfl, hR, hB⟩
      case round =>
        clear hR hB
        obtain ⟨k, hk, rfl, hR, hB⟩ := hrel
        by_cases hlt : k + z < s.size
        · go_wp2_with fail
          refine (next_ok _ _ _ _ _ hR (by omega) (by omega) hlt (by omega)).mono ?_
          rintro e W2 ⟨rfl, hg, hR2⟩
          have hB2 : Below w.heap.size w W2 := hB.grown hg hB.size (by intro k hk; cases hk; exact Nat.le_refl _)
          clear hR hB hg
          go_wp2
          go_roundw
          case rel => exact ⟨k + 1, by omega, by go_num, hR2, hB2⟩
          case measure => simp [intOf]; omega
        · go_wp2_with fail
          refine (next_end _ _ _ _ _ _ _ hR (by omega) (by omega) (by omega)).mono ?_
          rintro e W2 ⟨rfl, n1, hw2⟩
          have hR2 : RollW W2 w.heap.size s z k := by rw [hw2]; exact hR
          have hB2 : Below w.heap.size w W2 := by rw [hw2]; exact below_drewN' hB _
          clear hR hB hw2
          have w1 : IntKind.i64.wrap ((s.size : Int) - (z : Int)) = (s.size : Int) - (z : Int) := IntWalk.i64_in _ (by omega)
          have b1 : (k : Int) ≤ (s.size : Int) := by omega
          have b2 : k ≤ s.size := by omega
          have e1 : ((k : Int) == (s.size : Int) - (z : Int)) = true := by simp; omega
          have e2 : (((weak (win s k z) : Nat) : Int) == ((weak (List.take (s.size - k) (List.drop k s.data.toList)) : Nat) : Int)) = true := by
            rw [show z = s.size - k by omega]; simp [win]
          go_wp2
          go_quiet (first
            | (go_at_call 18; exact quiet_eq (at_any _ _ _ _ _ _ _ hR2 (by omega)))
            | (go_at_call 17; exact Calls.quiet_of (next_end _ _ _ _ _ _ _ hR2 (by omega) (by omega) (by omega)))
            | (go_at_call 19; exact Calls.quiet_of (sumw_ok _ _ _ _ _ hR2))
            | (go_at_call 13; exact quiet_eq (refSum_any _ _ (by simp; omega)))
            | (go_at_call 14; exact quiet_eq (awake_any _)))
          go_wp2
          go_ret
          exact ⟨rfl, below_drewN' hB2 _⟩
end Go.Proofs.Ytndbongcmepjmaa
