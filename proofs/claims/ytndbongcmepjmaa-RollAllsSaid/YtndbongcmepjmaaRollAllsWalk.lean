/- RollAlls: the walk. No conditions. -/
import Derived.Test.YtndbongcmepjmaaRollAll
namespace Go.Proofs.Ytndbongcmepjmaa
open Go.RowKit
set_option linter.unusedVariables false

theorem rowv_all {w : World} {base : Nat} {v : Value} {s : ByteArray} {z n : Nat} (h : w.ownsRow base 3 1 v n (allC s z n)) :
    RowV w v n 1 (fun j => .int .i64 ((fun j => ((weak (win s j z) : Nat) : Int)) j)) :=
  (RowV.of_owns h).congr (fun j hj => allC_get s z n j (by omega))

theorem rollAlls_walk (w : World) (s0 : ByteArray) (hs0 : s0.size ≤ 140737488351232) (size : Int) (wn : (Lit.int .i64 size).wf = true) :
    Calls Try.prog 8 #[.string s0, .int .i64 size] w fun e w' => e = .returned (.bool true) ∧ Below w.heap.size w w' := by
  clear wn
  have hcz := cutS_size s0 600
  obtain ⟨s, hs⟩ : ∃ s, s = cutS s0 600 := ⟨_, rfl⟩
  rw [← hs] at hcz
  have HS := Lib.hid hs
  clear hs
  by_cases h1 : size < 1 ∨ 1024 < size
  · have H1 := Lib.hid h1
    by_cases h2 : size < 1
    all_goals
      clear h1
      go_enter Try.func8, Try.ntmps8
      go_wp2_with fail
      refine (cut_any s0 600 _ (by omega) (by omega)).mono ?_
      rintro e w' ⟨rfl, rfl⟩
      rw [← HS.out]
      go_wp2_with fail
      refine (all_arg _ _ _ H1.out).mono ?_
      rintro e w' ⟨rfl, rfl⟩
      have h3 := H1.out
      go_wp2_with (go_at_call 14; refine (awake_any _).mono ?_; rintro e w' ⟨rfl, rfl⟩)
      go_ret
      exact ⟨rfl, Below.refl _ _⟩
  · obtain ⟨z, rfl⟩ : ∃ z : Nat, size = z := ⟨size.toNat, by omega⟩
    have hz1 : 1 ≤ z := by omega
    have hz2 : z ≤ 1024 := by omega
    clear h1
    by_cases hz3 : z ≤ s.size
    · go_enter Try.func8, Try.ntmps8
      go_wp2_with fail
      refine (cut_any s0 600 _ (by omega) (by omega)).mono ?_
      rintro e w' ⟨rfl, rfl⟩
      rw [← HS.out]
      go_wp2_with fail
      refine (all_ok _ _ _ hz1 hz2 hz3 (by omega)).mono ?_
      rintro e W1 ⟨v, rfl, hO, hB⟩
      go_wp2_with fail
      refine (refAll_any _ _ _ hz2 (by omega)).mono ?_
      rintro e W2 ⟨v2, rfl, hO2, hB2⟩
      have hn : s.size - z + 1 = s.size + 1 - z := by omega
      rw [hn] at hO
      have r1 := (rowv_all hO).below hB2
      have r2 := rowv_all hO2
      have hB3 : Below w.heap.size w W2 := hB.trans (hB2.mono hB.size)
      clear hO hO2 hB hB2 hn
      go_wp2_with fail
      refine (ints_eq _ _ _ _ _ (by omega) r1 r2).mono ?_
      rintro e W3 ⟨rfl, m, rfl⟩
      go_wp2_with fail
      refine (awake_any _).mono ?_
      rintro e w' ⟨rfl, rfl⟩
      go_wp2
      go_ret
      exact ⟨rfl, below_drewN' hB3 _⟩
    · go_enter Try.func8, Try.ntmps8
      go_wp2_with fail
      refine (cut_any s0 600 _ (by omega) (by omega)).mono ?_
      rintro e w' ⟨rfl, rfl⟩
      rw [← HS.out]
      go_wp2_with fail
      refine (all_short _ _ _ hz1 hz2 (by omega)).mono ?_
      rintro e W1 ⟨rfl, rfl⟩
      go_wp2_with fail
      refine (refAll_any _ _ _ hz2 (by omega)).mono ?_
      rintro e W2 ⟨v2, rfl, hO2, hB2⟩
      have hn : s.size + 1 - z = 0 := by omega
      rw [hn] at hO2
      have r2 := rowv_all hO2
      have r1 : RowV W2 (.slice none 0 0) 0 1 (fun j => .int .i64 ((fun j => ((weak (win s j z) : Nat) : Int)) j)) := .inl ⟨rfl, none, 0, rfl⟩
      clear hO2 hn
      go_wp2_with fail
      refine (ints_eq _ _ _ _ _ (by omega) r1 r2).mono ?_
      rintro e W3 ⟨rfl, m, rfl⟩
      go_wp2_with fail
      refine (awake_any _).mono ?_
      rintro e w' ⟨rfl, rfl⟩
      go_wp2
      go_ret
      exact ⟨rfl, below_drewN' hB2 _⟩
end Go.Proofs.Ytndbongcmepjmaa
