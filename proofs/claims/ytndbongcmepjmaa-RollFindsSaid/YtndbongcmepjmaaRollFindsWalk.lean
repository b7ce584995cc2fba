/- RollFinds: the walk. No conditions. -/
import Derived.Test.YtndbongcmepjmaaRollFind
namespace Go.Proofs.Ytndbongcmepjmaa
open Go.RowKit
set_option linter.unusedVariables false

theorem rowv_find {w : World} {base : Nat} {v : Value} {s t : ByteArray} {n : Nat} (h : w.ownsRow base 3 1 v (findL s t n).length (findC s t n)) :
    RowV w v (findL s t n).length 1 (fun j => .int .i64 ((fun j => (((findL s t n).getD j 0 : Nat) : Int)) j)) :=
  (RowV.of_owns h).congr (fun j hj => by
    have hj' : j < (findL s t n).length := by omega
    simp [findC, List.getD, hj'])

theorem rollFinds_walk (w : World) (s0 : ByteArray) (hs0 : s0.size ≤ 140737488351232) (t : ByteArray) (ht : t.size ≤ 140737488351232) :
    Calls Try.prog 10 #[.string s0, .string t] w fun e w' => e = .returned (.bool true) ∧ Below w.heap.size w w' := by
  have hcz := cutS_size s0 3000
  obtain ⟨s, hs⟩ : ∃ s, s = cutS s0 3000 := ⟨_, rfl⟩
  rw [← hs] at hcz
  have HS := Lib.hid hs
  clear hs
  by_cases h1 : t.size = 0 ∨ 1024 < t.size
  · have H1 := Lib.hid h1
    by_cases h2 : t.size = 0
    · have q : t.toList.isEmpty = true := by rw [ByteArray.toList_eq]; simp; exact Array.eq_empty_of_size_eq_zero h2
      clear h1 h2
      go_enter Try.func10, Try.ntmps10
      go_wp2_with fail
      refine (cut_any s0 3000 _ (by omega) (by omega)).mono ?_
      rintro e w' ⟨rfl, rfl⟩
      rw [← HS.out]
      go_wp2_with fail
      refine (find_arg _ _ _ H1.out).mono ?_
      rintro e w' ⟨rfl, rfl⟩
      go_wp2_with (go_at_call 14; refine (awake_any _).mono ?_; rintro e w' ⟨rfl, rfl⟩)
      go_ret
      exact ⟨rfl, Below.refl _ _⟩
    · have q := notEmpty (t := t) (by omega)
      have h3 : 1024 < t.size := by omega
      clear h1 h2
      go_enter Try.func10, Try.ntmps10
      go_wp2_with fail
      refine (cut_any s0 3000 _ (by omega) (by omega)).mono ?_
      rintro e w' ⟨rfl, rfl⟩
      rw [← HS.out]
      go_wp2_with fail
      refine (find_arg _ _ _ H1.out).mono ?_
      rintro e w' ⟨rfl, rfl⟩
      go_wp2_with (go_at_call 14; refine (awake_any _).mono ?_; rintro e w' ⟨rfl, rfl⟩)
      go_ret
      exact ⟨rfl, Below.refl _ _⟩
  · have hz1 : 1 ≤ t.size := by omega
    have hz2 : t.size ≤ 1024 := by omega
    have q := notEmpty (t := t) (by omega)
    clear h1
    by_cases hz3 : t.size ≤ s.size
    · go_enter Try.func10, Try.ntmps10
      go_wp2_with fail
      refine (cut_any s0 3000 _ (by omega) (by omega)).mono ?_
      rintro e w' ⟨rfl, rfl⟩
      rw [← HS.out]
      go_wp2_with fail
      refine (find_ok _ _ _ hz1 hz2 hz3 (by omega)).mono ?_
      rintro e W1 ⟨v, rfl, hO, hB⟩
      go_wp2_with fail
      refine (refFind_any _ _ _ hz2 (by omega)).mono ?_
      rintro e W2 ⟨v2, rfl, hO2, hB2⟩
      have r1 := (rowv_find hO).below hB2
      have r2 := rowv_find hO2
      have hB3 : Below w.heap.size w W2 := hB.trans (hB2.mono hB.size)
      have hle := findL_le s t (s.size + 1 - t.size)
      clear hO hO2 hB hB2
      go_wp2_with fail
      refine (ints_eq _ _ _ _ _ (by omega) r1 r2).mono ?_
      rintro e W3 ⟨rfl, m, rfl⟩
      go_wp2_with fail
      refine (awake_any _).mono ?_
      rintro e w' ⟨rfl, rfl⟩
      go_wp2
      go_ret
      exact ⟨rfl, below_drewN' hB3 _⟩
    · go_enter Try.func10, Try.ntmps10
      go_wp2_with fail
      refine (cut_any s0 3000 _ (by omega) (by omega)).mono ?_
      rintro e w' ⟨rfl, rfl⟩
      rw [← HS.out]
      go_wp2_with fail
      refine (find_short _ _ _ hz1 hz2 (by omega)).mono ?_
      rintro e W1 ⟨rfl, rfl⟩
      go_wp2_with fail
      refine (refFind_any _ _ _ hz2 (by omega)).mono ?_
      rintro e W2 ⟨v2, rfl, hO2, hB2⟩
      have hn : s.size + 1 - t.size = 0 := by omega
      rw [hn] at hO2
      have r2 : RowV W2 v2 0 1 (fun j => .int .i64 ((fun j => (((findL s t 0).getD j 0 : Nat) : Int)) j)) := rowv_find hO2
      have r1 : RowV W2 (.slice none 0 0) 0 1 (fun j => .int .i64 ((fun j => (((findL s t 0).getD j 0 : Nat) : Int)) j)) := .inl ⟨rfl, none, 0, rfl⟩
      clear hO2 hn
      go_wp2_with fail
      refine (ints_eq _ _ _ _ _ (by omega) r1 r2).mono ?_
      rintro e W3 ⟨rfl, m, rfl⟩
      go_wp2_with fail
      refine (awake_any _).mono ?_
      rintro e w' ⟨rfl, rfl⟩
      go_wp2
      go_ret
      exact ⟨rfl, below_drewN' hB2 _⟩
end Go.Proofs.Ytndbongcmepjmaa
