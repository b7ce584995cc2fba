/- Find, and the reference's Find: the places of a text in another one. Conditions: as named in each theorem. -/
import Derived.Test.YtndbongcmepjmaaRollAll
namespace Go.Proofs.Ytndbongcmepjmaa
open Go.RowKit
set_option linter.unusedVariables false

/-- the places below n at which t stands in s -/
def findL (s t : ByteArray) (n : Nat) : List Nat := (List.range n).filter fun i => decide (win s i t.size = t.data.toList)
def findC (s t : ByteArray) (n : Nat) : List Value := (findL s t n).map fun i => .int .i64 (i : Nat)
theorem findL_le (s t : ByteArray) (n : Nat) : (findL s t n).length ≤ n := by
  have := List.length_filter_le (fun i => decide (win s i t.size = t.data.toList)) (List.range n)
  simpa [findL] using this
theorem findC_len (s t : ByteArray) (n : Nat) : (findC s t n).length = (findL s t n).length := by simp [findC]
theorem findL_hit (s t : ByteArray) (n : Nat) (h : win s n t.size = t.data.toList) : findL s t (n + 1) = findL s t n ++ [n] := by simp [findL, List.range_succ, h]
theorem findL_miss (s t : ByteArray) (n : Nat) (h : win s n t.size ≠ t.data.toList) : findL s t (n + 1) = findL s t n := by simp [findL, List.range_succ, h]
theorem findC_hit (s t : ByteArray) (n : Nat) (h : win s n t.size = t.data.toList) : findC s t (n + 1) = findC s t n ++ [.int .i64 (n : Nat)] := by simp [findC, findL_hit s t n h]
theorem findC_miss (s t : ByteArray) (n : Nat) (h : win s n t.size ≠ t.data.toList) : findC s t (n + 1) = findC s t n := by simp [findC, findL_miss s t n h]

theorem refFind_any (s t : ByteArray) (w : World) (h2 : t.size ≤ 1024) (h4 : s.size ≤ 100000) :
    Calls Try.prog 25 #[.string s, .string t] w fun e w' => ∃ v, e = .returned v ∧ w'.ownsRow w.heap.size 3 1 v (findL s t (s.size + 1 - t.size)).length (findC s t (s.size + 1 - t.size)) ∧ Below w.heap.size w w' := by
  obtain ⟨i0, hi, hz0, hz1, hz2⟩ := info_parts infoInt
  go_enter Try.func25, Try.ntmps25
  go_wp2
  go_loopw [5, 6] (fun v i wr => ∃ k : Nat, k ≤ s.size + 1 - t.size ∧ i = .int .i64 k ∧ wr.ownsRow w.heap.size 3 1 v (findL s t k).length (findC s t k) ∧ Below w.heap.size w wr) (fun _ i _ => s.size + 1 - t.size - (intOf i).toNat)
  case atStart => exact ⟨0, by omega, rfl, World.ownsRow_nil _ _ _ _, Below.refl _ _⟩
  case round =>
    obtain ⟨k, hk, rfl, hO, hB⟩ := hrel
    have hS := hB.size
    by_cases hlt : k + t.size ≤ s.size
    · have q1 : (k : Int) + (t.size : Int) ≤ (s.size : Int) := by omega
      have t1 : ((k : Int) + (t.size : Int)).toNat = k + t.size := by omega
      by_cases hw : win s k t.size = t.data.toList
      · have q2 : ((s.extract k (k + t.size)).toList == t.toList) = true := beqS_t (by rw [ext_win, hw])
        have HC := Lib.hid (findC_hit s t k hw)
        have HL := Lib.hid (congrArg List.length (findL_hit s t k hw))
        have hle := findL_le s t k
        clear hw
        go_wp2_with (at_builtin; refine wpList_append_own _ rfl _ _ 39 rfl w.heap.size 3 i0 (.int .i64 0) 1 8 Try.underlying39 hi hz0 hz1 hz2 rfl (by decide) _ _ _ rfl (hO.alloc _) ⟨wr.heap.size, 0, none⟩ 1 1 [.int .i64 (k : Nat)] rfl rfl (cell1_new _ _ _) (one1 _ rfl) (by unfold maxLen; omega) (by omega) (by simp; omega) ?_)
        intro v' V3 hO3 hgr3 _
        have hO4 : V3.ownsRow w.heap.size 3 1 v' (findL s t (k + 1)).length (findC s t (k + 1)) := by rw [HC.out, HL.out, List.length_append]; exact hO3
        have hB4 : Below w.heap.size w V3 := (hB.alloc (by omega) _).grown hgr3 (by simp; omega) (fun j hj => by have := World.ownsRow.lt hO j hj; omega)
        clear hO3 hgr3 hO hB
        go_wp2
        go_roundw
        case rel => exact ⟨k + 1, by omega, by go_num, hO4, hB4⟩
        case measure => simp [intOf]; omega
      · have q2 : ((s.extract k (k + t.size)).toList == t.toList) = false := beqS_f (by rw [ext_win]; exact hw)
        have HC := Lib.hid (findC_miss s t k hw)
        have HL := Lib.hid (congrArg List.length (findL_miss s t k hw))
        clear hw
        go_wp2
        go_roundw
        case rel => exact ⟨k + 1, by omega, by go_num, by rw [HC.out, HL.out]; exact hO, hB⟩
        case measure => simp [intOf]; omega
    · have q1 : ¬ (k : Int) + (t.size : Int) ≤ (s.size : Int) := by omega
      go_wp2
      go_ret
      refine ⟨u5, rfl, ?_, hB⟩
      rw [show s.size + 1 - t.size = k by omega]
      exact hO

theorem find_arg (s t : ByteArray) (w : World) (h : t.size = 0 ∨ 1024 < t.size) :
    Calls Try.prog 24 #[.string s, .string t] w fun e w' => e = .returned (.tuple #[.slice none 0 0, .int .i64 1]) ∧ w = w' := by
  by_cases h0 : t.size = 0
  · have q : t.toList.isEmpty = true := by rw [ByteArray.toList_eq]; simp; exact Array.eq_empty_of_size_eq_zero h0
    clear h h0
    go_enter Try.func24, Try.ntmps24
    go_wp2
    go_ret2
    exact ⟨rfl, rfl⟩
  · have h1 : 1024 < t.size := by omega
    have q : t.toList.isEmpty = false := by
      rw [ByteArray.toList_eq]
      have : 0 < t.data.toList.length := by simp; omega
      cases hl : t.data.toList with
      | nil => rw [hl] at this; simp at this
      | cons a l => rfl
    clear h h0
    go_enter Try.func24, Try.ntmps24
    go_wp2
    go_ret2
    exact ⟨rfl, rfl⟩

theorem notEmpty {t : ByteArray} (h : 0 < t.size) : t.toList.isEmpty = false := by
  rw [ByteArray.toList_eq]
  have : 0 < t.data.toList.length := by simp; omega
  cases hl : t.data.toList with
  | nil => rw [hl] at this; simp at this
  | cons a l => rfl

theorem find_short (s t : ByteArray) (w : World) (h1 : 1 ≤ t.size) (h2 : t.size ≤ 1024) (h3 : s.size < t.size) :
    Calls Try.prog 24 #[.string s, .string t] w fun e w' => e = .returned (.tuple #[.slice none 0 0, .int .i64 0]) ∧ w = w' := by
  have q := notEmpty (t := t) (by omega)
  go_enter Try.func24, Try.ntmps24
  go_wp2_with fail
  refine (new_short _ _ _ (by omega) (by omega) (by omega)).mono ?_
  rintro e W1 ⟨rfl, rfl⟩
  go_wp2
  go_ret2
  exact ⟨rfl, rfl⟩

theorem find_ok (s t : ByteArray) (w : World) (h1 : 1 ≤ t.size) (h2 : t.size ≤ 1024) (h3 : t.size ≤ s.size) (h4 : s.size ≤ 1000000) :
    Calls Try.prog 24 #[.string s, .string t] w fun e w' => ∃ v, e = .returned (.tuple #[v, .int .i64 0]) ∧ w'.ownsRow w.heap.size 3 1 v (findL s t (s.size + 1 - t.size)).length (findC s t (s.size + 1 - t.size)) ∧ Below w.heap.size w w' := by
  obtain ⟨i0, hi, hz0, hz1, hz2⟩ := info_parts infoInt
  have q := notEmpty (t := t) (by omega)
  go_enter Try.func24, Try.ntmps24
  go_wp2_with fail
  refine (new_ok _ _ _ h1 h2 h3 h4).mono ?_
  rintro e W1 ⟨rfl, ⟨o, ho⟩, hR⟩
  have hB : Below w.heap.size w W1 := by rw [ho]; exact (Below.refl _ _).alloc (Nat.le_refl _) _
  have hS : w.heap.size + 1 ≤ W1.heap.size := by rw [ho]; simp
  clear ho
  go_wp2_with fail
  refine (rollSum_any _ _ (by omega)).mono ?_
  rintro e w' ⟨rfl, rfl⟩
  go_wp2
  go_loopg [9, 10] (s.size - t.size) (fun g v i wr => ∃ k : Nat, k + t.size ≤ s.size ∧ g = s.size - t.size - k ∧ RollW wr w.heap.size s t.size k ∧ wr.ownsRow (w.heap.size + 1) 3 1 v (findL s t k).length (findC s t k) ∧ Below w.heap.size w wr ∧ w.heap.size + 1 ≤ wr.heap.size)
  case atStart => exact ⟨0, by omega, by omega, hR, World.ownsRow_nil _ _ _ _, hB, hS⟩
  case round =>
    clear hR hB hS
    obtain ⟨k, hk, hg, hR, hO, hB, hS⟩ := hrel
    have HG := Lib.hid hg
    clear hg
    have q1 : (k : Int) + (t.size : Int) ≤ (s.size : Int) := by omega
    have t1 : ((k : Int) + (t.size : Int)).toNat = k + t.size := by omega
    go_wp2_with fail
    refine (at_any _ _ _ _ _ _ _ hR (by omega)).mono ?_
    rintro e V1 ⟨rfl, rfl⟩
    go_wp2_with fail
    refine (sumw_ok _ _ _ _ _ hR).mono ?_
    rintro e V2 ⟨rfl, n2, hw3⟩
    have hR2 : RollW V2 w.heap.size s t.size k := by rw [hw3]; exact hR
    have hB2 : Below w.heap.size w V2 := by rw [hw3]; exact below_drewN' hB _
    have hS2 : w.heap.size + 1 ≤ V2.heap.size := by rw [hw3]; exact hS
    have hO2 : V2.ownsRow (w.heap.size + 1) 3 1 u9 (findL s t k).length (findC s t k) := by rw [hw3]; exact hO
    clear hR hO hB hS hw3
    by_cases hw : win s k t.size = t.data.toList
    · have q2 : ((s.extract k (k + t.size)).toList == t.toList) = true := beqS_t (by rw [ext_win, hw])
      have q3 : (((weak (win s k t.size) : Nat) : Int) == ((weak t.data.toList : Nat) : Int)) = true := by rw [hw]; simp
      have HC := Lib.hid (findC_hit s t k hw)
      have HL := Lib.hid (congrArg List.length (findL_hit s t k hw))
      have hle := findL_le s t k
      clear hw
      go_wp2_with (at_builtin; refine wpList_append_own _ rfl _ _ 39 rfl (w.heap.size + 1) 3 i0 (.int .i64 0) 1 8 Try.underlying39 hi hz0 hz1 hz2 rfl (by decide) _ _ _ rfl (hO2.alloc _) ⟨V2.heap.size, 0, none⟩ 1 1 [.int .i64 (k : Nat)] rfl rfl (cell1_new _ _ _) (one1 _ rfl) (by unfold maxLen; omega) (by omega) (by simp; omega) ?_)
      intro v' V3 hO3 hgr3 _
      have hO4 : V3.ownsRow (w.heap.size + 1) 3 1 v' (findL s t (k + 1)).length (findC s t (k + 1)) := by rw [HC.out, HL.out, List.length_append]; exact hO3
      have hB4 : Below w.heap.size w V3 := (hB2.alloc (by omega) _).grown hgr3 (by simp; omega) (fun j hj => by have := World.ownsRow.lt hO2 j hj; omega)
      have hR4 : RollW V3 w.heap.size s t.size k := Blk.grown (Blk.alloc hR2 _) hgr3 (fun e' => owns_ne hO2 (p := w.heap.size) (by omega) e'.symm)
      have hS4 : w.heap.size + 1 ≤ V3.heap.size := by have := hgr3.size; simp at this; omega
      clear hO3 hgr3 hO2 hB2 hR2 hS2
      by_cases hlt : k + t.size < s.size
      · go_wp2_with fail
        refine (next_ok _ _ _ _ _ hR4 (by omega) (by omega) hlt (by omega)).mono ?_
        rintro e V5 ⟨rfl, hgr, hR5⟩
        have hO5 := hO4.kept hgr (.inr (owns_ne hO4 (by omega)))
        have hB5 : Below w.heap.size w V5 := hB4.grown hgr hB4.size (by intro k hk; cases hk; exact Nat.le_refl _)
        have hS5 : w.heap.size + 1 ≤ V5.heap.size := Nat.le_trans hS4 hgr.size
        clear hR4 hO4 hB4 hS4 hgr
        go_wp2
        go_roundg (s.size - t.size - (k + 1))
        case measure => have := HG.out; omega
        case rel => exact ⟨k + 1, by omega, rfl, hR5, hO5, hB5, hS5⟩
      · go_wp2_with fail
        refine (next_end _ _ _ _ _ _ _ hR4 (by omega) (by omega) (by omega)).mono ?_
        rintro e V5 ⟨rfl, n3, hw3⟩
        have hO5 : V5.ownsRow (w.heap.size + 1) 3 1 v' (findL s t (k + 1)).length (findC s t (k + 1)) := by rw [hw3]; exact hO4
        have hB5 : Below w.heap.size w V5 := by rw [hw3]; exact below_drewN' hB4 _
        clear hR4 hO4 hB4 hS4 hw3
        go_wp2
        go_ret2
        refine ⟨v', rfl, ?_, hB5⟩
        rw [show s.size + 1 - t.size = k + 1 by omega]
        exact owns_mono hO5 (by omega)
    · have q2 : ((s.extract k (k + t.size)).toList == t.toList) = false := beqS_f (by rw [ext_win]; exact hw)
      have HC := Lib.hid (findC_miss s t k hw)
      have HL := Lib.hid (congrArg List.length (findL_miss s t k hw))
      have hO4 : V2.ownsRow (w.heap.size + 1) 3 1 u9 (findL s t (k + 1)).length (findC s t (k + 1)) := by rw [HC.out, HL.out]; exact hO2
      clear hw HC HL hO2
      cases q3 : (((weak (win s k t.size) : Nat) : Int) == ((weak t.data.toList : Nat) : Int))
      all_goals
        by_cases hlt : k + t.size < s.size
        · go_wp2_with fail
          refine (next_ok _ _ _ _ _ hR2 (by omega) (by omega) hlt (by omega)).mono ?_
          rintro e V5 ⟨rfl, hgr, hR5⟩
          have hO5 := hO4.kept hgr (.inr (owns_ne hO4 (by omega)))
          have hB5 : Below w.heap.size w V5 := hB2.grown hgr hB2.size (by intro k hk; cases hk; exact Nat.le_refl _)
          have hS5 : w.heap.size + 1 ≤ V5.heap.size := Nat.le_trans hS2 hgr.size
          clear hR2 hO4 hB2 hS2 hgr
          go_wp2
          go_roundg (s.size - t.size - (k + 1))
          case measure => have := HG.out; omega
          case rel => exact ⟨k + 1, by omega, rfl, hR5, hO5, hB5, hS5⟩
        · go_wp2_with fail
          refine (next_end _ _ _ _ _ _ _ hR2 (by omega) (by omega) (by omega)).mono ?_
          rintro e V5 ⟨rfl, n3, hw3⟩
          have hO5 : V5.ownsRow (w.heap.size + 1) 3 1 u9 (findL s t (k + 1)).length (findC s t (k + 1)) := by rw [hw3]; exact hO4
          have hB5 : Below w.heap.size w V5 := by rw [hw3]; exact below_drewN' hB2 _
          clear hR2 hO4 hB2 hS2 hw3
          go_wp2
          go_ret2
          refine ⟨u9, rfl, ?_, hB5⟩
          rw [show s.size + 1 - t.size = k + 1 by omega]
          exact owns_mono hO5 (by omega)
end Go.Proofs.Ytndbongcmepjmaa
