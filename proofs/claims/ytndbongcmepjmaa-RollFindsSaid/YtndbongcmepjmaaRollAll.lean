/- All, and the reference's All: the weak sums of all windows. Conditions: as named in each theorem. -/
import Derived.Test.YtndbongcmepjmaaRollNew
import Derived.Test.YtndbongcmepjmaaInts
import Derived.Deep.LoopGhost
namespace Go.Proofs.Ytndbongcmepjmaa
open Go.RowKit
set_option linter.unusedVariables false

theorem infoInt : (Try.prog.info? 3).map (fun i => (i.zero, i.size, i.bytes)) = some (some (.int .i64 0), 1, 8) := by kernel_rfl

/-- the weak sums of the first n windows, as cells -/
def allC (s : ByteArray) (z n : Nat) : List Value := (List.range n).map fun i => .int .i64 (weak (win s i z))
theorem allC_len (s : ByteArray) (z n : Nat) : (allC s z n).length = n := by simp [allC]
theorem allC_succ (s : ByteArray) (z n : Nat) : allC s z (n + 1) = allC s z n ++ [.int .i64 (weak (win s n z))] := by simp [allC, List.range_succ]
theorem allC_get (s : ByteArray) (z n j : Nat) (h : j < n) : (allC s z n).getD j undef = .int .i64 (weak (win s j z)) := by
  simp [allC, List.getD, h]

theorem all_ok (s : ByteArray) (z : Nat) (w : World) (h1 : 1 ≤ z) (h2 : z ≤ 1024) (h3 : z ≤ s.size) (h4 : s.size ≤ 1000000) :
    Calls Try.prog 21 #[.string s, .int .i64 z] w fun e w' => ∃ v, e = .returned (.tuple #[v, .int .i64 0]) ∧ w'.ownsRow w.heap.size 3 1 v (s.size - z + 1) (allC s z (s.size - z + 1)) ∧ Below w.heap.size w w' := by
  obtain ⟨i0, hi, hz0, hz1, hz2⟩ := info_parts infoInt
  go_enter Try.func21, Try.ntmps21
  go_wp2_with fail
  refine (new_ok _ _ _ h1 h2 h3 h4).mono ?_
  rintro e W1 ⟨rfl, ⟨o, ho⟩, hR⟩
  have hB : Below w.heap.size w W1 := by rw [ho]; exact (Below.refl _ _).alloc (Nat.le_refl _) _
  have hS : w.heap.size + 1 ≤ W1.heap.size := by rw [ho]; simp
  clear ho
  go_wp2_with fail
  refine (sumw_ok _ _ _ _ _ hR).mono ?_
  rintro e W2 ⟨rfl, n1, hw2⟩
  have hR2 : RollW W2 w.heap.size s z 0 := by rw [hw2]; exact hR
  have hB2 : Below w.heap.size w W2 := by rw [hw2]; exact below_drewN' hB _
  have hS2 : w.heap.size + 1 ≤ W2.heap.size := by rw [hw2]; exact hS
  clear hR hB hS hw2
  have hO : (W2.alloc (.cells #[.int .i64 (weak (win s 0 z))] 3)).ownsRow (w.heap.size + 1) 3 1 (.slice (some ⟨W2.heap.size, 0, none⟩) 1 1) 1 (allC s z 1) := owns_new1 W2 _ _ _ hS2
  have hR3 : RollW (W2.alloc (.cells #[.int .i64 (weak (win s 0 z))] 3)) w.heap.size s z 0 := Blk.alloc hR2 _
  have hB3 : Below w.heap.size w (W2.alloc (.cells #[.int .i64 (weak (win s 0 z))] 3)) := hB2.alloc (by omega) _
  have hS3 : w.heap.size + 1 ≤ (W2.alloc (.cells #[.int .i64 (weak (win s 0 z))] 3)).heap.size := by simp; omega
  clear hR2 hB2
  go_wp2
  go_loopg [8] (s.size - z) (fun g v wr => ∃ k : Nat, k + z ≤ s.size ∧ g = s.size - z - k ∧ RollW wr w.heap.size s z k ∧ wr.ownsRow (w.heap.size + 1) 3 1 v (k + 1) (allC s z (k + 1)) ∧ Below w.heap.size w wr ∧ w.heap.size + 1 ≤ wr.heap.size)
  case atStart => exact ⟨0, by omega, by omega, hR3, hO, hB3, hS3⟩
  case round =>
    clear hR3 hO hB3 hS3 hS2
    obtain ⟨k, hk, hg, hR, hO, hB, hS⟩ := hrel
    have HG := Lib.hid hg
    clear hg
    by_cases hlt : k + z < s.size
    · go_wp2_with fail
      refine (next_ok _ _ _ _ _ hR (by omega) (by omega) hlt (by omega)).mono ?_
      rintro e V1 ⟨rfl, hgr, hR1⟩
      have hO1 := hO.kept hgr (.inr (owns_ne hO (by omega)))
      have hB1 : Below w.heap.size w V1 := hB.grown hgr hB.size (by intro k hk; cases hk; exact Nat.le_refl _)
      have hS1 : w.heap.size + 1 ≤ V1.heap.size := Nat.le_trans hS hgr.size
      clear hR hO hB hS hgr
      go_wp2_with fail
      refine (sumw_ok _ _ _ _ _ hR1).mono ?_
      rintro e V2 ⟨rfl, n2, hw3⟩
      have hR2 : RollW V2 w.heap.size s z (k + 1) := by rw [hw3]; exact hR1
      have hB2 : Below w.heap.size w V2 := by rw [hw3]; exact below_drewN' hB1 _
      have hS2 : w.heap.size + 1 ≤ V2.heap.size := by rw [hw3]; exact hS1
      have hO2 : V2.ownsRow (w.heap.size + 1) 3 1 u8 (k + 1) (allC s z (k + 1)) := by rw [hw3]; exact hO1
      clear hR1 hO1 hB1 hS1 hw3
      go_wp2_with (at_builtin; refine wpList_append_own _ rfl _ _ 39 rfl (w.heap.size + 1) 3 i0 (.int .i64 0) 1 8 Try.underlying39 hi hz0 hz1 hz2 rfl (by decide) _ _ _ rfl (hO2.alloc _) ⟨V2.heap.size, 0, none⟩ 1 1 [.int .i64 (weak (win s (k + 1) z))] rfl rfl (cell1_new _ _ _) (one1 _ rfl) (by unfold maxLen; omega) (by omega) (by simp; omega) ?_)
      intro v' V3 hO3 hgr3 _
      have hO4 : V3.ownsRow (w.heap.size + 1) 3 1 v' (k + 1 + 1) (allC s z (k + 1 + 1)) := by rw [allC_succ s z (k + 1)]; exact hO3
      have hB4 : Below w.heap.size w V3 := (hB2.alloc (by omega) _).grown hgr3 (by simp; omega) (fun j hj => by have := World.ownsRow.lt hO2 j hj; omega)
      have hR4 : RollW V3 w.heap.size s z (k + 1) := Blk.grown (Blk.alloc hR2 _) hgr3 (fun e' => owns_ne hO2 (p := w.heap.size) (by omega) e'.symm)
      have hS4 : w.heap.size + 1 ≤ V3.heap.size := by have := hgr3.size; simp at this; omega
      clear hO3 hgr3 hO2 hB2 hR2 hS2
      go_wp2
      go_roundg (s.size - z - (k + 1))
      case measure => have := HG.out; omega
      case rel => exact ⟨k + 1, by omega, rfl, hR4, hO4, hB4, hS4⟩
    · go_wp2_with fail
      refine (next_end _ _ _ _ _ _ _ hR (by omega) (by omega) (by omega)).mono ?_
      rintro e V1 ⟨rfl, n2, hw3⟩
      have hO2 : V1.ownsRow (w.heap.size + 1) 3 1 u8 (k + 1) (allC s z (k + 1)) := by rw [hw3]; exact hO
      have hB2 : Below w.heap.size w V1 := by rw [hw3]; exact below_drewN' hB _
      clear hR hO hB hS hw3
      go_wp2
      go_ret2
      refine ⟨u8, rfl, ?_, hB2⟩
      rw [show s.size - z + 1 = k + 1 by omega]
      exact owns_mono hO2 (by omega)

theorem all_short (s : ByteArray) (z : Nat) (w : World) (h1 : 1 ≤ z) (h2 : z ≤ 1024) (h3 : s.size < z) :
    Calls Try.prog 21 #[.string s, .int .i64 z] w fun e w' => e = .returned (.tuple #[.slice none 0 0, .int .i64 0]) ∧ w = w' := by
  go_enter Try.func21, Try.ntmps21
  go_wp2_with fail
  refine (new_short _ _ _ (by omega) (by omega) (by omega)).mono ?_
  rintro e W1 ⟨rfl, rfl⟩
  go_wp2
  go_ret2
  exact ⟨rfl, rfl⟩

theorem all_arg (s : ByteArray) (z : Int) (w : World) (h : z < 1 ∨ 1024 < z) :
    Calls Try.prog 21 #[.string s, .int .i64 z] w fun e w' => e = .returned (.tuple #[.slice none 0 0, .int .i64 1]) ∧ w = w' := by
  have H := Lib.hid h
  clear h
  go_enter Try.func21, Try.ntmps21
  go_wp2_with fail
  refine (new_arg _ _ _ H.out).mono ?_
  rintro e W1 ⟨rfl, rfl⟩
  go_wp2
  go_ret2
  exact ⟨rfl, rfl⟩

theorem refAll_any (s : ByteArray) (z : Nat) (w : World) (h2 : z ≤ 1024) (h4 : s.size ≤ 100000) :
    Calls Try.prog 23 #[.string s, .int .i64 z] w fun e w' => ∃ v, e = .returned v ∧ w'.ownsRow w.heap.size 3 1 v (s.size + 1 - z) (allC s z (s.size + 1 - z)) ∧ Below w.heap.size w w' := by
  obtain ⟨i0, hi, hz0, hz1, hz2⟩ := info_parts infoInt
  go_enter Try.func23, Try.ntmps23
  go_wp2
  go_loopw [5, 6] (fun v i wr => ∃ k : Nat, k ≤ s.size + 1 - z ∧ i = .int .i64 k ∧ wr.ownsRow w.heap.size 3 1 v k (allC s z k) ∧ Below w.heap.size w wr) (fun _ i _ => s.size + 1 - z - (intOf i).toNat)
  case atStart => exact ⟨0, by omega, rfl, World.ownsRow_nil _ _ _ _, Below.refl _ _⟩
  case round =>
    obtain ⟨k, hk, rfl, hO, hB⟩ := hrel
    have hS := hB.size
    by_cases hlt : k + z ≤ s.size
    · have q1 : (k : Int) + (z : Int) ≤ (s.size : Int) := by omega
      have t1 : ((k : Int) + (z : Int)).toNat = k + z := by omega
      go_wp2_with fail

      refine (refSum_any _ _ (by simp; omega)).mono ?_
      rintro e V1 ⟨rfl, rfl⟩
      rw [ext_win]
      go_wp2_with (at_builtin; refine wpList_append_own _ rfl _ _ 39 rfl w.heap.size 3 i0 (.int .i64 0) 1 8 Try.underlying39 hi hz0 hz1 hz2 rfl (by decide) _ _ _ rfl (hO.alloc _) ⟨wr.heap.size, 0, none⟩ 1 1 [.int .i64 (weak (win s k z))] rfl rfl (cell1_new _ _ _) (one1 _ rfl) (by unfold maxLen; omega) (by omega) (by simp; omega) ?_)
      intro v' V3 hO3 hgr3 _
      have hO4 : V3.ownsRow w.heap.size 3 1 v' (k + 1) (allC s z (k + 1)) := by rw [allC_succ s z k]; exact hO3
      have hB4 : Below w.heap.size w V3 := (hB.alloc (by omega) _).grown hgr3 (by simp; omega) (fun j hj => by have := World.ownsRow.lt hO j hj; omega)
      clear hO3 hgr3 hO hB
      go_wp2
      go_roundw
      case rel => exact ⟨k + 1, by omega, by go_num, hO4, hB4⟩
      case measure => simp [intOf]; omega
    · have q1 : ¬ (k : Int) + (z : Int) ≤ (s.size : Int) := by omega
      go_wp2
      go_ret
      refine ⟨u5, rfl, ?_, hB⟩
      rw [show s.size + 1 - z = k by omega]
      exact hO
end Go.Proofs.Ytndbongcmepjmaa
