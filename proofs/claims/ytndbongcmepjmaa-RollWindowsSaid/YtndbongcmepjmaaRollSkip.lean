/- Skip. Conditions: as named in each theorem. -/
import Derived.Test.YtndbongcmepjmaaRollNew
namespace Go.Proofs.Ytndbongcmepjmaa
open Go.RowKit
set_option linter.unusedVariables false

theorem rollSum_win (s : ByteArray) (A z : Nat) (w : World) (hz : z ≤ 1024) :
    Calls Try.prog 12 #[.string (s.extract A (A + z))] w fun e w' => e = .returned (.int .i64 (weak (win s A z))) ∧ w = w' := by
  rw [← ext_win]
  exact rollSum_any _ _ (by simp; omega)

theorem skip_no (w : World) (p : Nat) (s : ByteArray) (size at_ : Nat) (n : Int) (h : RollW w p s size at_) (hs : 0 < size) (hz : s.size ≤ 1000000) (hk : at_ + size ≤ s.size) (hn : n < 0 ∨ (s.size : Int) - size - at_ < n) :
    Calls Try.prog 20 #[.pointer (some ⟨p, 0, none⟩), .int .i64 n] w fun e w' => e = .returned (.bool false) ∧ ∃ n, w' = w.drewN n := by
  have c0 := Blk.cell h (i := 0) rfl
  have c1 := Blk.cell h (i := 1) rfl
  have c2 := Blk.cell h (i := 2) rfl
  have e1 : ((size : Int) == 0) = false := by simp; omega
  have w1 : IntKind.i64.wrap ((s.size : Int) - (size : Int)) = (s.size : Int) - (size : Int) := IntWalk.i64_in _ (by omega)
  have w2 : IntKind.i64.wrap ((s.size : Int) - (size : Int) - (at_ : Int)) = (s.size : Int) - (size : Int) - (at_ : Int) := IntWalk.i64_in _ (by omega)
  clear h
  by_cases hneg : n < 0
  · have d1 : decide (n < 0) = true := by simp; omega
    clear hn
    go_enter Try.func20, Try.ntmps20
    go_wp2
    go_quiet (fail)
    go_wp2
    go_ret
    exact ⟨rfl, _, rfl⟩
  · have d1 : decide (n < 0) = false := by simp; omega
    have d2 : decide ((s.size : Int) - (size : Int) - (at_ : Int) < n) = true := by simp; omega
    have d3 : (s.size : Int) - (size : Int) - (at_ : Int) < n := by omega
    clear hn
    go_enter Try.func20, Try.ntmps20
    go_wp2
    go_quiet (fail)
    go_wp2
    go_ret
    exact ⟨rfl, _, rfl⟩

theorem skip_ok (w : World) (p : Nat) (s : ByteArray) (size at_ n : Nat) (h : RollW w p s size at_) (hs : 0 < size) (hsz : size ≤ 1024) (hz : s.size ≤ 1000000) (hk : at_ + size + n ≤ s.size) :
    Calls Try.prog 20 #[.pointer (some ⟨p, 0, none⟩), .int .i64 n] w fun e w' => e = .returned (.bool true) ∧ w.grownBy w' (some p) ∧ RollW w' p s size (at_ + n) := by
  have c0 := Blk.cell h (i := 0) rfl
  have c1 := Blk.cell h (i := 1) rfl
  have c2 := Blk.cell h (i := 2) rfl
  have e1 : ((size : Int) == 0) = false := by simp; omega
  have w1 : IntKind.i64.wrap ((s.size : Int) - (size : Int)) = (s.size : Int) - (size : Int) := IntWalk.i64_in _ (by omega)
  have w2 : IntKind.i64.wrap ((s.size : Int) - (size : Int) - (at_ : Int)) = (s.size : Int) - (size : Int) - (at_ : Int) := IntWalk.i64_in _ (by omega)
  have d1 : decide ((n : Int) < 0) = false := by simp
  have d2 : decide ((s.size : Int) - (size : Int) - (at_ : Int) < n) = false := by simp; omega
  by_cases hlt : n < size
  · have HB := Lib.hid h
    clear h
    go_enter Try.func20, Try.ntmps20
    go_wp2
    go_quiet (fail)
    go_wp2
    have hR0 : RollW (w.drewN nq) p s size at_ := HB.out
    have hG0 : w.grownBy (w.drewN nq) (some p) := grown_drewN (grown_refl _ _) _
    clear c0 c1 c2
    go_loopw [45] (fun i wr => ∃ k : Nat, k ≤ n ∧ i = .int .i64 k ∧ RollW wr p s size (at_ + k) ∧ w.grownBy wr (some p)) (fun i _ => n - (intOf i).toNat)
    case atStart => exact ⟨0, by omega, rfl, hR0, hG0⟩
    case round =>
      clear hR0 hG0
      obtain ⟨k, hkn, rfl, hR, hG⟩ := hrel
      by_cases hl : k < n
      · go_wp2_with fail
        refine (next_ok _ _ _ _ _ hR (by omega) (by omega) (by omega) (by omega)).mono ?_
        rintro e V5 ⟨rfl, hgr, hR5⟩
        have hG5 := grown_trans hG hgr
        clear hR hG hgr
        go_wp2
        go_roundw
        case rel => exact ⟨k + 1, by omega, by go_num, hR5, hG5⟩
        case measure => simp [intOf]; omega
      · go_wp2
        go_ret
        exact ⟨rfl, hG, by rw [show at_ + n = at_ + k by omega]; exact hR⟩
  · have f2 := Blk.frozen h 2
    have HB := Lib.hid h
    clear h
    go_enter Try.func20, Try.ntmps20
    go_wp2
    go_quiet (fail)
    generalize nq = n1
    go_wp2
    obtain ⟨A, hA⟩ : ∃ A : Nat, (A : Int) = (at_ : Int) + (n : Int) := ⟨at_ + n, by omega⟩
    have hA1 : A + size ≤ s.size := by omega
    rw [← hA]
    have HA := Lib.hid hA
    clear hA
    obtain ⟨W, hW⟩ : ∃ W, W = (w.drewN n1).setCell ⟨p, 2, none⟩ (.int .i64 A) := ⟨_, rfl⟩
    have HB1 : Blk W p [.string s, .int .i64 size, .int .i64 A, .int .i64 (sa (win s at_ size) % 65536 : Nat), .int .i64 (sb (win s at_ size) % 65536 : Nat)] 37 := by rw [hW]; exact (Blk.drewN HB.out _).set 2 _
    have HG : w.grownBy W (some p) := by rw [hW]; exact grown_set (grown_drewN (grown_refl _ _) _) _ _
    rw [← hW]
    clear hW c0 c1 c2 f2
    have c0 := Blk.cell HB1 (i := 0) rfl
    have c1 := Blk.cell HB1 (i := 1) rfl
    have c2 := Blk.cell HB1 (i := 2) rfl
    have f3 := Blk.frozen HB1 3
    have f4 := Blk.frozen HB1 4
    have c3 := Blk.cell HB1 (i := 3) rfl
    have c4 := Blk.cell HB1 (i := 4) rfl
    have X1 := Lib.hid HB1
    have X2 := Lib.hid HG
    clear HB1 HG
    have v1 : IntKind.i64.wrap ((A : Int) + (size : Int)) = (A : Int) + (size : Int) := IntWalk.i64_in _ (by omega)
    have v2 : (A : Int) + (size : Int) ≤ (s.size : Int) := by omega
    have v3 : ((A : Int) + (size : Int)).toNat = A + size := by omega
    have v4 : (0 : Int) ≤ (A : Int) + (size : Int) := by omega
    have v5 : (A : Int) ≤ (A : Int) + (size : Int) := by omega
    have hk := weak_lt (win s A size)
    go_quiet ((go_at_call 12; exact quiet_eq (rollSum_win _ _ _ _ (by omega))))
    go_wp2
    go_ret
    refine ⟨rfl, grown_set (grown_set (grown_drewN X2.out _) _ _) _ _, ?_⟩
    have hz9 := ((Blk.drewN X1.out nq).set 3 (.int .i64 ((weak (win s A size) : Int) % 65536))).set 4 (.int .i64 ((weak (win s A size) : Int) / 65536))
    have hA2 : at_ + n = A := by have := HA.out; omega
    have ea : ((weak (win s A size) : Nat) : Int) % 65536 = ((sa (win s A size) % 65536 : Nat) : Int) := by unfold weak; omega
    have eb : ((weak (win s A size) : Nat) : Int) / 65536 = ((sb (win s A size) % 65536 : Nat) : Int) := by unfold weak; omega
    unfold RollW RollB
    rw [hA2, ← ea, ← eb]
    exact hz9
end Go.Proofs.Ytndbongcmepjmaa
