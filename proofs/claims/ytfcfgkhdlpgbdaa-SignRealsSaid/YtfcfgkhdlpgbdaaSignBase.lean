/- sign's small functions. Conditions: as named in each theorem. -/
import Derived.Test.YtfcfgkhdlpgbdaaSignMath
namespace Go.Proofs.Ytfcfgkhdlpgbdaa
open Go.RowKit
set_option linter.unusedVariables false

theorem sgFits_any (w : World) (b : Int) (R : Bool) (hr : decide (16 ≤ b ∧ b ≤ 1024) = R) :
    Calls Try.prog 41 #[.int .i64 b] w fun e w' => e = .returned (.bool R) ∧ w = w' := by
  go_enter Try.func41, Try.ntmps41
  by_cases h1 : 16 ≤ b
  · by_cases h2 : b ≤ 1024
    · have hR : R = true := by rw [← hr]; simp [h1, h2]
      subst hR
      clear hr
      go_wp2
      go_ret
      exact ⟨rfl, rfl⟩
    · have hR : R = false := by rw [← hr]; simp [h2]
      subst hR
      clear hr
      go_wp2
      go_ret
      exact ⟨rfl, rfl⟩
  · have hR : R = false := by rw [← hr]; simp [h1]
    subst hR
    clear hr
    go_wp2
    go_ret
    exact ⟨rfl, rfl⟩
theorem sgCount_any (w : World) (size block : Nat) (hs : size ≤ 524288) (hb : 16 ≤ block) (hb2 : block ≤ 1024) :
    Calls Try.prog 42 #[.int .i64 size, .int .i64 block] w fun e w' => e = .returned (.int .i64 (cnt size block : Nat)) ∧ w = w' := by
  have hq : ((size : Int) + block - 1).tdiv (block : Int) = ((cnt size block : Nat) : Int) := by
    have e : (size : Int) + block - 1 = ((size + block - 1 : Nat) : Int) := by omega
    rw [e]; unfold cnt; rfl
  have hb0 : ¬ (block : Int) = 0 := by omega
  have hc : cnt size block ≤ 524288 := Nat.le_trans (cnt_le (by omega)) hs
  obtain ⟨c, hce⟩ : ∃ c, c = cnt size block := ⟨_, rfl⟩
  rw [← hce] at hq hc
  rw [← hce]
  clear hce
  go_enter Try.func42, Try.ntmps42
  go_wp2
  go_ret
  exact ⟨rfl, rfl⟩
theorem sgPiece_any (w : World) (s : ByteArray) (i block : Nat) (hs : s.size ≤ 524288) (hb : 16 ≤ block) (hb2 : block ≤ 1024) (hi : i * block < s.size) :
    Calls Try.prog 43 #[.string s, .int .i64 i, .int .i64 block] w fun e w' => e = .returned (.string (piece s block i)) ∧ w = w' := by
  have hp := piece_end s block i
  have hm : (i + 1) * block = i * block + block := by rw [Nat.add_mul, Nat.one_mul]
  have hil : i ≤ 524288 := by
    have : i * 1 ≤ i * block := Nat.mul_le_mul_left _ (by omega)
    omega
  obtain ⟨a, ha⟩ : ∃ a, a = i * block := ⟨_, rfl⟩
  have h1 : (i : Int) * (block : Int) = (a : Int) := by rw [ha]; exact (Int.natCast_mul _ _).symm
  have h2 : ((i : Int) + 1) * (block : Int) = (a : Int) + block := by rw [Int.add_mul, Int.one_mul, h1]
  rw [hm] at hp
  rw [← ha] at hp hi
  obtain ⟨e, he⟩ : ∃ e, e = min (a + block) s.size := ⟨_, rfl⟩
  rw [← he] at hp
  have hmv : (if (s.size : Int) < (a : Int) + block then (s.size : Int) else (a : Int) + block) = (e : Int) := by rw [he]; split <;> omega
  have hae : a ≤ e := by omega
  have hes : e ≤ s.size := by omega
  have HP := Lib.hid hp
  clear ha he hm hp
  go_enter Try.func43, Try.ntmps43
  go_wp2
  go_ret
  rw [← HP.out]
  exact ⟨rfl, rfl⟩
end Go.Proofs.Ytfcfgkhdlpgbdaa
