/- roll.Sum and the reference's Sum compute the weak sum. Conditions: the text has at most 524288 bytes. -/
import Derived.Test.YtgemhgllifhckaaChecked
import Derived.Test.YtgemhgllifhckaaRollMath
import Derived.Lib.Hide
namespace Go.Proofs.Ytgemhgllifhckaa
open Go.RowKit
set_option linter.unusedVariables false

theorem rollSum_any (s : ByteArray) (w : World) (hs : s.size ≤ 524288) :
    Calls Try.prog 85 #[.string s] w fun e w' => e = .returned (.int .i64 (weak s.data.toList)) ∧ w = w' := by
  go_enter Try.func85, Try.ntmps85
  go_wp2
  go_loop [3, 4, 8] (fun a b i => ∃ k : Nat, k ≤ s.size ∧ i = .int .i64 k ∧ a = .int .i64 (sa (s.data.toList.take k)) ∧ b = .int .i64 (sb (s.data.toList.take k))) (fun _ _ i => s.size - (intOf i).toNat)
  case atStart => exact ⟨0, Nat.zero_le _, rfl, rfl, rfl⟩
  case round =>
    obtain ⟨k, hk, rfl, rfl, rfl⟩ := hrel
    have hl : (s.data.toList.take k).length ≤ 524288 := by have := List.length_take_le k s.data.toList; omega
    have h1 := sa_le (s.data.toList.take k)
    have h2 := sb_le_k _ _ hl
    by_cases hlt : k < s.size
    · have h3 := (s[k]).toNat_lt
      have ea := sa_snoc (s.data.toList.take k) s[k]
      have eb := sb_snoc (s.data.toList.take k) s[k]
      rw [← take_snoc s k hlt] at ea eb
      have EA := Lib.hid ea
      have EB := Lib.hid eb
      clear ea eb
      go_wp2
      go_round
      case rel => exact ⟨k + 1, by omega, by go_num, by rw [EA.out]; go_num, by rw [EB.out]; go_num⟩
      case measure => simp [intOf]; omega
    · have hkk : s.data.toList.take k = s.data.toList := List.take_of_length_le (by simp; omega)
      have HK := Lib.hid hkk
      clear hkk
      go_wp2
      go_ret
      refine ⟨ret_int ?_, rfl⟩
      rw [HK.out]; unfold weak; omega

theorem modadd (a b : Nat) : (a % 65536 + b) % 65536 = (a + b) % 65536 := by omega
theorem modmul (a n x : Nat) : (a % 65536 + n % 65536 * x) % 65536 = (a + n * x) % 65536 := by
  rw [Nat.add_mod, Nat.mod_mod, Nat.mul_mod, Nat.mod_mod, ← Nat.mul_mod, ← Nat.add_mod]

theorem refSum_any (s : ByteArray) (w : World) (hs : s.size ≤ 524288) :
    Calls Try.prog 66 #[.string s] w fun e w' => e = .returned (.int .i64 (weak s.data.toList)) ∧ w = w' := by
  go_enter Try.func66, Try.ntmps66
  go_wp2
  go_loop [3, 4, 5] (fun a b i => ∃ k : Nat, k ≤ s.size ∧ i = .int .i64 k ∧ a = .int .i64 (sa (s.data.toList.take k) % 65536 : Nat) ∧ b = .int .i64 (sw s.size (s.data.toList.take k) % 65536 : Nat)) (fun _ _ i => s.size - (intOf i).toNat)
  case atStart => exact ⟨0, Nat.zero_le _, rfl, rfl, rfl⟩
  case round =>
    obtain ⟨k, hk, rfl, ha, hb⟩ := hrel
    obtain ⟨A, HA⟩ : ∃ A : Nat, A = sa (s.data.toList.take k) % 65536 := ⟨_, rfl⟩
    obtain ⟨B, HB⟩ : ∃ B : Nat, B = sw s.size (s.data.toList.take k) % 65536 := ⟨_, rfl⟩
    rw [← HA] at ha
    rw [← HB] at hb
    subst ha
    subst hb
    have hA : A < 65536 := by omega
    have hB : B < 65536 := by omega
    have hl : (s.data.toList.take k).length = k := by simp; omega
    by_cases hlt : k < s.size
    · have h3 := (s[k]).toNat_lt
      have ea := sa_snoc (s.data.toList.take k) s[k]
      have eb := sw_snoc s.size (s.data.toList.take k) s[k]
      rw [← take_snoc s k hlt] at ea eb
      rw [hl] at eb
      have EA := Lib.hid (show ((sa (s.data.toList.take (k + 1)) % 65536 : Nat) : Int) = ((A : Int) + (s[k].toNat : Int)) % 65536 by rw [ea, HA]; omega)
      have EB := Lib.hid (show ((sw s.size (s.data.toList.take (k + 1)) % 65536 : Nat) : Int) = ((B : Int) + ((s.size : Int) - (k : Int)) % 65536 * (s[k].toNat : Int)) % 65536 by
        rw [eb, HB, ← modmul, show ((s.size : Int) - (k : Int)) = ((s.size - k : Nat) : Int) by omega]; simp only [Int.natCast_emod, Int.natCast_add, Int.natCast_mul]; rfl)
      have hp : 0 ≤ ((s.size : Int) - (k : Int)) % 65536 * (s[k].toNat : Int) := Int.mul_nonneg (by omega) (by omega)
      have hq : ((s.size : Int) - (k : Int)) % 65536 * (s[k].toNat : Int) ≤ 65535 * 255 := Int.mul_le_mul (by omega) (by omega) (by omega) (by omega)
      clear ea eb hl HA HB
      go_wp2
      go_round
      case rel => exact ⟨k + 1, by omega, by go_num, by rw [EA.out], by rw [EB.out]⟩
      case measure => simp [intOf]; omega
    · have hkk : s.data.toList.take k = s.data.toList := List.take_of_length_le (by simp; omega)
      have HW := Lib.hid (show (A : Int) + 65536 * (B : Int) = weak s.data.toList by
        rw [HA, HB, hkk, show s.size = s.data.toList.length by simp, sw_len]; unfold weak; omega)
      clear hkk hl HA HB
      go_wp2
      go_ret
      exact ⟨ret_int HW.out, rfl⟩
end Go.Proofs.Ytgemhgllifhckaa
