/- roll.Join: what it refuses and what it answers. No conditions beyond those that each theorem names. -/
import Derived.Test.YtndbongcmepjmaaRollSum
namespace Go.Proofs.Ytndbongcmepjmaa
open Go.RowKit
set_option linter.unusedVariables false

def joinI (x y n : Int) : Int := (x + y) % 65536 + (x / 65536 + y / 65536 + n % 65536 * (x % 65536)) % 65536 * 65536
def joinOk (x y n : Int) : Prop := 0 ≤ x ∧ 0 ≤ y ∧ x ≤ 4294967295 ∧ y ≤ 4294967295 ∧ 0 ≤ n ∧ n ≤ 524288

theorem join_ok (x y n : Int) (w : World) (h : joinOk x y n) :
    Calls Try.prog 15 #[.int .i64 x, .int .i64 y, .int .i64 n] w fun e w' => e = .returned (.tuple #[.int .i64 (joinI x y n), .int .i64 0]) ∧ w = w' := by
  obtain ⟨h1, h2, h3, h4, h5, h6⟩ := h
  have hp : 0 ≤ n % 65536 * (x % 65536) := Int.mul_nonneg (by omega) (by omega)
  have hq : n % 65536 * (x % 65536) ≤ 65535 * 65535 := Int.mul_le_mul (by omega) (by omega) (by omega) (by omega)
  go_enter Try.func15, Try.ntmps15
  go_wp2
  go_ret2
  exact ⟨rfl, rfl⟩

theorem join_bad (x y n : Int) (w : World) (h : ¬ joinOk x y n) :
    Calls Try.prog 15 #[.int .i64 x, .int .i64 y, .int .i64 n] w fun e w' => e = .returned (.tuple #[.int .i64 0, .int .i64 1]) ∧ w = w' := by
  unfold joinOk at h
  by_cases h1 : x < 0
  · go_enter Try.func15, Try.ntmps15
    go_wp2
    go_ret2
    exact ⟨rfl, rfl⟩
  · by_cases h2 : y < 0
    · go_enter Try.func15, Try.ntmps15
      go_wp2
      go_ret2
      exact ⟨rfl, rfl⟩
    · by_cases h3 : 4294967296 ≤ x
      · go_enter Try.func15, Try.ntmps15
        go_wp2
        go_ret2
        exact ⟨rfl, rfl⟩
      · by_cases h4 : 4294967296 ≤ y
        · go_enter Try.func15, Try.ntmps15
          go_wp2
          go_ret2
          exact ⟨rfl, rfl⟩
        · by_cases h5 : n < 0
          · go_enter Try.func15, Try.ntmps15
            go_wp2
            go_ret2
            exact ⟨rfl, rfl⟩
          · have h6 : 524288 < n := by omega
            go_enter Try.func15, Try.ntmps15
            go_wp2
            go_ret2
            exact ⟨rfl, rfl⟩

theorem joinI_def (x y n : Int) : joinI x y n = (x % 65536 + y % 65536) % 65536 + (x / 65536 + y / 65536 + n % 65536 * (x % 65536)) % 65536 * 65536 := by unfold joinI; omega
theorem joinI_range (x y n : Int) : 0 ≤ joinI x y n ∧ joinI x y n ≤ 4294967295 := by unfold joinI; omega

theorem joinI_weak (s t : List UInt8) (h : t.length ≤ 524288) : joinI (weak s) (weak t) t.length = weak (s ++ t) := by
  have ea := sa_app s t
  have eb := sb_app s t
  have e1 : ((weak s : Nat) : Int) % 65536 = ((sa s % 65536 : Nat) : Int) := by unfold weak; omega
  have e2 : ((weak s : Nat) : Int) / 65536 = ((sb s % 65536 : Nat) : Int) := by unfold weak; omega
  have e3 : ((weak t : Nat) : Int) % 65536 = ((sa t % 65536 : Nat) : Int) := by unfold weak; omega
  have e4 : ((weak t : Nat) : Int) / 65536 = ((sb t % 65536 : Nat) : Int) := by unfold weak; omega
  rw [joinI_def, e1, e2, e3, e4]
  have hm : ((t.length : Int) % 65536 * ((sa s % 65536 : Nat) : Int)) = ((t.length % 65536 * (sa s % 65536) : Nat) : Int) := by
    rw [Int.natCast_mul]; rfl
  rw [hm]
  have hk : (t.length % 65536 * (sa s % 65536)) % 65536 = (t.length * sa s) % 65536 := by rw [← Nat.mul_mod]
  unfold weak
  rw [ea, eb]
  generalize t.length % 65536 * (sa s % 65536) = P at hk
  generalize t.length * sa s = Q at hk
  omega

theorem mulmod (q a : Int) (S : Int) : (S * q) * a = S * (q * a) := Int.mul_assoc _ _ _

theorem joinI_assoc (x y z n m : Int) : joinI (joinI x y n) z m = joinI x (joinI y z m) (n + m) := by
  obtain ⟨A, hA⟩ : ∃ A, A = x % 65536 := ⟨_, rfl⟩
  obtain ⟨B, hB⟩ : ∃ B, B = y % 65536 := ⟨_, rfl⟩
  obtain ⟨N, hN⟩ : ∃ N, N = n % 65536 := ⟨_, rfl⟩
  obtain ⟨M, hM⟩ : ∃ M, M = m % 65536 := ⟨_, rfl⟩
  have l1 : joinI x y n % 65536 = (A + B) % 65536 := by rw [joinI_def]; rw [← hA, ← hB]; omega
  have l2 : joinI x y n / 65536 = (x / 65536 + y / 65536 + N * A) % 65536 := by rw [joinI_def]; rw [← hA, ← hB, ← hN]; omega
  have r1 : joinI y z m % 65536 = (B + z % 65536) % 65536 := by rw [joinI_def]; rw [← hB]; omega
  have r2 : joinI y z m / 65536 = (y / 65536 + z / 65536 + M * B) % 65536 := by rw [joinI_def]; rw [← hB, ← hM]; omega
  have eL : joinI (joinI x y n) z m = ((A + B) % 65536 + z % 65536) % 65536 + ((x / 65536 + y / 65536 + N * A) % 65536 + z / 65536 + M * ((A + B) % 65536)) % 65536 * 65536 := by
    rw [joinI_def (joinI x y n), l1, l2, ← hM]
  have eR : joinI x (joinI y z m) (n + m) = (A + (B + z % 65536) % 65536) % 65536 + (x / 65536 + (y / 65536 + z / 65536 + M * B) % 65536 + (n + m) % 65536 * A) % 65536 * 65536 := by
    rw [joinI_def x (joinI y z m), r1, r2, ← hA]
  rw [eL, eR]
  obtain ⟨q, hq⟩ : ∃ q, (A + B) % 65536 = A + B - 65536 * q := ⟨(A + B) / 65536, by omega⟩
  obtain ⟨r, hr⟩ : ∃ r, (n + m) % 65536 = N + M - 65536 * r := ⟨(N + M) / 65536, by omega⟩
  have p1 : M * ((A + B) % 65536) = M * A + M * B - 65536 * (M * q) := by rw [hq, Int.mul_sub, Int.mul_add, Int.mul_left_comm]
  have p2 : (n + m) % 65536 * A = N * A + M * A - 65536 * (r * A) := by rw [hr, Int.sub_mul, Int.add_mul, Int.mul_assoc]
  rw [p1, p2]
  generalize M * A = a1
  generalize M * B = a2
  generalize M * q = a3
  generalize N * A = a4
  generalize r * A = a5
  omega
end Go.Proofs.Ytndbongcmepjmaa
