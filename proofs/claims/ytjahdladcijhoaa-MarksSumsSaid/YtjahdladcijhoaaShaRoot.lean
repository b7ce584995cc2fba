/- Roots to 32 bits behind the point: the program's cubed, squared, root. Conditions: as named in each theorem. -/
import Derived.Test.YtjahdladcijhoaaShaMul
namespace Go.Proofs.Ytjahdladcijhoaa
open Go.RowKit
set_option linter.unusedVariables false
set_option linter.unusedSimpArgs false

/-- a Boolean that tells whether something holds; the world is as it was -/
def BoolR (C : Prop) (w : World) (e : Ending) (w' : World) : Prop := (∃ R : Bool, e = .returned (.bool R) ∧ (R = true ↔ C)) ∧ w' = w
theorem BoolR.yes {C : Prop} {w : World} (h : C) : BoolR C w (.returned (.bool true)) w := ⟨⟨true, rfl, fun _ => h, fun _ => rfl⟩, rfl⟩
theorem BoolR.no {C : Prop} {w : World} (h : ¬ C) : BoolR C w (.returned (.bool false)) w := ⟨⟨false, rfl, (fun h => by cases h), fun h2 => absurd h2 h⟩, rfl⟩
theorem big_le (S T U q r B p : Nat) (hS : S = U * T) (hr : r < U) (hB : B < T) : q * S + r * T + B ≤ p * S ↔ q < p ∨ (q = p ∧ r = 0 ∧ B = 0) := by
  have h1 : r * T + B < S := by
    have : (r + 1) * T ≤ U * T := Nat.mul_le_mul_right T hr
    rw [Nat.add_mul, Nat.one_mul] at this
    omega
  have hT : 0 < T := by omega
  constructor
  · intro h
    rcases Nat.lt_trichotomy q p with h2 | h2 | h2
    · exact .inl h2
    · have h3 : r * T + B = 0 := by rw [h2] at h; omega
      have h4 : r * T = 0 := by omega
      refine .inr ⟨h2, ?_, by omega⟩
      rcases Nat.mul_eq_zero.1 h4 with h5 | h5
      · exact h5
      · omega
    · exfalso
      have : (p + 1) * S ≤ q * S := Nat.mul_le_mul_right S h2
      rw [Nat.add_mul, Nat.one_mul] at this
      omega
  · rintro (h | ⟨h, h2, h3⟩)
    · have : (q + 1) * S ≤ p * S := Nat.mul_le_mul_right S h
      rw [Nat.add_mul, Nat.one_mul] at this
      omega
    · rw [h, h2, h3, Nat.zero_mul]; omega
/-- a cube is at most a whole number (with 96 bits behind the point) -/
def CubeLe (x p : Nat) : Prop := x * x * x ≤ p * (4294967296 * 18446744073709551616)
/-- a square is at most a whole number (with 64 bits behind the point) -/
def SqLe (x p : Nat) : Prop := x * x ≤ p * 18446744073709551616
theorem cube_parts (x p : Nat) (hx : x ≤ 68719476736) : ∃ HI LO A B D q r : Nat, HI = x * x / 18446744073709551616 ∧ LO = x * x % 18446744073709551616 ∧ A = LO * x / 18446744073709551616 ∧ B = LO * x % 18446744073709551616 ∧ D = HI * x % 18446744073709551616 ∧ HI * x / 18446744073709551616 = 0 ∧
    HI ≤ 256 ∧ A ≤ 68719476736 ∧ D ≤ 17592186044416 ∧ q = (A + D) / 4294967296 ∧ r = (A + D) % 4294967296 ∧ (CubeLe x p ↔ q < p ∨ (q = p ∧ r = 0 ∧ B = 0)) := by
  have hxx : x * x ≤ 68719476736 * 68719476736 := Nat.mul_le_mul hx hx
  unfold CubeLe
  obtain ⟨Y, hY⟩ : ∃ Y, Y = x * x := ⟨_, rfl⟩
  rw [← hY] at hxx ⊢
  clear hY
  have hT : 0 < 18446744073709551616 := by decide
  have hhi : Y / 18446744073709551616 ≤ 256 := Nat.le_trans (Nat.div_le_div_right (c := 18446744073709551616) hxx) (by decide)
  obtain ⟨T, hTe⟩ : ∃ T, T = 18446744073709551616 := ⟨_, rfl⟩
  rw [← hTe] at hT hhi ⊢
  have hYHL : Y = Y / T * T + Y % T := (Nat.div_add_mod' Y T).symm
  have hLb : Y % T < T := Nat.mod_lt _ hT
  refine ⟨Y / T, Y % T, Y % T * x / T, Y % T * x % T, Y / T * x % T, (Y % T * x / T + Y / T * x % T) / 4294967296, (Y % T * x / T + Y / T * x % T) % 4294967296, rfl, rfl, rfl, rfl, rfl, ?_⟩
  obtain ⟨H, hH⟩ : ∃ H, H = Y / T := ⟨_, rfl⟩
  obtain ⟨L, hL⟩ : ∃ L, L = Y % T := ⟨_, rfl⟩
  rw [← hH, ← hL] at hYHL
  rw [← hL] at hLb
  rw [← hH] at hhi
  rw [← hH, ← hL]
  have h1 : H * x ≤ 17592186044416 := Nat.le_trans (Nat.mul_le_mul hhi hx) (by decide)
  have h2 : L * x ≤ T * 68719476736 := Nat.mul_le_mul (Nat.le_of_lt hLb) hx
  have h3 : Y * x = H * x * T + L * x := by rw [hYHL, Nat.add_mul, Nat.mul_right_comm]
  rw [h3]
  obtain ⟨P, hP⟩ : ∃ P, P = H * x := ⟨_, rfl⟩
  obtain ⟨Q, hQ⟩ : ∃ Q, Q = L * x := ⟨_, rfl⟩
  rw [← hP] at h1 ⊢
  rw [← hQ] at h2 ⊢
  have hPT : P < T := by rw [hTe]; omega
  have hP2 : P % T = P := Nat.mod_eq_of_lt hPT
  have hP3 : P / T = 0 := Nat.div_eq_of_lt hPT
  have hQa : Q / T ≤ 68719476736 := by
    have := Nat.div_le_div_right (c := T) h2
    rw [Nat.mul_div_cancel_left _ hT] at this
    exact this
  have HHI := Lib.hid hhi
  clear hTe h3 hP hQ hH hL hYHL hLb hxx hhi h2
  rw [hP2]
  refine ⟨hP3, HHI.out, hQa, h1, rfl, rfl, ?_⟩
  have hQAB : Q = Q / T * T + Q % T := (Nat.div_add_mod' Q T).symm
  have hBb : Q % T < T := Nat.mod_lt _ hT
  obtain ⟨A, hA⟩ : ∃ A, A = Q / T := ⟨_, rfl⟩
  obtain ⟨B, hB⟩ : ∃ B, B = Q % T := ⟨_, rfl⟩
  rw [← hA, ← hB] at hQAB
  rw [← hB] at hBb
  rw [← hA, ← hB]
  obtain ⟨M, hM⟩ : ∃ M, M = A + P := ⟨_, rfl⟩
  rw [← hM]
  have hMe : P * T + Q = M / 4294967296 * (4294967296 * T) + M % 4294967296 * T + B := by
    have e := Nat.div_add_mod' M 4294967296
    rw [← Nat.mul_assoc, ← Nat.add_mul, e, hQAB, hM, Nat.add_mul]
    omega
  rw [hMe]
  exact big_le _ T 4294967296 _ _ _ _ rfl (Nat.mod_lt _ (by decide)) hBb
theorem u64_or0 (q : Nat) (h : q < 9223372036854775808) : bits .or .u64 0 (q : Int) = (q : Int) := by
  have := bits_or_u64_nat 0 q (by omega) (by omega)
  simpa using this
set_option maxRecDepth 100000 in
set_option maxHeartbeats 1000000 in
theorem cubed_any (x p : Nat) (hx : x ≤ 68719476736) (hp : p ≤ 4294967295) (w : World) :
    Calls Try.prog 39 #[.int .u64 x, .int .u64 p] w (BoolR (CubeLe x p) w) := by
  obtain ⟨HI, LO, A, B, D, q, r, e1, e2, e3, e4, e5, e6, b1, b2, b3, e7, e8, hiff⟩ := cube_parts x p hx
  have HM1 := Lib.hid (mul64_any x x (by omega) (by omega) w)
  rw [← e1, ← e2] at HM1
  have hLO : LO < 18446744073709551616 := by rw [e2]; exact Nat.mod_lt _ (by decide)
  have HM2 := Lib.hid (mul64_any LO x hLO (by omega) w)
  rw [← e3, ← e4] at HM2
  have HM3 := Lib.hid (mul64_any HI x (by omega) (by omega) w)
  rw [← e5, e6] at HM3
  have hadd := add64_any A D w
  have hBb : B < 18446744073709551616 := by rw [e4]; exact Nat.mod_lt _ (by decide)
  obtain ⟨M, hM⟩ : ∃ M, M = A + D := ⟨_, rfl⟩
  rw [← hM] at hadd e7 e8
  have m1 : M % 18446744073709551616 = M := Nat.mod_eq_of_lt (by omega)
  have m2 : M / 18446744073709551616 = 0 := Nat.div_eq_of_lt (by omega)
  rw [m1, m2] at hadd
  have hqb : q < 9223372036854775808 := by omega
  have hrb : r < 4294967296 := by omega
  have hq : (M : Int) / 4294967296 = (q : Int) := by omega
  have hor := u64_or0 q hqb
  have hsh : IntKind.u64.wrap ((M : Int) * 4294967296) = ((r * 4294967296 : Nat) : Int) := by rw [IntKind.wrap_u64]; omega
  obtain ⟨C, hC⟩ : ∃ C : Prop, C = CubeLe x p := ⟨_, rfl⟩
  rw [← hC] at hiff
  rw [← hC]
  have HR := Lib.hid hiff
  clear e1 e2 e3 e4 e5 e6 b1 b2 b3 hM m1 m2 hiff hC e7 e8 hLO
  go_enter Try.func39, Try.ntmps39
  go_wp2_with fail
  refine HM1.out.mono ?_
  rintro e w' ⟨rfl, rfl⟩
  go_wp2_with fail
  refine HM2.out.mono ?_
  rintro e w' ⟨rfl, rfl⟩
  go_wp2_with fail
  refine HM3.out.mono ?_
  rintro e w' ⟨rfl, rfl⟩
  clear HM1 HM2 HM3
  have hnn : ∀ b : Bool, (!(b != false)) = !b := by decide
  by_cases c1 : q < p
  · have HC := Lib.hid (HR.out.2 (.inl c1))
    by_cases c2 : r = 0
    · subst c2
      have hsh0 : IntKind.u64.wrap ((M : Int) * 4294967296) = 0 := by rw [hsh]; rfl
      clear hsh
      go_wp2_with (simp only [hadd])
      go_ret
      exact BoolR.yes HC.out
    · have hsn : (IntKind.u64.wrap ((M : Int) * 4294967296) != 0) = true := by rw [hsh]; simp; omega
      clear hsh
      go_wp2_with (simp only [hadd])
      go_ret
      exact BoolR.yes HC.out
  · by_cases c3 : q = p
    · by_cases c2 : r = 0
      · have hsh0 : (IntKind.u64.wrap ((M : Int) * 4294967296) != 0) = false := by rw [hsh, c2]; rfl
        by_cases c4 : B = 0
        · have HC := Lib.hid (HR.out.2 (.inr ⟨c3, c2, c4⟩))
          subst c3 c4
          clear hsh
          go_wp2_with (simp only [hadd])
          go_ret
          exact BoolR.yes HC.out
        · have HC : Hid (¬ C) := Lib.hid (fun h => by have := HR.out.1 h; omega)
          have c5 : ((B : Int) != 0) = true := by simp; omega
          subst c3
          clear hsh
          go_wp2_with (simp only [hadd])
          go_ret
          exact BoolR.no HC.out
      · have hsn : (IntKind.u64.wrap ((M : Int) * 4294967296) != 0) = true := by rw [hsh]; simp; omega
        have HC : Hid (¬ C) := Lib.hid (fun h => by have := HR.out.1 h; omega)
        subst c3
        clear hsh
        go_wp2_with (simp only [hadd])
        go_ret
        exact BoolR.no HC.out
    · have HC : Hid (¬ C) := Lib.hid (fun h => by have := HR.out.1 h; omega)
      by_cases c2 : r = 0
      · have hsh0 : (IntKind.u64.wrap ((M : Int) * 4294967296) != 0) = false := by rw [hsh, c2]; rfl
        clear hsh
        go_wp2_with (simp only [hadd])
        go_ret
        exact BoolR.no HC.out
      · have hsn : (IntKind.u64.wrap ((M : Int) * 4294967296) != 0) = true := by rw [hsh]; simp; omega
        clear hsh
        go_wp2_with (simp only [hadd])
        go_ret
        exact BoolR.no HC.out
/-- a square in its parts -/
theorem sq_parts (x p : Nat) : SqLe x p ↔ x * x / 18446744073709551616 < p ∨ (x * x / 18446744073709551616 = p ∧ x * x % 18446744073709551616 = 0) := by
  unfold SqLe
  obtain ⟨Y, hY⟩ : ∃ Y, Y = x * x := ⟨_, rfl⟩
  rw [← hY]
  have h := big_le (1 * 18446744073709551616) 18446744073709551616 1 (Y / 18446744073709551616) 0 (Y % 18446744073709551616) p rfl (by decide) (Nat.mod_lt _ (by decide))
  have e := Nat.div_add_mod' Y 18446744073709551616
  rw [Nat.one_mul, Nat.zero_mul, Nat.add_zero, e] at h
  rw [h]
  constructor
  · rintro (h1 | ⟨h1, _, h2⟩)
    · exact .inl h1
    · exact .inr ⟨h1, h2⟩
  · rintro (h1 | ⟨h1, h2⟩)
    · exact .inl h1
    · exact .inr ⟨h1, rfl, h2⟩
set_option maxRecDepth 100000 in
set_option maxHeartbeats 1000000 in
theorem squared_any (x p : Nat) (hx : x ≤ 68719476736) (hp : p ≤ 4294967295) (w : World) :
    Calls Try.prog 40 #[.int .u64 x, .int .u64 p] w (BoolR (SqLe x p) w) := by
  have hiff := sq_parts x p
  have HM1 := Lib.hid (mul64_any x x (by omega) (by omega) w)
  obtain ⟨H, hH⟩ : ∃ H, H = x * x / 18446744073709551616 := ⟨_, rfl⟩
  obtain ⟨L, hL⟩ : ∃ L, L = x * x % 18446744073709551616 := ⟨_, rfl⟩
  rw [← hH, ← hL] at HM1 hiff
  obtain ⟨C, hC⟩ : ∃ C : Prop, C = SqLe x p := ⟨_, rfl⟩
  rw [← hC] at hiff
  rw [← hC]
  have HR := Lib.hid hiff
  clear hiff hC hH hL
  go_enter Try.func40, Try.ntmps40
  go_wp2_with fail
  refine HM1.out.mono ?_
  rintro e w' ⟨rfl, rfl⟩
  clear HM1
  by_cases c1 : H < p
  · have HC := Lib.hid (HR.out.2 (.inl c1))
    go_wp2
    go_ret
    exact BoolR.yes HC.out
  · by_cases c3 : H = p
    · by_cases c2 : L = 0
      · have HC := Lib.hid (HR.out.2 (.inr ⟨c3, c2⟩))
        subst c3 c2
        go_wp2
        go_ret
        exact BoolR.yes HC.out
      · have HC : Hid (¬ C) := Lib.hid (fun h => by have := HR.out.1 h; omega)
        have c5 : ((L : Int) == 0) = false := by simp; omega
        subst c3
        go_wp2
        go_ret
        exact BoolR.no HC.out
    · have HC : Hid (¬ C) := Lib.hid (fun h => by have := HR.out.1 h; omega)
      go_wp2
      go_ret
      exact BoolR.no HC.out
end Go.Proofs.Ytjahdladcijhoaa
