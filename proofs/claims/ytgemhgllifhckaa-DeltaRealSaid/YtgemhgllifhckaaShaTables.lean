/- The tables: the words that each round adds, and those at first. Conditions: as named in each theorem. -/
import Derived.Test.YtgemhgllifhckaaQA
import Derived.Test.YtgemhgllifhckaaChecked
import Derived.Shelf.Bits.Mul64
import Derived.Laws.Externs
import Derived.Deep.MidRow
import Derived.Scope
import Derived.Deep.Cut
import Derived.Deep.DeepCutAuto
import Derived.Laws.Rows
namespace Go.Proofs.Ytgemhgllifhckaa
open Go.RowKit
set_option linter.unusedVariables false
set_option linter.unusedSimpArgs false
set_option maxRecDepth 100000 in
set_option maxHeartbeats 1000000 in
theorem mul64_any (x y : Nat) (hx : x < 18446744073709551616) (hy : y < 18446744073709551616) (w : World) :
    Calls Try.prog 120 #[.int .u64 x, .int .u64 y] w fun e w' => e = .returned (.tuple #[.int .u64 ((x * y / 18446744073709551616 : Nat) : Int), .int .u64 ((x * y % 18446744073709551616 : Nat) : Int)]) ∧ w' = w := by
  obtain ⟨bd, bt, bw, hhi⟩ := Lib.mul64_hi x y hx hy
  have ba := Lib.half_mul_le (a := x / 4294967296) (b := y / 4294967296) (by omega) (by omega)
  have bb := Lib.half_mul_le (a := x / 4294967296) (b := y % 4294967296) (by omega) (by omega)
  have bc := Lib.half_mul_le (a := x % 4294967296) (b := y / 4294967296) (by omega) (by omega)
  have ba' : x / 4294967296 * (y / 4294967296) < 18446744073709551616 := by omega
  have bb' : x / 4294967296 * (y % 4294967296) < 18446744073709551616 := by omega
  have bc' : x % 4294967296 * (y / 4294967296) < 18446744073709551616 := by omega
  have bh1 : x / 4294967296 * (y / 4294967296) + (x / 4294967296 * (y % 4294967296) + x % 4294967296 * (y % 4294967296) / 4294967296) / 4294967296 < 18446744073709551616 := by omega
  have bh : x / 4294967296 * (y / 4294967296) + (x / 4294967296 * (y % 4294967296) + x % 4294967296 * (y % 4294967296) / 4294967296) / 4294967296 + ((x / 4294967296 * (y % 4294967296) + x % 4294967296 * (y % 4294967296) / 4294967296) % 4294967296 + x % 4294967296 * (y / 4294967296)) / 4294967296 < 18446744073709551616 := by omega
  go_enter Try.func120, Try.ntmps120
  go_wp2
  simp only [Mul64.maskN x hx, Mul64.maskN y hy, Mul64.divN, Mul64.mulN, Mul64.addN, Mul64.wrapN _ bd, Mul64.wrapN _ bb', Mul64.wrapN _ bt, Mul64.maskN _ bt, Mul64.wrapN _ bc', Mul64.wrapN _ bw, Mul64.wrapN _ ba', Mul64.wrapN _ bh1, Mul64.wrapN _ bh, Mul64.wrapM (x * y)]
  rw [hhi]
  go_ret2
  exact ⟨rfl, rfl⟩
theorem add64_any (x y : Nat) (w : World) : (callFunc 121 #[.int .u64 x, .int .u64 y, .int .u64 0]).run Try.prog w =
      .ok (.value (.tuple #[.int .u64 (((x + y) % 18446744073709551616 : Nat) : Int), .int .u64 (((x + y) / 18446744073709551616 : Nat) : Int)])) w := by
  rw [run_callFunc_extern Try.func121 (by kernel_rfl) (by kernel_rfl) (by kernel_rfl) (e := add64Entry) (by kernel_rfl), run_add64 x y 0 (by omega) (by omega) (by omega) (by omega)]
  simp only [Result.andThen]
  congr 5 <;> omega
end Go.Proofs.Ytgemhgllifhckaa
namespace Go.Proofs.Ytgemhgllifhckaa
open Go.RowKit
set_option linter.unusedVariables false
set_option linter.unusedSimpArgs false
/-- a Boolean that tells whether something holds; the world is as it was -/
def BoolR (C : Prop) (w : World) (e : Ending) (w' : World) : Prop := (∃ R : Bool, e = .returned (.bool R) ∧ (R = true ↔ C)) ∧ w' = w
theorem BoolR.yes {C : Prop} {w : World} (h : C) : BoolR C w (.returned (.bool true)) w := ⟨⟨true, rfl, fun _ => h, fun _ => rfl⟩, rfl⟩
theorem BoolR.no {C : Prop} {w : World} (h : ¬ C) : BoolR C w (.returned (.bool false)) w := ⟨⟨false, rfl, (fun h => by cases h), fun h2 => absurd h2 h⟩, rfl⟩
theorem big_le (S T U q r B p : Nat) (hS : S = U * T) (hr : r < U) (hB : B < T) : q * S + r * T + B ≤ p * S ↔ q < p ∨ (q = p ∧ r = 0 ∧ B = 0) := by
  have h1 : r * T + B < S := by
    have : (r + 1) * T ≤ U * T := Nat.mul_le_mul_right T hr
    rw [Nat.add_mul, Nat.one_mul] at this
    omega
  have hT : 0 < T := by omega
  constructor
  · intro h
    rcases Nat.lt_trichotomy q p with h2 | h2 | h2
    · exact .inl h2
    · have h3 : r * T + B = 0 := by rw [h2] at h; omega
      have h4 : r * T = 0 := by omega
      refine .inr ⟨h2, ?_, by omega⟩
      rcases Nat.mul_eq_zero.1 h4 with h5 | h5
      · exact h5
      · omega
    · exfalso
      have : (p + 1) * S ≤ q * S := Nat.mul_le_mul_right S h2
      rw [Nat.add_mul, Nat.one_mul] at this
      omega
  · rintro (h | ⟨h, h2, h3⟩)
    · have : (q + 1) * S ≤ p * S := Nat.mul_le_mul_right S h
      rw [Nat.add_mul, Nat.one_mul] at this
      omega
    · rw [h, h2, h3, Nat.zero_mul]; omega
/-- a cube is at most a whole number (with 96 bits behind the point) -/
def CubeLe (x p : Nat) : Prop := x * x * x ≤ p * (4294967296 * 18446744073709551616)
/-- a square is at most a whole number (with 64 bits behind the point) -/
def SqLe (x p : Nat) : Prop := x * x ≤ p * 18446744073709551616
theorem cube_parts (x p : Nat) (hx : x ≤ 68719476736) : ∃ HI LO A B D q r : Nat, HI = x * x / 18446744073709551616 ∧ LO = x * x % 18446744073709551616 ∧ A = LO * x / 18446744073709551616 ∧ B = LO * x % 18446744073709551616 ∧ D = HI * x % 18446744073709551616 ∧ HI * x / 18446744073709551616 = 0 ∧
    HI ≤ 256 ∧ A ≤ 68719476736 ∧ D ≤ 17592186044416 ∧ q = (A + D) / 4294967296 ∧ r = (A + D) % 4294967296 ∧ (CubeLe x p ↔ q < p ∨ (q = p ∧ r = 0 ∧ B = 0)) := by
  have hxx : x * x ≤ 68719476736 * 68719476736 := Nat.mul_le_mul hx hx
  unfold CubeLe
  obtain ⟨Y, hY⟩ : ∃ Y, Y = x * x := ⟨_, rfl⟩
  rw [← hY] at hxx ⊢
  clear hY
  have hT : 0 < 18446744073709551616 := by decide
  have hhi : Y / 18446744073709551616 ≤ 256 := Nat.le_trans (Nat.div_le_div_right (c := 18446744073709551616) hxx) (by decide)
  obtain ⟨T, hTe⟩ : ∃ T, T = 18446744073709551616 := ⟨_, rfl⟩
  rw [← hTe] at hT hhi ⊢
  have hYHL : Y = Y / T * T + Y % T := (Nat.div_add_mod' Y T).symm
  have hLb : Y % T < T := Nat.mod_lt _ hT
  refine ⟨Y / T, Y % T, Y % T * x / T, Y % T * x % T, Y / T * x % T, (Y % T * x / T + Y / T * x % T) / 4294967296, (Y % T * x / T + Y / T * x % T) % 4294967296, rfl, rfl, rfl, rfl, rfl, ?_⟩
  obtain ⟨H, hH⟩ : ∃ H, H = Y / T := ⟨_, rfl⟩
  obtain ⟨L, hL⟩ : ∃ L, L = Y % T := ⟨_, rfl⟩
  rw [← hH, ← hL] at hYHL
  rw [← hL] at hLb
  rw [← hH] at hhi
  rw [← hH, ← hL]
  have h1 : H * x ≤ 17592186044416 := Nat.le_trans (Nat.mul_le_mul hhi hx) (by decide)
  have h2 : L * x ≤ T * 68719476736 := Nat.mul_le_mul (Nat.le_of_lt hLb) hx
  have h3 : Y * x = H * x * T + L * x := by rw [hYHL, Nat.add_mul, Nat.mul_right_comm]
  rw [h3]
  obtain ⟨P, hP⟩ : ∃ P, P = H * x := ⟨_, rfl⟩
  obtain ⟨Q, hQ⟩ : ∃ Q, Q = L * x := ⟨_, rfl⟩
  rw [← hP] at h1 ⊢
  rw [← hQ] at h2 ⊢
  have hPT : P < T := by rw [hTe]; omega
  have hP2 : P % T = P := Nat.mod_eq_of_lt hPT
  have hP3 : P / T = 0 := Nat.div_eq_of_lt hPT
  have hQa : Q / T ≤ 68719476736 := by
    have := Nat.div_le_div_right (c := T) h2
    rw [Nat.mul_div_cancel_left _ hT] at this
    exact this
  have HHI := Lib.hid hhi
  clear hTe h3 hP hQ hH hL hYHL hLb hxx hhi h2
  rw [hP2]
  refine ⟨hP3, HHI.out, hQa, h1, rfl, rfl, ?_⟩
  have hQAB : Q = Q / T * T + Q % T := (Nat.div_add_mod' Q T).symm
  have hBb : Q % T < T := Nat.mod_lt _ hT
  obtain ⟨A, hA⟩ : ∃ A, A = Q / T := ⟨_, rfl⟩
  obtain ⟨B, hB⟩ : ∃ B, B = Q % T := ⟨_, rfl⟩
  rw [← hA, ← hB] at hQAB
  rw [← hB] at hBb
  rw [← hA, ← hB]
  obtain ⟨M, hM⟩ : ∃ M, M = A + P := ⟨_, rfl⟩
  rw [← hM]
  have hMe : P * T + Q = M / 4294967296 * (4294967296 * T) + M % 4294967296 * T + B := by
    have e := Nat.div_add_mod' M 4294967296
    rw [← Nat.mul_assoc, ← Nat.add_mul, e, hQAB, hM, Nat.add_mul]
    omega
  rw [hMe]
  exact big_le _ T 4294967296 _ _ _ _ rfl (Nat.mod_lt _ (by decide)) hBb
theorem u64_or0 (q : Nat) (h : q < 9223372036854775808) : bits .or .u64 0 (q : Int) = (q : Int) := by
  have := bits_or_u64_nat 0 q (by omega) (by omega)
  simpa using this
set_option maxRecDepth 100000 in
set_option maxHeartbeats 1000000 in
theorem cubed_any (x p : Nat) (hx : x ≤ 68719476736) (hp : p ≤ 4294967295) (w : World) :
    Calls Try.prog 103 #[.int .u64 x, .int .u64 p] w (BoolR (CubeLe x p) w) := by
  obtain ⟨HI, LO, A, B, D, q, r, e1, e2, e3, e4, e5, e6, b1, b2, b3, e7, e8, hiff⟩ := cube_parts x p hx
  have HM1 := Lib.hid (mul64_any x x (by omega) (by omega) w)
  rw [← e1, ← e2] at HM1
  have hLO : LO < 18446744073709551616 := by rw [e2]; exact Nat.mod_lt _ (by decide)
  have HM2 := Lib.hid (mul64_any LO x hLO (by omega) w)
  rw [← e3, ← e4] at HM2
  have HM3 := Lib.hid (mul64_any HI x (by omega) (by omega) w)
  rw [← e5, e6] at HM3
  have hadd := add64_any A D w
  have hBb : B < 18446744073709551616 := by rw [e4]; exact Nat.mod_lt _ (by decide)
  obtain ⟨M, hM⟩ : ∃ M, M = A + D := ⟨_, rfl⟩
  rw [← hM] at hadd e7 e8
  have m1 : M % 18446744073709551616 = M := Nat.mod_eq_of_lt (by omega)
  have m2 : M / 18446744073709551616 = 0 := Nat.div_eq_of_lt (by omega)
  rw [m1, m2] at hadd
  have hqb : q < 9223372036854775808 := by omega
  have hrb : r < 4294967296 := by omega
  have hq : (M : Int) / 4294967296 = (q : Int) := by omega
  have hor := u64_or0 q hqb
  have hsh : IntKind.u64.wrap ((M : Int) * 4294967296) = ((r * 4294967296 : Nat) : Int) := by rw [IntKind.wrap_u64]; omega
  obtain ⟨C, hC⟩ : ∃ C : Prop, C = CubeLe x p := ⟨_, rfl⟩
  rw [← hC] at hiff
  rw [← hC]
  have HR := Lib.hid hiff
  clear e1 e2 e3 e4 e5 e6 b1 b2 b3 hM m1 m2 hiff hC e7 e8 hLO
  go_enter Try.func103, Try.ntmps103
  go_wp2_with fail
  refine HM1.out.mono ?_
  rintro e w' ⟨rfl, rfl⟩
  go_wp2_with fail
  refine HM2.out.mono ?_
  rintro e w' ⟨rfl, rfl⟩
  go_wp2_with fail
  refine HM3.out.mono ?_
  rintro e w' ⟨rfl, rfl⟩
  clear HM1 HM2 HM3
  have hnn : ∀ b : Bool, (!(b != false)) = !b := by decide
  by_cases c1 : q < p
  · have HC := Lib.hid (HR.out.2 (.inl c1))
    by_cases c2 : r = 0
    · subst c2
      have hsh0 : IntKind.u64.wrap ((M : Int) * 4294967296) = 0 := by rw [hsh]; rfl
      clear hsh
      go_wp2_with (simp only [hadd])
      go_ret
      exact BoolR.yes HC.out
    · have hsn : (IntKind.u64.wrap ((M : Int) * 4294967296) != 0) = true := by rw [hsh]; simp; omega
      clear hsh
      go_wp2_with (simp only [hadd])
      go_ret
      exact BoolR.yes HC.out
  · by_cases c3 : q = p
    · by_cases c2 : r = 0
      · have hsh0 : (IntKind.u64.wrap ((M : Int) * 4294967296) != 0) = false := by rw [hsh, c2]; rfl
        by_cases c4 : B = 0
        · have HC := Lib.hid (HR.out.2 (.inr ⟨c3, c2, c4⟩))
          subst c3 c4
          clear hsh
          go_wp2_with (simp only [hadd])
          go_ret
          exact BoolR.yes HC.out
        · have HC : Hid (¬ C) := Lib.hid (fun h => by have := HR.out.1 h; omega)
          have c5 : ((B : Int) != 0) = true := by simp; omega
          subst c3
          clear hsh
          go_wp2_with (simp only [hadd])
          go_ret
          exact BoolR.no HC.out
      · have hsn : (IntKind.u64.wrap ((M : Int) * 4294967296) != 0) = true := by rw [hsh]; simp; omega
        have HC : Hid (¬ C) := Lib.hid (fun h => by have := HR.out.1 h; omega)
        subst c3
        clear hsh
        go_wp2_with (simp only [hadd])
        go_ret
        exact BoolR.no HC.out
    · have HC : Hid (¬ C) := Lib.hid (fun h => by have := HR.out.1 h; omega)
      by_cases c2 : r = 0
      · have hsh0 : (IntKind.u64.wrap ((M : Int) * 4294967296) != 0) = false := by rw [hsh, c2]; rfl
        clear hsh
        go_wp2_with (simp only [hadd])
        go_ret
        exact BoolR.no HC.out
      · have hsn : (IntKind.u64.wrap ((M : Int) * 4294967296) != 0) = true := by rw [hsh]; simp; omega
        clear hsh
        go_wp2_with (simp only [hadd])
        go_ret
        exact BoolR.no HC.out
/-- a square in its parts -/
theorem sq_parts (x p : Nat) : SqLe x p ↔ x * x / 18446744073709551616 < p ∨ (x * x / 18446744073709551616 = p ∧ x * x % 18446744073709551616 = 0) := by
  unfold SqLe
  obtain ⟨Y, hY⟩ : ∃ Y, Y = x * x := ⟨_, rfl⟩
  rw [← hY]
  have h := big_le (1 * 18446744073709551616) 18446744073709551616 1 (Y / 18446744073709551616) 0 (Y % 18446744073709551616) p rfl (by decide) (Nat.mod_lt _ (by decide))
  have e := Nat.div_add_mod' Y 18446744073709551616
  rw [Nat.one_mul, Nat.zero_mul, Nat.add_zero, e] at h
  rw [h]
  constructor
  · rintro (h1 | ⟨h1, _, h2⟩)
    · exact .inl h1
    · exact .inr ⟨h1, h2⟩
  · rintro (h1 | ⟨h1, h2⟩)
    · exact .inl h1
    · exact .inr ⟨h1, rfl, h2⟩
set_option maxRecDepth 100000 in
set_option maxHeartbeats 1000000 in
theorem squared_any (x p : Nat) (hx : x ≤ 68719476736) (hp : p ≤ 4294967295) (w : World) :
    Calls Try.prog 104 #[.int .u64 x, .int .u64 p] w (BoolR (SqLe x p) w) := by
  have hiff := sq_parts x p
  have HM1 := Lib.hid (mul64_any x x (by omega) (by omega) w)
  obtain ⟨H, hH⟩ : ∃ H, H = x * x / 18446744073709551616 := ⟨_, rfl⟩
  obtain ⟨L, hL⟩ : ∃ L, L = x * x % 18446744073709551616 := ⟨_, rfl⟩
  rw [← hH, ← hL] at HM1 hiff
  obtain ⟨C, hC⟩ : ∃ C : Prop, C = SqLe x p := ⟨_, rfl⟩
  rw [← hC] at hiff
  rw [← hC]
  have HR := Lib.hid hiff
  clear hiff hC hH hL
  go_enter Try.func104, Try.ntmps104
  go_wp2_with fail
  refine HM1.out.mono ?_
  rintro e w' ⟨rfl, rfl⟩
  clear HM1
  by_cases c1 : H < p
  · have HC := Lib.hid (HR.out.2 (.inl c1))
    go_wp2
    go_ret
    exact BoolR.yes HC.out
  · by_cases c3 : H = p
    · by_cases c2 : L = 0
      · have HC := Lib.hid (HR.out.2 (.inr ⟨c3, c2⟩))
        subst c3 c2
        go_wp2
        go_ret
        exact BoolR.yes HC.out
      · have HC : Hid (¬ C) := Lib.hid (fun h => by have := HR.out.1 h; omega)
        have c5 : ((L : Int) == 0) = false := by simp; omega
        subst c3
        go_wp2
        go_ret
        exact BoolR.no HC.out
    · have HC : Hid (¬ C) := Lib.hid (fun h => by have := HR.out.1 h; omega)
      go_wp2
      go_ret
      exact BoolR.no HC.out
end Go.Proofs.Ytgemhgllifhckaa
namespace Go.Proofs.Ytgemhgllifhckaa
open Go.RowKit
set_option linter.unusedVariables false
set_option linter.unusedSimpArgs false
/-- the greatest number of which C holds -/
def RootR (C : Nat → Prop) (w : World) (e : Ending) (w' : World) : Prop := (∃ r : Nat, e = .returned (.int .u32 ((r % 4294967296 : Nat) : Int)) ∧ C r ∧ ¬ C (r + 1)) ∧ w' = w
set_option maxRecDepth 100000 in
set_option maxHeartbeats 1000000 in
theorem root_cub (p : Nat) (hp : p ≤ 4294967295) (htop : ¬ CubeLe 68719476736 p) (w : World) :
    Calls Try.prog 102 #[.int .u64 p, .func (.func 103) #[] #[]] w (RootR (fun r => CubeLe r p) w) := by
  have hz : CubeLe 0 p := Nat.le_trans (Nat.le_of_eq (by simp)) (Nat.zero_le _)
  have HT := Lib.hid htop
  have HZ := Lib.hid hz
  clear htop hz
  go_enter Try.func102, Try.ntmps102
  go_wp2_with fail
  go_loopw [5, 6] (fun a b wr => ∃ (lo hi : Nat), a = .int .u64 lo ∧ b = .int .u64 hi ∧ lo < hi ∧ hi ≤ 68719476736 ∧ CubeLe lo p ∧ ¬ CubeLe hi p ∧ wr = w) (fun a b _ => (intOf b).toNat - (intOf a).toNat)
  case atStart => exact ⟨0, 68719476736, rfl, rfl, by omega, by omega, HZ.out, HT.out, rfl⟩
  case round =>
    obtain ⟨lo, hi, rfl, rfl, hlt, hhi, hl, hh, rfl⟩ := hrel
    have HL := Lib.hid hl
    have HH := Lib.hid hh
    have hsub : IntKind.u64.wrap ((hi : Int) - (lo : Int)) = (hi : Int) - (lo : Int) := by rw [IntKind.wrap_u64]; omega
    have hadd : IntKind.u64.wrap ((lo : Int) + (hi : Int)) = (lo : Int) + (hi : Int) := by rw [IntKind.wrap_u64]; omega
    clear hl hh
    by_cases hgo : lo + 1 < hi
    · have d1 : decide ((1 : Int) < (hi : Int) - (lo : Int)) = true := decide_eq_true (by omega)
      obtain ⟨mid, hm⟩ : ∃ mid, mid = (lo + hi) / 2 := ⟨_, rfl⟩
      have hmi : ((lo : Int) + (hi : Int)) / 2 = (mid : Int) := by omega
      have HC := Lib.hid (cubed_any mid p (by omega) hp wr)
      rw [← hmi] at HC
      have hm1 : lo < mid ∧ mid < hi := by omega
      have HMI := Lib.hid (And.intro hmi hm1)
      clear hmi hm1 hm
      go_wp2_with fail
      refine HC.out.mono ?_
      rintro e w' ⟨⟨R, rfl, hR⟩, rfl⟩
      rw [HMI.out.1]
      cases R with
      | true =>
        have HN := Lib.hid (hR.1 rfl)
        clear hR HC
        go_wp2
        exact ⟨⟨mid, hi, rfl, rfl, HMI.out.2.2, hhi, HN.out, HH.out, trivial⟩, by have := HMI.out.2; simp [intOf]; omega⟩
      | false =>
        have HN : Hid (¬ CubeLe mid p) := Lib.hid (fun h => by have := hR.2 h; cases this)
        clear hR HC
        go_wp2
        exact ⟨⟨lo, mid, rfl, rfl, HMI.out.2.1, by have := HMI.out.2.2; omega, HL.out, HN.out, trivial⟩, by have := HMI.out.2; simp [intOf]; omega⟩
    · have d1 : decide ((1 : Int) < (hi : Int) - (lo : Int)) = false := decide_eq_false (by omega)
      have HE : Hid (hi = lo + 1) := Lib.hid (by omega)
      have hwr : IntKind.u32.wrap (lo : Int) = ((lo % 4294967296 : Nat) : Int) := by simp [IntKind.wrap, IntKind.bits, IntKind.signed]
      clear hgo
      go_wp2
      go_ret
      exact ⟨⟨lo, by simp [hwr], HL.out, by rw [← HE.out]; exact HH.out⟩, rfl⟩
set_option maxRecDepth 100000 in
set_option maxHeartbeats 1000000 in
theorem root_sq (p : Nat) (hp : p ≤ 4294967295) (htop : ¬ SqLe 68719476736 p) (w : World) :
    Calls Try.prog 102 #[.int .u64 p, .func (.func 104) #[] #[]] w (RootR (fun r => SqLe r p) w) := by
  have hz : SqLe 0 p := Nat.le_trans (Nat.le_of_eq (by simp)) (Nat.zero_le _)
  have HT := Lib.hid htop
  have HZ := Lib.hid hz
  clear htop hz
  go_enter Try.func102, Try.ntmps102
  go_wp2_with fail
  go_loopw [5, 6] (fun a b wr => ∃ (lo hi : Nat), a = .int .u64 lo ∧ b = .int .u64 hi ∧ lo < hi ∧ hi ≤ 68719476736 ∧ SqLe lo p ∧ ¬ SqLe hi p ∧ wr = w) (fun a b _ => (intOf b).toNat - (intOf a).toNat)
  case atStart => exact ⟨0, 68719476736, rfl, rfl, by omega, by omega, HZ.out, HT.out, rfl⟩
  case round =>
    obtain ⟨lo, hi, rfl, rfl, hlt, hhi, hl, hh, rfl⟩ := hrel
    have HL := Lib.hid hl
    have HH := Lib.hid hh
    have hsub : IntKind.u64.wrap ((hi : Int) - (lo : Int)) = (hi : Int) - (lo : Int) := by rw [IntKind.wrap_u64]; omega
    have hadd : IntKind.u64.wrap ((lo : Int) + (hi : Int)) = (lo : Int) + (hi : Int) := by rw [IntKind.wrap_u64]; omega
    clear hl hh
    by_cases hgo : lo + 1 < hi
    · have d1 : decide ((1 : Int) < (hi : Int) - (lo : Int)) = true := decide_eq_true (by omega)
      obtain ⟨mid, hm⟩ : ∃ mid, mid = (lo + hi) / 2 := ⟨_, rfl⟩
      have hmi : ((lo : Int) + (hi : Int)) / 2 = (mid : Int) := by omega
      have HC := Lib.hid (squared_any mid p (by omega) hp wr)
      rw [← hmi] at HC
      have hm1 : lo < mid ∧ mid < hi := by omega
      have HMI := Lib.hid (And.intro hmi hm1)
      clear hmi hm1 hm
      go_wp2_with fail
      refine HC.out.mono ?_
      rintro e w' ⟨⟨R, rfl, hR⟩, rfl⟩
      rw [HMI.out.1]
      cases R with
      | true =>
        have HN := Lib.hid (hR.1 rfl)
        clear hR HC
        go_wp2
        exact ⟨⟨mid, hi, rfl, rfl, HMI.out.2.2, hhi, HN.out, HH.out, trivial⟩, by have := HMI.out.2; simp [intOf]; omega⟩
      | false =>
        have HN : Hid (¬ SqLe mid p) := Lib.hid (fun h => by have := hR.2 h; cases this)
        clear hR HC
        go_wp2
        exact ⟨⟨lo, mid, rfl, rfl, HMI.out.2.1, by have := HMI.out.2.2; omega, HL.out, HN.out, trivial⟩, by have := HMI.out.2; simp [intOf]; omega⟩
    · have d1 : decide ((1 : Int) < (hi : Int) - (lo : Int)) = false := decide_eq_false (by omega)
      have HE : Hid (hi = lo + 1) := Lib.hid (by omega)
      have hwr : IntKind.u32.wrap (lo : Int) = ((lo % 4294967296 : Nat) : Int) := by simp [IntKind.wrap, IntKind.bits, IntKind.signed]
      clear hgo
      go_wp2
      go_ret
      exact ⟨⟨lo, by simp [hwr], HL.out, by rw [← HE.out]; exact HH.out⟩, rfl⟩
theorem cube_mono {a b p : Nat} (h : a ≤ b) (hb : CubeLe b p) : CubeLe a p := Nat.le_trans (Nat.mul_le_mul (Nat.mul_le_mul h h) h) hb
theorem sq_mono {a b p : Nat} (h : a ≤ b) (hb : SqLe b p) : SqLe a p := Nat.le_trans (Nat.mul_le_mul h h) hb
/-- the root -/
noncomputable def gr (C : Nat → Prop) : Nat := Classical.epsilon (fun r => C r ∧ ¬ C (r + 1))
theorem gr_eq {C : Nat → Prop} (hm : ∀ a b, a ≤ b → C b → C a) {r : Nat} (h : C r) (h2 : ¬ C (r + 1)) : r = gr C := by
  have he : C (gr C) ∧ ¬ C (gr C + 1) := Classical.epsilon_spec (p := fun r => C r ∧ ¬ C (r + 1)) ⟨r, h, h2⟩
  rcases Nat.lt_trichotomy r (gr C) with h3 | h3 | h3
  · exact absurd (hm _ _ h3 he.1) h2
  · exact h3
  · exact absurd (hm _ _ h3 h) he.2
noncomputable def k3 (p : Nat) : Nat := gr (fun r => CubeLe r p) % 4294967296
noncomputable def k2 (p : Nat) : Nat := gr (fun r => SqLe r p) % 4294967296
theorem k3_lt (p : Nat) : k3 p < 4294967296 := Nat.mod_lt _ (by decide)
theorem k2_lt (p : Nat) : k2 p < 4294967296 := Nat.mod_lt _ (by decide)
theorem cub_k3 {p r : Nat} (h : CubeLe r p) (h2 : ¬ CubeLe (r + 1) p) : r % 4294967296 = k3 p := by
  unfold k3; rw [← gr_eq (C := fun r => CubeLe r p) (fun a b => cube_mono) h h2]
theorem sq_k2 {p r : Nat} (h : SqLe r p) (h2 : ¬ SqLe (r + 1) p) : r % 4294967296 = k2 p := by
  unfold k2; rw [← gr_eq (C := fun r => SqLe r p) (fun a b => sq_mono) h h2]
theorem cube_top {p : Nat} (hp : p ≤ 4000) : ¬ CubeLe 68719476736 p := by
  intro h
  unfold CubeLe at h
  have := Nat.le_trans h (Nat.mul_le_mul_right (4294967296 * 18446744073709551616) hp)
  revert this; decide
theorem sq_top {p : Nat} (hp : p ≤ 200) : ¬ SqLe 68719476736 p := by
  intro h
  unfold SqLe at h
  have := Nat.le_trans h (Nat.mul_le_mul_right 18446744073709551616 hp)
  revert this; decide
theorem root3_any (p : Nat) (hp : p ≤ 4000) (w : World) : Calls Try.prog 102 #[.int .u64 p, .func (.func 103) #[] #[]] w fun e w' => e = .returned (.int .u32 (k3 p : Nat)) ∧ w = w' :=
  (root_cub p (by omega) (cube_top hp) w).mono fun e w' h => by
    obtain ⟨⟨r, rfl, h1, h2⟩, h3⟩ := h
    exact ⟨by rw [cub_k3 h1 h2], h3.symm⟩
theorem root2_any (p : Nat) (hp : p ≤ 200) (w : World) : Calls Try.prog 102 #[.int .u64 p, .func (.func 104) #[] #[]] w fun e w' => e = .returned (.int .u32 (k2 p : Nat)) ∧ w = w' :=
  (root_sq p (by omega) (sq_top hp) w).mono fun e w' h => by
    obtain ⟨⟨r, rfl, h1, h2⟩, h3⟩ := h
    exact ⟨by rw [sq_k2 h1 h2], h3.symm⟩
end Go.Proofs.Ytgemhgllifhckaa
namespace Go.Proofs.Ytgemhgllifhckaa
open Go.RowKit
set_option linter.unusedVariables false
set_option linter.unusedSimpArgs false
theorem grown_setCells {w w' : World} {q : Nat} (h : w.grownBy w' (some q)) : ∀ (vs : List Value) (o : Nat), w.grownBy (w'.setCells q o vs) (some q) := by
  intro vs
  induction vs generalizing w' with
  | nil => intro o; exact h
  | cons v vs ih => intro o; exact ih (grown_set h o v) (o + 1)
theorem Blk.setMid {q : Nat} {T : TypeId} : ∀ (vs cs pre : List Value) (w : World), Blk w q (pre ++ cs) T → vs.length = cs.length → Blk (w.setCells q pre.length vs) q (pre ++ vs) T := by
  intro vs
  induction vs with
  | nil =>
    intro cs pre w h hl
    cases cs with
    | nil => exact h
    | cons c cs => simp at hl
  | cons v vs ih =>
    intro cs pre w h hl
    cases cs with
    | nil => simp at hl
    | cons c cs =>
      have h1 := Blk.set h pre.length v
      have e : (pre ++ c :: cs).set pre.length v = (pre ++ [v]) ++ cs := by
        rw [List.set_append_right _ _ (Nat.le_refl _)]; simp
      rw [e] at h1
      have h2 := ih cs (pre ++ [v]) _ h1 (by simpa using hl)
      rw [List.length_append, List.length_singleton, List.append_assoc] at h2
      exact h2
theorem Blk.setAll {w : World} {q : Nat} {cs vs : List Value} {T : TypeId} (h : Blk w q cs T) (hl : vs.length = cs.length) : Blk (w.setCells q 0 vs) q vs T := by
  have := Blk.setMid vs cs [] w (by simpa using h) hl
  simpa using this
theorem Blk.thereA {w : World} {q : Nat} {cs : List Value} {T : TypeId} (h : Blk w q cs T) {n : Nat} (hl : n = cs.length) : w.there q 0 n := by
  intro j hj
  have hj2 : j < cs.length := by rw [← hl]; exact hj
  rw [Nat.zero_add]
  exact ⟨by rw [h.cell (List.getElem?_eq_getElem hj2)]; rfl, h.frozen j⟩
theorem Blk.setAllOther {w : World} {q p : Nat} {cs vs : List Value} {T : TypeId} (h : Blk w p cs T) (hne : p ≠ q) : Blk (w.setCells q 0 vs) p cs T := h.grown (grown_setCells (grown_refl w (some q)) vs 0) (by simpa using hne)
theorem below_setAll {w w' : World} {q : Nat} (h : Below w.heap.size w w') (hq : w.heap.size ≤ q) (vs : List Value) : Below w.heap.size w (w'.setCells q 0 vs) :=
  h.grown (grown_setCells (grown_refl w' (some q)) vs 0) h.size (fun k hk => by cases hk; exact hq)
def P64 : List Nat := [2, 3, 5, 7, 11, 13, 17, 19, 23, 29, 31, 37, 41, 43, 47, 53, 59, 61, 67, 71, 73, 79, 83, 89, 97, 101, 103, 107, 109, 113, 127, 131, 137, 139, 149, 151, 157, 163, 167, 173, 179, 181, 191, 193, 197, 199, 211, 223, 227, 229, 233, 239, 241, 251, 257, 263, 269, 271, 277, 281, 283, 293, 307, 311]
def cntP (x : Nat) : Nat := (P64.filter (fun p => decide (p < x))).length
theorem P64_len : P64.length = 64 := by decide
theorem P64_table : ∀ x : Fin 312, 2 ≤ x.val → (P64[cntP x.val]? = some x.val ∧ (P64.take (cntP x.val)).all (fun p => decide (x.val % p ≠ 0)) = true ∧ cntP (x.val + 1) = cntP x.val + 1) ∨ ((P64.take (cntP x.val)).any (fun p => decide (x.val % p = 0)) = true ∧ cntP (x.val + 1) = cntP x.val) := by decide +kernel
theorem P64_cnt : cntP 2 = 0 ∧ cntP 312 = 64 := by decide +kernel
theorem P64_small : ∀ x : Fin 312, cntP x.val ≤ 63 := by decide +kernel
theorem P64_bd : ∀ p ∈ P64, 2 ≤ p ∧ p ≤ 311 := by decide
theorem P64_step {x : Nat} (h : 2 ≤ x) (h2 : x < 312) : (P64[cntP x]? = some x ∧ (∀ p ∈ P64.take (cntP x), x % p ≠ 0) ∧ cntP (x + 1) = cntP x + 1) ∨ ((∃ p ∈ P64.take (cntP x), x % p = 0) ∧ cntP (x + 1) = cntP x) := by
  rcases P64_table ⟨x, h2⟩ h with ⟨a, b, c⟩ | ⟨a, b⟩
  · exact .inl ⟨a, by simpa using b, c⟩
  · exact .inr ⟨by simpa using a, b⟩
/-- the array of primes, so many of them found -/
def pCells (n : Nat) : List Value := (P64.take n).map (fun p : Nat => Value.int .u64 (p : Nat)) ++ List.replicate (64 - n) (Value.int .u64 0)
theorem pCells_at {n j : Nat} (h : n ≤ 64) (hj : j < n) : (pCells n)[j]? = some (.int .u64 ((P64.getD j 0 : Nat) : Int)) := by
  unfold pCells
  have hl := P64_len
  rw [List.getElem?_append_left (by rw [List.length_map, List.length_take]; omega), List.getElem?_map, List.getElem?_take_of_lt hj, List.getD_eq_getElem?_getD, List.getElem?_eq_getElem (by omega)]
  rfl
theorem pCells_set {n x : Nat} (h : n < 64) (hx : P64[n]? = some x) : (pCells n).set n (.int .u64 (x : Nat)) = pCells (n + 1) := by
  unfold pCells
  have hl := P64_len
  have h1 : ((P64.take n).map (fun p : Nat => Value.int .u64 (p : Nat))).length = n := by rw [List.length_map, List.length_take]; omega
  rw [List.set_append_right _ _ (by rw [h1]; exact Nat.le_refl _), h1, Nat.sub_self, show 64 - n = (64 - (n + 1)) + 1 by omega, List.replicate_succ, List.set_cons_zero]
  have h2 : P64.take (n + 1) = P64.take n ++ [x] := by
    rw [List.take_add_one, hx]; rfl
  rw [h2, List.map_append, List.append_assoc]
  rfl
def zeros64 : Array Value := (List.replicate 64 (Value.int .u64 0)).toArray
theorem arr64_run (w : World) : (zeroValue 140).run Try.prog w = .ok (.agg zeros64) w := by kernel_rfl
set_option maxRecDepth 100000 in
set_option maxHeartbeats 2000000 in
theorem primes_any (w : World) : Calls Try.prog 101 #[] w fun e w' => e = .returned (.agg (pCells 64).toArray) ∧ Below w.heap.size w w' := by
  have haz := arr64_run
  obtain ⟨V1, hV1⟩ : ∃ V, V = w.alloc (Obj.cells zeros64 140) := ⟨_, rfl⟩
  obtain ⟨p0, hp0⟩ : ∃ p, p = w.heap.size := ⟨_, rfl⟩
  obtain ⟨V2, hV2⟩ : ∃ V, V = V1.alloc (Obj.cells zeros64 140) := ⟨_, rfl⟩
  obtain ⟨p1, hp1⟩ : ∃ p, p = V1.heap.size := ⟨_, rfl⟩
  have hA1 : Blk V1 p0 (pCells 0) 140 := by rw [hV1, hp0]; exact Blk.new w (pCells 0) _
  have hA : Blk V2 p0 (pCells 0) 140 := by rw [hV2]; exact hA1.alloc _
  have hX : Blk V2 p1 (pCells 0) 140 := by rw [hV2, hp1]; exact Blk.new V1 (pCells 0) _
  have hB1 : Below w.heap.size w V1 := by rw [hV1]; exact (Below.refl _ _).alloc (Nat.le_refl _) _
  have hB : Below w.heap.size w V2 := by rw [hV2]; exact hB1.alloc hB1.size _
  have h01 : p0 < p1 := by rw [hp1]; exact hA1.lt
  have HWP : Hid (w.heap.size ≤ p0) := Lib.hid (by rw [hp0]; exact Nat.le_refl _)
  have H0 := Lib.hid (And.intro hA (And.intro hX hB))
  have HV1 := Lib.hid hV1
  have HV2 := Lib.hid hV2
  have HP0 := Lib.hid hp0
  have HP1 := Lib.hid hp1
  clear hV1 hp0 hV2 hp1 hA1 hA hX hB1 hB
  go_enter Try.func101, Try.ntmps101
  go_upto_region 1 with fail
  rw [← HP0.out, ← HV1.out]
  refine wp_scope_straight ?_
  go_upto_region 2 with fail
  rw [← HP1.out, ← HV2.out]
  go_wp2_with fail
  go_step3
  go_wp2_with fail
  go_loopw [2, 3] (fun a b wr => ∃ (n x : Nat), a = .int .i64 n ∧ b = .int .u64 x ∧ 2 ≤ x ∧ x ≤ 312 ∧ n = cntP x ∧ Blk wr p0 (pCells 0) 140 ∧ Blk wr p1 (pCells n) 140 ∧ Below w.heap.size w wr) (fun _ b _ => 312 - (intOf b).toNat)
  case atStart => exact ⟨0, 2, rfl, rfl, by omega, by omega, P64_cnt.1.symm, H0.out.1, H0.out.2.1, H0.out.2.2⟩
  case round =>
    obtain ⟨n, x, rfl, rfl, h2, h312, hn, hA, hX, hB⟩ := hrel
    obtain ⟨wo, hwo⟩ : ∃ wo, wo = wr := ⟨_, rfl⟩
    subst hwo
    have HA := Lib.hid (And.intro hA (And.intro hX hB))
    clear hA hX hB
    by_cases hx : x < 312
    · have hn63 : n ≤ 63 := by rw [hn]; exact P64_small ⟨x, hx⟩
      have HST := Lib.hid (P64_step h2 hx)
      have HN := Lib.hid hn
      have HLT := Lib.hid hx
      have hwx : IntKind.u64.wrap ((x : Int) + 1) = (x : Int) + 1 := by rw [IntKind.wrap_u64]; omega
      have i0 : (0 : Int) ≤ (n : Int) := by omega
      have i1 : (n : Int) ≤ 64 := by omega
      have i2 : (n : Int) < 64 := by omega
      clear hn hx
      go_wp2_with fail
      go_loopw [13] (fun i wr => ∃ j : Nat, i = .int .i64 j ∧ j ≤ n ∧ (∀ p ∈ P64.take j, x % p ≠ 0) ∧ wr = wo) (fun i _ => n - (intOf i).toNat)
      case atStart => exact ⟨0, by go_num, Nat.zero_le _, by simp, rfl⟩
      case round =>
        obtain ⟨j, rfl, hj, hall, rfl⟩ := hrel
        have HALL := Lib.hid hall
        clear hall
        by_cases hjn : j < n
        · have hc := HA.out.2.1.cell (i := j) (pCells_at (by omega) hjn)
          obtain ⟨p, hp⟩ : ∃ p, p = P64.getD j 0 := ⟨_, rfl⟩
          rw [← hp] at hc
          have hpj : P64[j]? = some p := by
            have hl := P64_len
            rw [hp, List.getD_eq_getElem?_getD, List.getElem?_eq_getElem (by omega)]; rfl
          have hpb := P64_bd p (List.mem_of_getElem? hpj)
          have HPJ := Lib.hid hpj
          have i3 : (j : Int) < (n : Int) := by omega
          have i4 : (0 : Int) ≤ (j : Int) := by omega
          have i5 : ¬ (p : Int) = 0 := by omega
          have hmod : IntKind.u64.wrap ((x : Int) % (p : Int)) = ((x % p : Nat) : Int) := by rw [IntKind.wrap_u64, ← Int.natCast_emod]; have := Nat.mod_lt x (y := p) (by omega); omega
          clear hp hpj
          by_cases hz : x % p = 0
          · have HF : Hid (cntP (x + 1) = n) := Lib.hid (by
              rcases HST.out with ⟨_, b, _⟩ | ⟨_, b⟩
              · exact absurd hz (b p (by
                  rw [← HN.out]
                  have := List.mem_of_getElem? (l := P64.take n) (i := j) (by rw [List.getElem?_take_of_lt hjn]; exact HPJ.out)
                  exact this))
              · rw [b, HN.out])
            have hzi : (((x % p : Nat) : Int) == 0) = true := by rw [hz]; rfl
            clear hz
            go_wp2
            go_roundw
            case rel => exact ⟨n, x + 1, by go_num, by go_num, by omega, by have := HLT.out; omega, HF.out.symm, HA.out.1, HA.out.2.1, HA.out.2.2⟩
            case measure => have := HLT.out; simp [intOf]; omega
          · have HALL2 : Hid (∀ q ∈ P64.take (j + 1), x % q ≠ 0) := Lib.hid (by
              intro q hq
              rw [List.take_add_one, HPJ.out] at hq
              rcases List.mem_append.1 hq with h | h
              · exact HALL.out q h
              · have : q = p := by simpa using h
                rw [this]; exact hz)
            have hzi : (((x % p : Nat) : Int) == 0) = false := by rw [beq_eq_false_iff_ne]; omega
            clear hz
            go_wp2
            go_roundw
            case rel => exact ⟨j + 1, by go_num, by omega, HALL2.out, trivial⟩
            case measure => simp [intOf]; omega
        · have hjn2 : j = n := by omega
          subst hjn2
          have HF : Hid (P64[j]? = some x ∧ cntP (x + 1) = j + 1) := Lib.hid (by
            rcases HST.out with ⟨a, _, b⟩ | ⟨⟨p, b, c⟩, _⟩
            · rw [← HN.out] at a b; exact ⟨a, b⟩
            · rw [← HN.out] at b; exact absurd c (HALL.out p b))
          have hfz := HA.out.2.1.frozen j
          have hce := HA.out.2.1.cell (i := j) (v := .int .u64 0) (by
            unfold pCells
            have hl := P64_len
            rw [List.getElem?_append_right (by rw [List.length_map, List.length_take]; omega), List.length_map, List.length_take, P64_len, show min j 64 = j by omega, Nat.sub_self, show 64 - j = (64 - j - 1) + 1 by omega, List.replicate_succ]
            rfl)
          have HX2 : Hid (Blk (wr.setCell ⟨p1, j, none⟩ (.int .u64 (x : Nat))) p1 (pCells (j + 1)) 140) := Lib.hid (by
            have h := Blk.set HA.out.2.1 j (.int .u64 (x : Nat))
            rw [pCells_set (by omega) HF.out.1] at h
            exact h)
          have HA2 : Hid (Blk (wr.setCell ⟨p1, j, none⟩ (.int .u64 (x : Nat))) p0 (pCells 0) 140 ∧ Below w.heap.size w (wr.setCell ⟨p1, j, none⟩ (.int .u64 (x : Nat)))) := Lib.hid ⟨HA.out.1.setOther (by simp only; omega) _, HA.out.2.2.setCell (by have := HWP.out; simp only; omega) _⟩
          go_wp2
          go_roundw
          case rel => exact ⟨j + 1, x + 1, by go_num, by go_num, by omega, by have := HLT.out; omega, HF.out.2.symm, HA2.out.1, HX2.out, HA2.out.2⟩
          case measure => have := HLT.out; simp [intOf]; omega
    · have hx2 : x = 312 := by omega
      have hn64 : n = 64 := by rw [hn, hx2]; exact P64_cnt.2
      subst hn64
      clear hn hx
      go_wp2_with (first | (refine wpList_load_row rfl 140 _ rfl p1 rfl 140 (pCells 64).toArray _ _ HA.out.2.1 Try.underlying140 rfl (by kernel_rfl) ?_) | (refine wpList_store_mid rfl 140 _ _ rfl p0 0 (pCells 64).toArray rfl rfl (HA.out.1.thereA (by kernel_rfl)) (by kernel_rfl) (by kernel_rfl) ?_))
      rw [Exit.noGoto_ret]
      refine bodyPost_ret (results_cell_row rfl _ _ p0 140 _ (0, 0) _ rfl (HA.out.1.setAll (vs := pCells 64) (by kernel_rfl)) Try.underlying140 rfl (by kernel_rfl)) rfl ?_
      exact ⟨rfl, below_setAll HA.out.2.2 (by have := HWP.out; omega) _⟩
end Go.Proofs.Ytgemhgllifhckaa
namespace Go.Proofs.Ytgemhgllifhckaa
open Go.RowKit
set_option linter.unusedVariables false
set_option linter.unusedSimpArgs false
theorem results_cell_cell {P : Program} {fn : Func} {p q : Tmp} {ty ty2 : TypeId} (h : fn.results = #[.cell p ty, .cell q ty2]) (tmps : Array Value) (w : World) (g g2 : Nat) (t t2 : TypeId) (cs cs2 : Array Value) (fr fr2 : Nat × Nat) (d d2 : TypeDesc)
    (hp : tmps.getD p undef = .pointer (some ⟨g, 0, none⟩)) (hg : w.heap[g]? = some (.cells cs t fr)) (hq : tmps.getD q undef = .pointer (some ⟨g2, 0, none⟩)) (hg2 : w.heap[g2]? = some (.cells cs2 t2 fr2))
    (hu : P.underlying ty = some d) (hd : (match d with | .struct _ | .array _ _ => true | _ => false) = true) (hi : (P.info? ty).map (·.size) = some cs.size)
    (hu2 : P.underlying ty2 = some d2) (hd2 : (match d2 with | .struct _ | .array _ _ => true | _ => false) = true) (hi2 : (P.info? ty2).map (·.size) = some cs2.size) :
    (results fn tmps).run P w = .ok (.tuple #[.agg cs, .agg cs2]) w := by
  have hp' : tmps[p]?.getD undef = .pointer (some ⟨g, 0, none⟩) := by simpa using hp
  have hq' : tmps[q]?.getD undef = .pointer (some ⟨g2, 0, none⟩) := by simpa using hq
  simp [results, h, hp', hq', asAddr, run_loadVar_row w g t ty cs fr d hg hu hd hi, run_loadVar_row w g2 t2 ty2 cs2 fr2 d2 hg2 hu2 hd2 hi2]
/-- the first n of N cells told by the primes -/
def arrC (g : Nat → Value) (z : Value) (N n : Nat) : List Value := (P64.take n).map g ++ List.replicate (N - n) z
theorem arrC_len {g : Nat → Value} {z : Value} {N n : Nat} (h : n ≤ N) (h2 : N ≤ 64) : (arrC g z N n).length = N := by
  unfold arrC
  have hl := P64_len
  rw [List.length_append, List.length_map, List.length_take, List.length_replicate]; omega
theorem arrC_next {g : Nat → Value} {z : Value} {N n : Nat} (h : n < N) (h2 : N ≤ 64) : (arrC g z N n)[n]? = some z := by
  unfold arrC
  have hl := P64_len
  have h1 : ((P64.take n).map g).length = n := by rw [List.length_map, List.length_take]; omega
  rw [List.getElem?_append_right (by rw [h1]; exact Nat.le_refl _), h1, Nat.sub_self, show N - n = (N - n - 1) + 1 by omega, List.replicate_succ]
  rfl
theorem arrC_set {g : Nat → Value} {z : Value} {N n x : Nat} (h : n < N) (h2 : N ≤ 64) (hx : P64[n]? = some x) : (arrC g z N n).set n (g x) = arrC g z N (n + 1) := by
  unfold arrC
  have hl := P64_len
  have h1 : ((P64.take n).map g).length = n := by rw [List.length_map, List.length_take]; omega
  rw [List.set_append_right _ _ (by rw [h1]; exact Nat.le_refl _), h1, Nat.sub_self, show N - n = (N - (n + 1)) + 1 by omega, List.replicate_succ, List.set_cons_zero]
  have h3 : P64.take (n + 1) = P64.take n ++ [x] := by rw [List.take_add_one, hx]; rfl
  rw [h3, List.map_append, List.append_assoc]
  rfl
theorem P64_get {n : Nat} (h : n < 64) : ∃ x, P64[n]? = some x ∧ (pCells 64)[n]? = some (.int .u64 (x : Nat)) ∧ 2 ≤ x ∧ x ≤ 311 := by
  have hl := P64_len
  refine ⟨P64[n], List.getElem?_eq_getElem (by omega), ?_, P64_bd _ (List.getElem_mem _)⟩
  rw [pCells_at (Nat.le_refl _) h, List.getD_eq_getElem?_getD, List.getElem?_eq_getElem (by omega)]
  rfl
theorem P64_8 : ∀ n : Fin 8, ∀ x, P64[n.val]? = some x → x ≤ 19 := by decide
noncomputable def vk3 (p : Nat) : Value := .int .u32 (k3 p : Nat)
noncomputable def vk2 (p : Nat) : Value := .int .u32 (k2 p : Nat)
/-- the tables' cells -/
noncomputable def kC : List Value := arrC vk3 (.int .u32 0) 64 64
noncomputable def hC : List Value := arrC vk2 (.int .u32 0) 8 8
def z42 : Array Value := (List.replicate 64 (Value.int .u32 0)).toArray
def z43 : Array Value := (List.replicate 8 (Value.int .u32 0)).toArray
theorem arr42_run (w : World) : (zeroValue 69).run Try.prog w = .ok (.agg z42) w := by kernel_rfl
theorem arr43_run (w : World) : (zeroValue 70).run Try.prog w = .ok (.agg z43) w := by kernel_rfl
theorem arr_one {g : Nat → Value} {z : Value} {N n : Nat} (hg : ∀ p, (g p).oneCell' = true) (hz : z.oneCell' = true) : (arrC g z N n).toArray.all (·.oneCell') = true := all_oneCell_toArray (by
  intro u hu
  unfold arrC at hu
  rcases List.mem_append.1 hu with h | h
  · obtain ⟨p, _, rfl⟩ := List.mem_map.1 h; exact hg p
  · rw [(List.mem_replicate.1 h).2]; exact hz)
theorem sha_range {w : World} {p : Nat} {cs : List Value} {T : TypeId} (h : Blk w p cs T) : w.rangeAt p 0 cs := fun j v hv => by rw [Nat.zero_add]; exact h.cell hv
theorem sha_want {P : Program} {ops : Array Oper} {o : Oper} {a : Act} {w : World} {K : Act → World → Prop} {Q : Exit → Act → World → Prop} {E : Prop} (hg : o.guard = none) (h : Oper.wp P o a w K Q) :
    if Region.wanted o (yielded ops a.tmps) = true then Oper.wp P o a w K Q else E := by
  have hw : Region.wanted o (yielded ops a.tmps) = true := by simp [Region.wanted, hg]
  rw [if_pos hw]; exact h
theorem kC_one : kC.toArray.all (·.oneCell') = true := arr_one (fun _ => rfl) rfl
theorem hC_one : hC.toArray.all (·.oneCell') = true := arr_one (fun _ => rfl) rfl
theorem tabs_set0 {w W : World} {p0 p1 : Nat} (h01 : p0 < p1) (hw : w.heap.size ≤ p0) (h : Blk W p0 kC 69 ∧ Blk W p1 hC 70 ∧ Below w.heap.size w W) : Blk (W.setCells p0 0 kC) p0 kC 69 ∧ Blk (W.setCells p0 0 kC) p1 hC 70 ∧ Below w.heap.size w (W.setCells p0 0 kC) :=
  ⟨h.1.setAll rfl, h.2.1.setAllOther (by omega), below_setAll h.2.2 hw _⟩
theorem tabs_set1 {w W : World} {p0 p1 : Nat} (h01 : p0 < p1) (hw : w.heap.size ≤ p0) (h : Blk W p0 kC 69 ∧ Blk W p1 hC 70 ∧ Below w.heap.size w W) : Blk (W.setCells p1 0 hC) p0 kC 69 ∧ Blk (W.setCells p1 0 hC) p1 hC 70 ∧ Below w.heap.size w (W.setCells p1 0 hC) :=
  ⟨h.1.setAllOther (by omega), h.2.1.setAll rfl, below_setAll h.2.2 (by omega) _⟩
set_option maxRecDepth 100000 in
set_option maxHeartbeats 4000000 in
theorem tables_any (w : World) : Calls Try.prog 63 #[] w fun e w' => e = .returned (.tuple #[.agg kC.toArray, .agg hC.toArray]) ∧ Below w.heap.size w w' := by
  have haz := arr64_run
  have hak := arr42_run
  have hah := arr43_run
  obtain ⟨V2, hV2⟩ : ∃ V, V = (w.alloc (Obj.cells z42 69)).alloc (Obj.cells z43 70) := ⟨_, rfl⟩
  obtain ⟨p0, hp0⟩ : ∃ p, p = w.heap.size := ⟨_, rfl⟩
  obtain ⟨p1, hp1⟩ : ∃ p, p = w.heap.size + 1 := ⟨_, rfl⟩
  have hA : Blk V2 p0 (arrC vk3 (.int .u32 0) 64 0) 69 := by rw [hV2, hp0]; exact (Blk.new w (List.replicate 64 (Value.int .u32 0)) _).alloc _
  have hX : Blk V2 p1 (arrC vk2 (.int .u32 0) 8 0) 70 := by
    have := Blk.new (w.alloc (Obj.cells z42 69)) (List.replicate 8 (Value.int .u32 0)) 70
    rw [World.size_alloc] at this
    rw [hV2, hp1]; exact this
  have hB : Below w.heap.size w V2 := by rw [hV2]; exact ((Below.refl _ _).alloc (Nat.le_refl _) _).alloc (by simp) _
  have h01 : p0 < p1 := by omega
  have HWP : Hid (w.heap.size ≤ p0) := Lib.hid (by omega)
  have H0 := Lib.hid (And.intro hA (And.intro hX hB))
  have HV2 := Lib.hid hV2
  have HP0 := Lib.hid hp0
  have HP1 := Lib.hid hp1
  clear hp0 hV2 hp1 hA hX hB
  go_enter Try.func63, Try.ntmps63
  go_upto_region 1 with fail
  rw [← HP1.out, ← HP0.out, ← HV2.out]
  go_wp2_with fail
  refine (primes_any V2).mono ?_
  rintro e w3 ⟨rfl, hb3⟩
  obtain ⟨p2, hp2⟩ : ∃ p, p = w3.heap.size := ⟨_, rfl⟩
  have HP2 := Lib.hid hp2
  have hZ : Blk (w3.alloc (Obj.cells zeros64 140)) p2 (pCells 0) 140 := by rw [hp2]; exact Blk.new w3 (pCells 0) _
  have HZ := Lib.hid hZ
  clear hp2 hZ
  go_wp2_with (refine wpList_store_mid rfl 140 _ _ rfl w3.heap.size 0 (pCells 64).toArray rfl rfl (by rw [← HP2.out]; exact HZ.out.thereA (by kernel_rfl)) (by kernel_rfl) (by kernel_rfl) ?_)
  -- loops
  have hZ4 := HZ.out.setAll (vs := pCells 64) (by kernel_rfl)
  obtain ⟨V4, hV4⟩ : ∃ V, V = (w3.alloc (Obj.cells zeros64 140)).setCells p2 0 (pCells 64) := ⟨_, rfl⟩
  rw [← HP2.out, ← hV4]
  rw [← hV4] at hZ4
  have hp2 : p1 < p2 := by rw [HP2.out]; exact Nat.lt_of_lt_of_le H0.out.2.1.lt hb3.size
  have hA4 : Blk V4 p0 (arrC vk3 (.int .u32 0) 64 0) 69 := by rw [hV4]; exact ((H0.out.1.below hb3 H0.out.1.lt).alloc _).setAllOther (by omega)
  have hX4 : Blk V4 p1 (arrC vk2 (.int .u32 0) 8 0) 70 := by rw [hV4]; exact ((H0.out.2.1.below hb3 H0.out.2.1.lt).alloc _).setAllOther (by omega)
  have hB4 : Below w.heap.size w V4 := by
    have h := (H0.out.2.2.trans (hb3.mono H0.out.2.2.size)).alloc (H0.out.2.2.trans (hb3.mono H0.out.2.2.size)).size (Obj.cells zeros64 140)
    rw [hV4]; exact below_setAll h (by have := HWP.out; omega) _
  have H4 := Lib.hid (And.intro hZ4 (And.intro hA4 (And.intro hX4 hB4)))
  clear hZ4 hV4 hA4 hX4 hB4 hb3 HZ H0 HV2 HP0 HP1
  go_loopw [6] (fun i wr => ∃ j : Nat, i = .int .i64 j ∧ j ≤ 64 ∧ Blk wr p2 (pCells 64) 140 ∧ Blk wr p0 (arrC vk3 (.int .u32 0) 64 j) 69 ∧ Blk wr p1 (arrC vk2 (.int .u32 0) 8 0) 70 ∧ Below w.heap.size w wr) (fun i _ => 64 - (intOf i).toNat)
  case atStart => exact ⟨0, by go_num, by omega, H4.out⟩
  case round =>
    clear H4
    obtain ⟨j, rfl, hj, h1, h2, h3, hB⟩ := hrel
    by_cases hlt : j < 64
    · obtain ⟨x, hx, hc, hx2, hx3⟩ := P64_get hlt
      have c0 := h1.cell (i := j) hc
      have c1 := h2.cell (i := j) (arrC_next hlt (by omega))
      have f1 := h2.frozen j
      have HR := Lib.hid (root3_any x (by omega) wr)
      have i3 : (j : Int) < 64 := by omega
      have i4 : (0 : Int) ≤ (j : Int) := by omega
      have H := Lib.hid (And.intro h1 (And.intro h2 (And.intro h3 hB)))
      have HX := Lib.hid hx
      clear h1 h2 h3 hB hx hc
      go_wp2_with fail
      refine HR.out.mono ?_
      rintro e w' ⟨rfl, rfl⟩
      have HN : Hid (Blk (wr.setCell ⟨p0, j, none⟩ (vk3 x)) p2 (pCells 64) 140 ∧ Blk (wr.setCell ⟨p0, j, none⟩ (vk3 x)) p0 (arrC vk3 (.int .u32 0) 64 (j + 1)) 69 ∧ Blk (wr.setCell ⟨p0, j, none⟩ (vk3 x)) p1 (arrC vk2 (.int .u32 0) 8 0) 70 ∧ Below w.heap.size w (wr.setCell ⟨p0, j, none⟩ (vk3 x))) := Lib.hid ⟨H.out.1.setOther (by simp only; omega) _, by rw [← arrC_set hlt (by omega) HX.out]; exact H.out.2.1.set j _, H.out.2.2.1.setOther (by simp only; omega) _, H.out.2.2.2.setCell (by have := HWP.out; simp only; omega) _⟩
      unfold vk3 at HN
      go_wp2
      go_roundw
      case rel => exact ⟨j + 1, by go_num, by omega, HN.out⟩
      case measure => simp [intOf]; omega
    · have hj64 : j = 64 := by omega
      rw [hj64] at h2
      have H := Lib.hid (And.intro h1 (And.intro h2 (And.intro h3 hB)))
      clear hj64
      clear h1 h2 h3 hB
      go_wp2_with fail
      go_loopw [16] (fun i wr => ∃ j : Nat, i = .int .i64 j ∧ j ≤ 8 ∧ Blk wr p2 (pCells 64) 140 ∧ Blk wr p0 kC 69 ∧ Blk wr p1 (arrC vk2 (.int .u32 0) 8 j) 70 ∧ Below w.heap.size w wr) (fun i _ => 8 - (intOf i).toNat)
      case atStart => exact ⟨0, by go_num, by omega, H.out⟩
      case round =>
        clear H
        obtain ⟨j, rfl, hj, h1, h2, h3, hB⟩ := hrel
        by_cases hlt : j < 8
        · obtain ⟨x, hx, hc, hx2, hx3⟩ := P64_get (n := j) (by omega)
          have hx19 := P64_8 ⟨j, hlt⟩ x hx
          have c0 := h1.cell (i := j) hc
          have c1 := h3.cell (i := j) (arrC_next hlt (by omega))
          have f1 := h3.frozen j
          have HR := Lib.hid (root2_any x (by omega) wr)
          have i3 : (j : Int) < 8 := by omega
          have i5 : (j : Int) < 64 := by omega
          have i4 : (0 : Int) ≤ (j : Int) := by omega
          have H := Lib.hid (And.intro h1 (And.intro h2 (And.intro h3 hB)))
          have HX := Lib.hid hx
          clear h1 h2 h3 hB hx hc
          go_wp2_with fail
          refine HR.out.mono ?_
          rintro e w' ⟨rfl, rfl⟩
          have HN : Hid (Blk (wr.setCell ⟨p1, j, none⟩ (vk2 x)) p2 (pCells 64) 140 ∧ Blk (wr.setCell ⟨p1, j, none⟩ (vk2 x)) p0 kC 69 ∧ Blk (wr.setCell ⟨p1, j, none⟩ (vk2 x)) p1 (arrC vk2 (.int .u32 0) 8 (j + 1)) 70 ∧ Below w.heap.size w (wr.setCell ⟨p1, j, none⟩ (vk2 x))) := Lib.hid ⟨H.out.1.setOther (by simp only; omega) _, H.out.2.1.setOther (by simp only; omega) _, by rw [← arrC_set hlt (by omega) HX.out]; exact H.out.2.2.1.set j _, H.out.2.2.2.setCell (by have := HWP.out; simp only; omega) _⟩
          unfold vk2 at HN
          go_wp2
          go_roundw
          case rel => exact ⟨j + 1, by go_num, by omega, HN.out⟩
          case measure => simp [intOf]; omega
        · have hj8 : j = 8 := by omega
          rw [hj8] at h3
          have hT : Blk wr p0 kC 69 ∧ Blk wr p1 hC 70 ∧ Below w.heap.size w wr := ⟨h2, h3, hB⟩
          clear h1 h2 h3 hB
          go_upto_region 12 with fail
          refine wp_region_any (by kernel_rfl) ?_
          have hT : Blk wr.drew p0 kC 69 ∧ Blk wr.drew p1 hC 70 ∧ Below w.heap.size w wr.drew := ⟨hT.1, hT.2.1, below_drewN' hT.2.2 1⟩
          change wpAny _ _ _ _ _ _ _ (World.drew _)
          refine wpAny_ready (rs := [0, 1]) (by kernel_rfl) (by simp) ?_
          refine AllReady.cons rfl (fun K hK => ?_) ?_
          ·
            refine sha_want rfl ?_
            refine wp_load_mid 69 _ rfl p0 0 rfl _ _ (sha_range hT.1) Try.underlying69 rfl (by kernel_rfl) ?_
            refine hK _ _ ?_
            clear hK K
            try simp only [Act.put, List.getElem_toArray, List.getElem_cons_succ, List.getElem_cons_zero, List.setIfInBounds_toArray, List.set_cons_zero, List.set_cons_succ]
            refine wpAny_ready (rs := [1, 2]) (by kernel_rfl) (by simp) ?_
            refine AllReady.cons rfl (fun K hK => ?_) ?_
            ·
              refine sha_want rfl ?_
              refine wp_load_mid 70 _ rfl p1 0 rfl _ _ (sha_range hT.2.1) Try.underlying70 rfl (by kernel_rfl) ?_
              refine hK _ _ ?_
              clear hK K
              try simp only [Act.put, List.getElem_toArray, List.getElem_cons_succ, List.getElem_cons_zero, List.setIfInBounds_toArray, List.set_cons_zero, List.set_cons_succ]
              refine wpAny_ready (rs := [2]) (by kernel_rfl) (by simp) ?_
              refine AllReady.cons rfl (fun K hK => ?_) ?_
              ·
                refine sha_want rfl ?_
                refine wp_store_mid 69 _ _ rfl p0 0 kC.toArray rfl rfl (hT.1.thereA (by kernel_rfl)) (by kernel_rfl) kC_one ?_
                refine hK _ _ ?_
                clear hK K
                replace hT := tabs_set0 h01 HWP.out hT
                generalize World.setCells _ p0 0 _ = W5 at hT ⊢
                try simp only [Act.put, List.getElem_toArray, List.getElem_cons_succ, List.getElem_cons_zero, List.setIfInBounds_toArray, List.set_cons_zero, List.set_cons_succ]
                refine wpAny_ready (rs := [3]) (by kernel_rfl) (by simp) ?_
                refine AllReady.cons rfl (fun K hK => ?_) ?_
                ·
                  refine sha_want rfl ?_
                  refine wp_store_mid 70 _ _ rfl p1 0 hC.toArray rfl rfl (hT.2.1.thereA (by kernel_rfl)) (by kernel_rfl) hC_one ?_
                  refine hK _ _ ?_
                  clear hK K
                  replace hT := tabs_set1 h01 HWP.out hT
                  generalize World.setCells _ p1 0 _ = W6 at hT ⊢
                  try simp only [Act.put, List.getElem_toArray, List.getElem_cons_succ, List.getElem_cons_zero, List.setIfInBounds_toArray, List.set_cons_zero, List.set_cons_succ]
                  refine wpAny_done (by kernel_rfl) ?_ _
                  go_wp2_with fail
                  refine bodyPost_ret (results_cell_cell rfl _ _ p0 p1 69 70 _ _ (0, 0) (0, 0) _ _ rfl hT.1 rfl hT.2.1 Try.underlying69 rfl (by kernel_rfl) Try.underlying70 rfl (by kernel_rfl)) rfl ?_
                  exact ⟨rfl, hT.2.2⟩
                exact AllReady.nil
              exact AllReady.nil
            refine AllReady.cons rfl (fun K hK => ?_) ?_
            ·
              refine sha_want rfl ?_
              refine wp_store_mid 69 _ _ rfl p0 0 kC.toArray rfl rfl (hT.1.thereA (by kernel_rfl)) (by kernel_rfl) kC_one ?_
              refine hK _ _ ?_
              clear hK K
              replace hT := tabs_set0 h01 HWP.out hT
              generalize World.setCells _ p0 0 _ = W5 at hT ⊢
              try simp only [Act.put, List.getElem_toArray, List.getElem_cons_succ, List.getElem_cons_zero, List.setIfInBounds_toArray, List.set_cons_zero, List.set_cons_succ]
              refine wpAny_ready (rs := [1]) (by kernel_rfl) (by simp) ?_
              refine AllReady.cons rfl (fun K hK => ?_) ?_
              ·
                refine sha_want rfl ?_
                refine wp_load_mid 70 _ rfl p1 0 rfl _ _ (sha_range hT.2.1) Try.underlying70 rfl (by kernel_rfl) ?_
                refine hK _ _ ?_
                clear hK K
                try simp only [Act.put, List.getElem_toArray, List.getElem_cons_succ, List.getElem_cons_zero, List.setIfInBounds_toArray, List.set_cons_zero, List.set_cons_succ]
                refine wpAny_ready (rs := [3]) (by kernel_rfl) (by simp) ?_
                refine AllReady.cons rfl (fun K hK => ?_) ?_
                ·
                  refine sha_want rfl ?_
                  refine wp_store_mid 70 _ _ rfl p1 0 hC.toArray rfl rfl (hT.2.1.thereA (by kernel_rfl)) (by kernel_rfl) hC_one ?_
                  refine hK _ _ ?_
                  clear hK K
                  replace hT := tabs_set1 h01 HWP.out hT
                  generalize World.setCells _ p1 0 _ = W6 at hT ⊢
                  try simp only [Act.put, List.getElem_toArray, List.getElem_cons_succ, List.getElem_cons_zero, List.setIfInBounds_toArray, List.set_cons_zero, List.set_cons_succ]
                  refine wpAny_done (by kernel_rfl) ?_ _
                  go_wp2_with fail
                  refine bodyPost_ret (results_cell_cell rfl _ _ p0 p1 69 70 _ _ (0, 0) (0, 0) _ _ rfl hT.1 rfl hT.2.1 Try.underlying69 rfl (by kernel_rfl) Try.underlying70 rfl (by kernel_rfl)) rfl ?_
                  exact ⟨rfl, hT.2.2⟩
                exact AllReady.nil
              exact AllReady.nil
            exact AllReady.nil
          refine AllReady.cons rfl (fun K hK => ?_) ?_
          ·
            refine sha_want rfl ?_
            refine wp_load_mid 70 _ rfl p1 0 rfl _ _ (sha_range hT.2.1) Try.underlying70 rfl (by kernel_rfl) ?_
            refine hK _ _ ?_
            clear hK K
            try simp only [Act.put, List.getElem_toArray, List.getElem_cons_succ, List.getElem_cons_zero, List.setIfInBounds_toArray, List.set_cons_zero, List.set_cons_succ]
            refine wpAny_ready (rs := [0]) (by kernel_rfl) (by simp) ?_
            refine AllReady.cons rfl (fun K hK => ?_) ?_
            ·
              refine sha_want rfl ?_
              refine wp_load_mid 69 _ rfl p0 0 rfl _ _ (sha_range hT.1) Try.underlying69 rfl (by kernel_rfl) ?_
              refine hK _ _ ?_
              clear hK K
              try simp only [Act.put, List.getElem_toArray, List.getElem_cons_succ, List.getElem_cons_zero, List.setIfInBounds_toArray, List.set_cons_zero, List.set_cons_succ]
              refine wpAny_ready (rs := [2]) (by kernel_rfl) (by simp) ?_
              refine AllReady.cons rfl (fun K hK => ?_) ?_
              ·
                refine sha_want rfl ?_
                refine wp_store_mid 69 _ _ rfl p0 0 kC.toArray rfl rfl (hT.1.thereA (by kernel_rfl)) (by kernel_rfl) kC_one ?_
                refine hK _ _ ?_
                clear hK K
                replace hT := tabs_set0 h01 HWP.out hT
                generalize World.setCells _ p0 0 _ = W5 at hT ⊢
                try simp only [Act.put, List.getElem_toArray, List.getElem_cons_succ, List.getElem_cons_zero, List.setIfInBounds_toArray, List.set_cons_zero, List.set_cons_succ]
                refine wpAny_ready (rs := [3]) (by kernel_rfl) (by simp) ?_
                refine AllReady.cons rfl (fun K hK => ?_) ?_
                ·
                  refine sha_want rfl ?_
                  refine wp_store_mid 70 _ _ rfl p1 0 hC.toArray rfl rfl (hT.2.1.thereA (by kernel_rfl)) (by kernel_rfl) hC_one ?_
                  refine hK _ _ ?_
                  clear hK K
                  replace hT := tabs_set1 h01 HWP.out hT
                  generalize World.setCells _ p1 0 _ = W6 at hT ⊢
                  try simp only [Act.put, List.getElem_toArray, List.getElem_cons_succ, List.getElem_cons_zero, List.setIfInBounds_toArray, List.set_cons_zero, List.set_cons_succ]
                  refine wpAny_done (by kernel_rfl) ?_ _
                  go_wp2_with fail
                  refine bodyPost_ret (results_cell_cell rfl _ _ p0 p1 69 70 _ _ (0, 0) (0, 0) _ _ rfl hT.1 rfl hT.2.1 Try.underlying69 rfl (by kernel_rfl) Try.underlying70 rfl (by kernel_rfl)) rfl ?_
                  exact ⟨rfl, hT.2.2⟩
                exact AllReady.nil
              exact AllReady.nil
            exact AllReady.nil
          exact AllReady.nil
end Go.Proofs.Ytgemhgllifhckaa
