/- The reference's root. Conditions: as named in each theorem. -/
import Derived.Test.YtjahdladcijhoaaShaMost
namespace Go.Proofs.Ytjahdladcijhoaa
open Go.RowKit
set_option linter.unusedVariables false
set_option linter.unusedSimpArgs false

def RRootR (C : Nat → Prop) (w : World) (e : Ending) (w' : World) : Prop := (∃ r : Nat, e = .returned (.int .i64 ((r % 4294967296 : Nat) : Int)) ∧ C r ∧ ¬ C (r + 1)) ∧ Below w.heap.size w w'

theorem le_3 (x n : Nat) : (x * x * x ≤ n * 65536 ^ 6) ↔ CubeLe x n := by
  unfold CubeLe
  rw [show (65536 : Nat) ^ 6 = 4294967296 * 18446744073709551616 by decide]
set_option maxRecDepth 100000 in
set_option maxHeartbeats 1000000 in
theorem rroot_3 (n : Nat) (hn : n ≤ 4294967295) (htop : ¬ CubeLe 68719476736 n) (w : World) :
    Calls Try.prog 34 #[.int .i64 n, .int .i64 3] w (RRootR (fun r => CubeLe r n) w) := by
  have hz : CubeLe 0 n := Nat.le_trans (Nat.le_of_eq (by simp)) (Nat.zero_le _)
  have HT := Lib.hid htop
  have HZ := Lib.hid hz
  clear htop hz
  go_enter Try.func34, Try.ntmps34
  go_wp2_with fail
  go_loopw [5, 6] (fun a b wr => ∃ (X j : Nat), a = .int .i64 X ∧ b = .int .i64 ((j : Int) - 1) ∧ j ≤ 36 ∧ X + 2 ^ j ≤ 68719476736 ∧ CubeLe X n ∧ ¬ CubeLe (X + 2 ^ j) n ∧ Below w.heap.size w wr) (fun _ b _ => (intOf b + 1).toNat)
  case atStart => exact ⟨0, 36, by simp, by simp, Nat.le_refl _, by decide, HZ.out, HT.out, Below.refl _ _⟩
  case round =>
    clear HT HZ
    obtain ⟨X, j, rfl, rfl, hj, hbd, hl, hh, hB⟩ := hrel
    have HL := Lib.hid hl
    have HH := Lib.hid hh
    clear hl hh
    by_cases hj0 : 0 < j
    · obtain ⟨i, rfl⟩ : ∃ i, j = i + 1 := ⟨j - 1, by omega⟩
      have e1 : ((i + 1 : Nat) : Int) - 1 = (i : Int) := by omega
      obtain ⟨P, hP⟩ : ∃ P, P = 2 ^ i := ⟨_, rfl⟩
      have hP2 : 2 ^ (i + 1) = P + P := by rw [Nat.pow_succ, ← hP]; omega
      have hP1 : 0 < P := by rw [hP]; exact Nat.pow_pos (by decide)
      rw [hP2] at hbd
      have e2 : (2 : Int) ^ i = (P : Int) := by rw [hP]; simp
      have e3 : ((X + P : Nat) : Int) = (X : Int) + (P : Int) := by omega
      have i1 : (0 : Int) ≤ (i : Int) := by omega
      have i2 : (i : Int) ≤ 64 := by omega
      have v1 : IntKind.i64.wrap (P : Int) = (P : Int) := IntWalk.i64_in _ (by omega)
      have v2 : IntKind.i64.wrap ((X : Int) + (P : Int)) = (X : Int) + (P : Int) := IntWalk.i64_in _ (by omega)
      have hbd2 : X + P < 68719476736 := by omega
      have HM := Lib.hid (most_3 (X + P) n (Nat.le_of_lt hbd2) hbd2 hn wr)
      rw [e3] at HM
      have HP := Lib.hid (And.intro hP2 (And.intro e3 (And.intro hbd hP)))
      have HB := Lib.hid hB
      rw [e1]
      clear hP2 hP e3 hbd hbd2 hB
      go_wp2_with fail
      refine HM.out.mono ?_
      rintro e w' ⟨⟨R, rfl, hR⟩, hb⟩
      rw [le_3] at hR
      have hB2 : Below w.heap.size w w' := HB.out.trans (hb.mono HB.out.size)
      cases R with
      | true =>
        have HN := Lib.hid (hR.1 rfl)
        have HB2 := Lib.hid hB2
        clear hR HM hB2 hb
        go_wp2
        exact ⟨⟨X + P, i, by rw [HP.out.2.1], rfl, by omega, by rw [← HP.out.2.2.2]; have := HP.out.2.2.1; omega, HN.out, by rw [← HP.out.2.2.2, Nat.add_assoc, ← HP.out.1]; exact HH.out, HB2.out⟩, by simp [intOf]⟩
      | false =>
        have HN : Hid (¬ CubeLe (X + P) n) := Lib.hid (fun h => by have := hR.2 h; cases this)
        have HB2 := Lib.hid hB2
        clear hR HM hB2 hb
        go_wp2
        exact ⟨⟨X, i, rfl, rfl, by omega, by rw [← HP.out.2.2.2]; have := HP.out.2.2.1; omega, HL.out, by rw [← HP.out.2.2.2]; exact HN.out, HB2.out⟩, by simp [intOf]⟩
    · obtain rfl : j = 0 := by omega
      have hmod : (X : Int) % 4294967296 = ((X % 4294967296 : Nat) : Int) := by omega
      have HMD := Lib.hid hmod
      have HB := Lib.hid hB
      clear hmod hB
      go_wp2
      go_ret
      exact ⟨⟨X, by simp, HL.out, HH.out⟩, HB.out⟩
theorem rroot3_any (n : Nat) (hn : n ≤ 4000) (w : World) : Calls Try.prog 34 #[.int .i64 n, .int .i64 3] w fun e w' => e = .returned (.int .i64 (k3 n : Nat)) ∧ Below w.heap.size w w' := by
  refine (rroot_3 n (by omega) (cube_top hn) w).mono ?_
  rintro e w' ⟨⟨r, rfl, h1, h2⟩, hb⟩
  exact ⟨by rw [cub_k3 h1 h2], hb⟩

theorem le_2 (x n : Nat) : (x * x ≤ n * 65536 ^ 4) ↔ SqLe x n := by
  unfold SqLe
  rw [show (65536 : Nat) ^ 4 = 18446744073709551616 by decide]
set_option maxRecDepth 100000 in
set_option maxHeartbeats 1000000 in
theorem rroot_2 (n : Nat) (hn : n ≤ 4294967295) (htop : ¬ SqLe 68719476736 n) (w : World) :
    Calls Try.prog 34 #[.int .i64 n, .int .i64 2] w (RRootR (fun r => SqLe r n) w) := by
  have hz : SqLe 0 n := Nat.le_trans (Nat.le_of_eq (by simp)) (Nat.zero_le _)
  have HT := Lib.hid htop
  have HZ := Lib.hid hz
  clear htop hz
  go_enter Try.func34, Try.ntmps34
  go_wp2_with fail
  go_loopw [5, 6] (fun a b wr => ∃ (X j : Nat), a = .int .i64 X ∧ b = .int .i64 ((j : Int) - 1) ∧ j ≤ 36 ∧ X + 2 ^ j ≤ 68719476736 ∧ SqLe X n ∧ ¬ SqLe (X + 2 ^ j) n ∧ Below w.heap.size w wr) (fun _ b _ => (intOf b + 1).toNat)
  case atStart => exact ⟨0, 36, by simp, by simp, Nat.le_refl _, by decide, HZ.out, HT.out, Below.refl _ _⟩
  case round =>
    clear HT HZ
    obtain ⟨X, j, rfl, rfl, hj, hbd, hl, hh, hB⟩ := hrel
    have HL := Lib.hid hl
    have HH := Lib.hid hh
    clear hl hh
    by_cases hj0 : 0 < j
    · obtain ⟨i, rfl⟩ : ∃ i, j = i + 1 := ⟨j - 1, by omega⟩
      have e1 : ((i + 1 : Nat) : Int) - 1 = (i : Int) := by omega
      obtain ⟨P, hP⟩ : ∃ P, P = 2 ^ i := ⟨_, rfl⟩
      have hP2 : 2 ^ (i + 1) = P + P := by rw [Nat.pow_succ, ← hP]; omega
      have hP1 : 0 < P := by rw [hP]; exact Nat.pow_pos (by decide)
      rw [hP2] at hbd
      have e2 : (2 : Int) ^ i = (P : Int) := by rw [hP]; simp
      have e3 : ((X + P : Nat) : Int) = (X : Int) + (P : Int) := by omega
      have i1 : (0 : Int) ≤ (i : Int) := by omega
      have i2 : (i : Int) ≤ 64 := by omega
      have v1 : IntKind.i64.wrap (P : Int) = (P : Int) := IntWalk.i64_in _ (by omega)
      have v2 : IntKind.i64.wrap ((X : Int) + (P : Int)) = (X : Int) + (P : Int) := IntWalk.i64_in _ (by omega)
      have hbd2 : X + P < 68719476736 := by omega
      have HM := Lib.hid (most_2 (X + P) n (Nat.le_of_lt hbd2) hbd2 hn wr)
      rw [e3] at HM
      have HP := Lib.hid (And.intro hP2 (And.intro e3 (And.intro hbd hP)))
      have HB := Lib.hid hB
      rw [e1]
      clear hP2 hP e3 hbd hbd2 hB
      go_wp2_with fail
      refine HM.out.mono ?_
      rintro e w' ⟨⟨R, rfl, hR⟩, hb⟩
      rw [le_2] at hR
      have hB2 : Below w.heap.size w w' := HB.out.trans (hb.mono HB.out.size)
      cases R with
      | true =>
        have HN := Lib.hid (hR.1 rfl)
        have HB2 := Lib.hid hB2
        clear hR HM hB2 hb
        go_wp2
        exact ⟨⟨X + P, i, by rw [HP.out.2.1], rfl, by omega, by rw [← HP.out.2.2.2]; have := HP.out.2.2.1; omega, HN.out, by rw [← HP.out.2.2.2, Nat.add_assoc, ← HP.out.1]; exact HH.out, HB2.out⟩, by simp [intOf]⟩
      | false =>
        have HN : Hid (¬ SqLe (X + P) n) := Lib.hid (fun h => by have := hR.2 h; cases this)
        have HB2 := Lib.hid hB2
        clear hR HM hB2 hb
        go_wp2
        exact ⟨⟨X, i, rfl, rfl, by omega, by rw [← HP.out.2.2.2]; have := HP.out.2.2.1; omega, HL.out, by rw [← HP.out.2.2.2]; exact HN.out, HB2.out⟩, by simp [intOf]⟩
    · obtain rfl : j = 0 := by omega
      have hmod : (X : Int) % 4294967296 = ((X % 4294967296 : Nat) : Int) := by omega
      have HMD := Lib.hid hmod
      have HB := Lib.hid hB
      clear hmod hB
      go_wp2
      go_ret
      exact ⟨⟨X, by simp, HL.out, HH.out⟩, HB.out⟩
theorem rroot2_any (n : Nat) (hn : n ≤ 200) (w : World) : Calls Try.prog 34 #[.int .i64 n, .int .i64 2] w fun e w' => e = .returned (.int .i64 (k2 n : Nat)) ∧ Below w.heap.size w w' := by
  refine (rroot_2 n (by omega) (sq_top hn) w).mono ?_
  rintro e w' ⟨⟨r, rfl, h1, h2⟩, hb⟩
  exact ⟨by rw [sq_k2 h1 h2], hb⟩
end Go.Proofs.Ytjahdladcijhoaa
