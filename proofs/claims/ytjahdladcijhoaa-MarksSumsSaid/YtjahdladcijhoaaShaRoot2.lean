/- The root by halves; the unique root. Conditions: as named in each theorem. -/
import Derived.Test.YtjahdladcijhoaaShaRoot
namespace Go.Proofs.Ytjahdladcijhoaa
open Go.RowKit
set_option linter.unusedVariables false
set_option linter.unusedSimpArgs false

/-- the greatest number of which C holds -/
def RootR (C : Nat → Prop) (w : World) (e : Ending) (w' : World) : Prop := (∃ r : Nat, e = .returned (.int .u32 ((r % 4294967296 : Nat) : Int)) ∧ C r ∧ ¬ C (r + 1)) ∧ w' = w

set_option maxRecDepth 100000 in
set_option maxHeartbeats 1000000 in
theorem root_cub (p : Nat) (hp : p ≤ 4294967295) (htop : ¬ CubeLe 68719476736 p) (w : World) :
    Calls Try.prog 38 #[.int .u64 p, .func (.func 39) #[] #[]] w (RootR (fun r => CubeLe r p) w) := by
  have hz : CubeLe 0 p := Nat.le_trans (Nat.le_of_eq (by simp)) (Nat.zero_le _)
  have HT := Lib.hid htop
  have HZ := Lib.hid hz
  clear htop hz
  go_enter Try.func38, Try.ntmps38
  go_wp2_with fail
  go_loopw [5, 6] (fun a b wr => ∃ (lo hi : Nat), a = .int .u64 lo ∧ b = .int .u64 hi ∧ lo < hi ∧ hi ≤ 68719476736 ∧ CubeLe lo p ∧ ¬ CubeLe hi p ∧ wr = w) (fun a b _ => (intOf b).toNat - (intOf a).toNat)
  case atStart => exact ⟨0, 68719476736, rfl, rfl, by omega, by omega, HZ.out, HT.out, rfl⟩
  case round =>
    obtain ⟨lo, hi, rfl, rfl, hlt, hhi, hl, hh, rfl⟩ := hrel
    have HL := Lib.hid hl
    have HH := Lib.hid hh
    have hsub : IntKind.u64.wrap ((hi : Int) - (lo : Int)) = (hi : Int) - (lo : Int) := by rw [IntKind.wrap_u64]; omega
    have hadd : IntKind.u64.wrap ((lo : Int) + (hi : Int)) = (lo : Int) + (hi : Int) := by rw [IntKind.wrap_u64]; omega
    clear hl hh
    by_cases hgo : lo + 1 < hi
    · have d1 : decide ((1 : Int) < (hi : Int) - (lo : Int)) = true := decide_eq_true (by omega)
      obtain ⟨mid, hm⟩ : ∃ mid, mid = (lo + hi) / 2 := ⟨_, rfl⟩
      have hmi : ((lo : Int) + (hi : Int)) / 2 = (mid : Int) := by omega
      have HC := Lib.hid (cubed_any mid p (by omega) hp wr)
      rw [← hmi] at HC
      have hm1 : lo < mid ∧ mid < hi := by omega
      have HMI := Lib.hid (And.intro hmi hm1)
      clear hmi hm1 hm
      go_wp2_with fail
      refine HC.out.mono ?_
      rintro e w' ⟨⟨R, rfl, hR⟩, rfl⟩
      rw [HMI.out.1]
      cases R with
      | true =>
        have HN := Lib.hid (hR.1 rfl)
        clear hR HC
        go_wp2
        exact ⟨⟨mid, hi, rfl, rfl, HMI.out.2.2, hhi, HN.out, HH.out, trivial⟩, by have := HMI.out.2; simp [intOf]; omega⟩
      | false =>
        have HN : Hid (¬ CubeLe mid p) := Lib.hid (fun h => by have := hR.2 h; cases this)
        clear hR HC
        go_wp2
        exact ⟨⟨lo, mid, rfl, rfl, HMI.out.2.1, by have := HMI.out.2.2; omega, HL.out, HN.out, trivial⟩, by have := HMI.out.2; simp [intOf]; omega⟩
    · have d1 : decide ((1 : Int) < (hi : Int) - (lo : Int)) = false := decide_eq_false (by omega)
      have HE : Hid (hi = lo + 1) := Lib.hid (by omega)
      have hwr : IntKind.u32.wrap (lo : Int) = ((lo % 4294967296 : Nat) : Int) := by simp [IntKind.wrap, IntKind.bits, IntKind.signed]
      clear hgo
      go_wp2
      go_ret
      exact ⟨⟨lo, by simp [hwr], HL.out, by rw [← HE.out]; exact HH.out⟩, rfl⟩

set_option maxRecDepth 100000 in
set_option maxHeartbeats 1000000 in
theorem root_sq (p : Nat) (hp : p ≤ 4294967295) (htop : ¬ SqLe 68719476736 p) (w : World) :
    Calls Try.prog 38 #[.int .u64 p, .func (.func 40) #[] #[]] w (RootR (fun r => SqLe r p) w) := by
  have hz : SqLe 0 p := Nat.le_trans (Nat.le_of_eq (by simp)) (Nat.zero_le _)
  have HT := Lib.hid htop
  have HZ := Lib.hid hz
  clear htop hz
  go_enter Try.func38, Try.ntmps38
  go_wp2_with fail
  go_loopw [5, 6] (fun a b wr => ∃ (lo hi : Nat), a = .int .u64 lo ∧ b = .int .u64 hi ∧ lo < hi ∧ hi ≤ 68719476736 ∧ SqLe lo p ∧ ¬ SqLe hi p ∧ wr = w) (fun a b _ => (intOf b).toNat - (intOf a).toNat)
  case atStart => exact ⟨0, 68719476736, rfl, rfl, by omega, by omega, HZ.out, HT.out, rfl⟩
  case round =>
    obtain ⟨lo, hi, rfl, rfl, hlt, hhi, hl, hh, rfl⟩ := hrel
    have HL := Lib.hid hl
    have HH := Lib.hid hh
    have hsub : IntKind.u64.wrap ((hi : Int) - (lo : Int)) = (hi : Int) - (lo : Int) := by rw [IntKind.wrap_u64]; omega
    have hadd : IntKind.u64.wrap ((lo : Int) + (hi : Int)) = (lo : Int) + (hi : Int) := by rw [IntKind.wrap_u64]; omega
    clear hl hh
    by_cases hgo : lo + 1 < hi
    · have d1 : decide ((1 : Int) < (hi : Int) - (lo : Int)) = true := decide_eq_true (by omega)
      obtain ⟨mid, hm⟩ : ∃ mid, mid = (lo + hi) / 2 := ⟨_, rfl⟩
      have hmi : ((lo : Int) + (hi : Int)) / 2 = (mid : Int) := by omega
      have HC := Lib.hid (squared_any mid p (by omega) hp wr)
      rw [← hmi] at HC
      have hm1 : lo < mid ∧ mid < hi := by omega
      have HMI := Lib.hid (And.intro hmi hm1)
      clear hmi hm1 hm
      go_wp2_with fail
      refine HC.out.mono ?_
      rintro e w' ⟨⟨R, rfl, hR⟩, rfl⟩
      rw [HMI.out.1]
      cases R with
      | true =>
        have HN := Lib.hid (hR.1 rfl)
        clear hR HC
        go_wp2
        exact ⟨⟨mid, hi, rfl, rfl, HMI.out.2.2, hhi, HN.out, HH.out, trivial⟩, by have := HMI.out.2; simp [intOf]; omega⟩
      | false =>
        have HN : Hid (¬ SqLe mid p) := Lib.hid (fun h => by have := hR.2 h; cases this)
        clear hR HC
        go_wp2
        exact ⟨⟨lo, mid, rfl, rfl, HMI.out.2.1, by have := HMI.out.2.2; omega, HL.out, HN.out, trivial⟩, by have := HMI.out.2; simp [intOf]; omega⟩
    · have d1 : decide ((1 : Int) < (hi : Int) - (lo : Int)) = false := decide_eq_false (by omega)
      have HE : Hid (hi = lo + 1) := Lib.hid (by omega)
      have hwr : IntKind.u32.wrap (lo : Int) = ((lo % 4294967296 : Nat) : Int) := by simp [IntKind.wrap, IntKind.bits, IntKind.signed]
      clear hgo
      go_wp2
      go_ret
      exact ⟨⟨lo, by simp [hwr], HL.out, by rw [← HE.out]; exact HH.out⟩, rfl⟩

theorem cube_mono {a b p : Nat} (h : a ≤ b) (hb : CubeLe b p) : CubeLe a p := Nat.le_trans (Nat.mul_le_mul (Nat.mul_le_mul h h) h) hb
theorem sq_mono {a b p : Nat} (h : a ≤ b) (hb : SqLe b p) : SqLe a p := Nat.le_trans (Nat.mul_le_mul h h) hb
/-- the root -/
noncomputable def gr (C : Nat → Prop) : Nat := Classical.epsilon (fun r => C r ∧ ¬ C (r + 1))
theorem gr_eq {C : Nat → Prop} (hm : ∀ a b, a ≤ b → C b → C a) {r : Nat} (h : C r) (h2 : ¬ C (r + 1)) : r = gr C := by
  have he : C (gr C) ∧ ¬ C (gr C + 1) := Classical.epsilon_spec (p := fun r => C r ∧ ¬ C (r + 1)) ⟨r, h, h2⟩
  rcases Nat.lt_trichotomy r (gr C) with h3 | h3 | h3
  · exact absurd (hm _ _ h3 he.1) h2
  · exact h3
  · exact absurd (hm _ _ h3 h) he.2
noncomputable def k3 (p : Nat) : Nat := gr (fun r => CubeLe r p) % 4294967296
noncomputable def k2 (p : Nat) : Nat := gr (fun r => SqLe r p) % 4294967296
theorem k3_lt (p : Nat) : k3 p < 4294967296 := Nat.mod_lt _ (by decide)
theorem k2_lt (p : Nat) : k2 p < 4294967296 := Nat.mod_lt _ (by decide)
theorem cub_k3 {p r : Nat} (h : CubeLe r p) (h2 : ¬ CubeLe (r + 1) p) : r % 4294967296 = k3 p := by
  unfold k3; rw [← gr_eq (C := fun r => CubeLe r p) (fun a b => cube_mono) h h2]
theorem sq_k2 {p r : Nat} (h : SqLe r p) (h2 : ¬ SqLe (r + 1) p) : r % 4294967296 = k2 p := by
  unfold k2; rw [← gr_eq (C := fun r => SqLe r p) (fun a b => sq_mono) h h2]
theorem cube_top {p : Nat} (hp : p ≤ 4000) : ¬ CubeLe 68719476736 p := by
  intro h
  unfold CubeLe at h
  have := Nat.le_trans h (Nat.mul_le_mul_right (4294967296 * 18446744073709551616) hp)
  revert this; decide
theorem sq_top {p : Nat} (hp : p ≤ 200) : ¬ SqLe 68719476736 p := by
  intro h
  unfold SqLe at h
  have := Nat.le_trans h (Nat.mul_le_mul_right 18446744073709551616 hp)
  revert this; decide
theorem root3_any (p : Nat) (hp : p ≤ 4000) (w : World) : Calls Try.prog 38 #[.int .u64 p, .func (.func 39) #[] #[]] w fun e w' => e = .returned (.int .u32 (k3 p : Nat)) ∧ w = w' :=
  (root_cub p (by omega) (cube_top hp) w).mono fun e w' h => by
    obtain ⟨⟨r, rfl, h1, h2⟩, h3⟩ := h
    exact ⟨by rw [cub_k3 h1 h2], h3.symm⟩
theorem root2_any (p : Nat) (hp : p ≤ 200) (w : World) : Calls Try.prog 38 #[.int .u64 p, .func (.func 40) #[] #[]] w fun e w' => e = .returned (.int .u32 (k2 p : Nat)) ∧ w = w' :=
  (root_sq p (by omega) (sq_top hp) w).mono fun e w' h => by
    obtain ⟨⟨r, rfl, h1, h2⟩, h3⟩ := h
    exact ⟨by rw [sq_k2 h1 h2], h3.symm⟩
end Go.Proofs.Ytjahdladcijhoaa
