/- The word of a round: marks.word. Conditions: as named in each theorem. -/
import Derived.Test.YtjahdladcijhoaaShaTurn
import Derived.Deep.QuietTactic
import Derived.BigQuiet
import Derived.StillTailTactics
namespace Go.Proofs.Ytjahdladcijhoaa
open Go.RowKit
set_option linter.unusedVariables false
set_option linter.unusedSimpArgs false

def v32 (n : Nat) : Value := .int .u32 (n : Nat)
/-- the ring of the last sixteen words ahead of t -/
def RingOk (B : Nat → Nat) (t : Nat) (cs : List Nat) : Prop := cs.length = 16 ∧ ∀ i, t ≤ i + 16 → i < t → cs[i % 16]? = some (wW B i)
theorem RingOk.next {B : Nat → Nat} {t : Nat} {cs : List Nat} (h : RingOk B t cs) : RingOk B (t + 1) (cs.set (t % 16) (wW B t)) := by
  obtain ⟨h1, h2⟩ := h
  refine ⟨by rw [List.length_set]; exact h1, fun i hi hi2 => ?_⟩
  by_cases e : i = t
  · subst e
    rw [List.getElem?_set_self (by rw [h1]; omega)]
  · rw [List.getElem?_set_ne (by omega)]
    exact h2 i (by omega) (by omega)
theorem RingOk.cell {B : Nat → Nat} {t : Nat} {cs : List Nat} (h : RingOk B t cs) {w : World} {pw : Nat} {T : TypeId} (hb : Blk w pw (cs.map v32) T) (i j : Nat) (hi : t ≤ i + 16) (hi2 : i < t) (hj : j = i % 16) : w.cell? ⟨pw, j, none⟩ = some (.int .u32 (wW B i : Nat)) := by
  have := hb.cell (i := j) (v := v32 (wW B i)) (by rw [List.getElem?_map, hj, h.2 i hi hi2]; rfl)
  exact this
theorem idx16 (i c j : Nat) (hj : j = (i + c) % 16) : (((i : Int) + (c : Int)) % 16 = (j : Int)) ∧ (0 : Int) ≤ (j : Int) ∧ (j : Int) < 16 := by omega
theorem u32_div (A k : Nat) : (A : Int) / (k : Int) = ((A / k : Nat) : Int) := by omega

set_option maxRecDepth 100000 in
set_option maxHeartbeats 1000000 in
theorem word_lo (w : World) (pw i : Nat) (B : Nat → Nat) (cs : List Nat) (hi : i < 16) (hr : RingOk B 16 cs) (hb : Blk w pw (cs.map v32) 70) :
    Calls Try.prog 42 #[.pointer (some ⟨pw, 0, none⟩), .int .i64 i] w fun e w' => e = .returned (.int .u32 (wW B i : Nat)) ∧ w = w' := by
  have c0 := hr.cell hb i i (by omega) hi (by omega)
  have hm : (i : Int) % 16 = (i : Int) := by omega
  have i1 : (i : Int) < 16 := by omega
  have i2 : (0 : Int) ≤ (i : Int) := by omega
  clear hb hr
  go_enter Try.func42, Try.ntmps42
  go_wp2
  go_ret
  exact ⟨rfl, rfl⟩
set_option maxRecDepth 100000 in
set_option maxHeartbeats 4000000 in
theorem word_hi (w : World) (pw i : Nat) (B : Nat → Nat) (hB : ∀ k, B k < 256) (cs : List Nat) (hi : 16 ≤ i) (hi2 : i < 64) (hr : RingOk B i cs) (hb : Blk w pw (cs.map v32) 70) :
    Calls Try.prog 42 #[.pointer (some ⟨pw, 0, none⟩), .int .i64 i] w fun e w' => e = .returned (.int .u32 (wW B i : Nat)) ∧ Blk w' pw ((cs.set (i % 16) (wW B i)).map v32) 70 ∧ w.grownBy w' (some pw) := by
  obtain ⟨j0, hj0⟩ : ∃ j, j = i % 16 := ⟨_, rfl⟩
  obtain ⟨j1, hj1⟩ : ∃ j, j = (i + 1) % 16 := ⟨_, rfl⟩
  obtain ⟨j9, hj9⟩ : ∃ j, j = (i + 9) % 16 := ⟨_, rfl⟩
  obtain ⟨j14, hj14⟩ : ∃ j, j = (i + 14) % 16 := ⟨_, rfl⟩
  have c0 := hr.cell hb (i - 16) j0 (by omega) (by omega) (by omega)
  have c1 := hr.cell hb (i - 15) j1 (by omega) (by omega) (by omega)
  have c9 := hr.cell hb (i - 7) j9 (by omega) (by omega) (by omega)
  have c14 := hr.cell hb (i - 2) j14 (by omega) (by omega) (by omega)
  have hW := wW_hi B (t := i) (by omega)
  have l0 := wW_lt B hB (i - 16)
  have l1 := wW_lt B hB (i - 15)
  have l9 := wW_lt B hB (i - 7)
  have l14 := wW_lt B hB (i - 2)
  obtain ⟨A0, hA0⟩ : ∃ A, A = wW B (i - 16) := ⟨_, rfl⟩
  obtain ⟨A1, hA1⟩ : ∃ A, A = wW B (i - 15) := ⟨_, rfl⟩
  obtain ⟨A9, hA9⟩ : ∃ A, A = wW B (i - 7) := ⟨_, rfl⟩
  obtain ⟨A14, hA14⟩ : ∃ A, A = wW B (i - 2) := ⟨_, rfl⟩
  rw [← hA0] at c0 hW l0
  rw [← hA1] at c1 hW l1
  rw [← hA9] at c9 hW l9
  rw [← hA14] at c14 hW l14
  obtain ⟨X, hX⟩ : ∃ X, X = wW B i := ⟨_, rfl⟩
  rw [← hX] at hW ⊢
  clear hA0 hA1 hA9 hA14 hX hr
  obtain ⟨k0, k1, k2⟩ : ((i : Int) % 16 = (j0 : Int)) ∧ (0 : Int) ≤ (j0 : Int) ∧ (j0 : Int) < 16 := by omega
  obtain ⟨k3, k4, k5⟩ : (((i : Int) + 1) % 16 = (j1 : Int)) ∧ (0 : Int) ≤ (j1 : Int) ∧ (j1 : Int) < 16 := by omega
  obtain ⟨k6, k7, k8⟩ : (((i : Int) + 9) % 16 = (j9 : Int)) ∧ (0 : Int) ≤ (j9 : Int) ∧ (j9 : Int) < 16 := by omega
  obtain ⟨k9, k10, k11⟩ : (((i : Int) + 14) % 16 = (j14 : Int)) ∧ (0 : Int) ≤ (j14 : Int) ∧ (j14 : Int) < 16 := by omega
  have hbd : (16 : Int) ≤ (i : Int) := by omega
  have w1 : IntKind.i64.wrap ((i : Int) + 1) = (i : Int) + 1 := IntWalk.i64_in _ (by omega)
  have w9 : IntKind.i64.wrap ((i : Int) + 9) = (i : Int) + 9 := IntWalk.i64_in _ (by omega)
  have w14 : IntKind.i64.wrap ((i : Int) + 14) = (i : Int) + 14 := IntWalk.i64_in _ (by omega)
  have f0 := hb.frozen j0
  have HB := Lib.hid hb
  have HW := Lib.hid hW
  have HJ := Lib.hid hj0
  have m0 : (i : Int).tmod 16 = (j0 : Int) := by rw [Int.tmod_eq_emod_of_nonneg (by omega)]; exact k0
  have m9 : ((i : Int) + 9).tmod 16 = (j9 : Int) := by rw [Int.tmod_eq_emod_of_nonneg (by omega)]; exact k6
  have x1 : bits .xor .u32 ((rot A1 7 : Nat) : Int) ((rot A1 18 : Nat) : Int) = ((rot A1 7 ^^^ rot A1 18 : Nat) : Int) := u32_xor _ _ (rot_lt _ _ l1) (rot_lt _ _ l1)
  have x2 : bits .xor .u32 ((rot A1 7 ^^^ rot A1 18 : Nat) : Int) ((A1 : Int) / 8) = ((g0 A1 : Nat) : Int) := by
    have h := u32_xor (rot A1 7 ^^^ rot A1 18) (A1 / 8) (xor_lt (rot_lt _ _ l1) (rot_lt _ _ l1)) (by omega)
    rw [show ((A1 / 8 : Nat) : Int) = (A1 : Int) / 8 by omega] at h
    exact h
  have x3 : bits .xor .u32 ((rot A14 17 : Nat) : Int) ((rot A14 19 : Nat) : Int) = ((rot A14 17 ^^^ rot A14 19 : Nat) : Int) := u32_xor _ _ (rot_lt _ _ l14) (rot_lt _ _ l14)
  have x4 : bits .xor .u32 ((rot A14 17 ^^^ rot A14 19 : Nat) : Int) ((A14 : Int) / 1024) = ((g1 A14 : Nat) : Int) := by
    have h := u32_xor (rot A14 17 ^^^ rot A14 19) (A14 / 1024) (xor_lt (rot_lt _ _ l14) (rot_lt _ _ l14)) (by omega)
    rw [show ((A14 / 1024 : Nat) : Int) = (A14 : Int) / 1024 by omega] at h
    exact h
  clear hj0 hj1 hj9 hj14 hb hW
  go_enter Try.func42, Try.ntmps42
  go_upto_region 2 with fail
  go_quiet (fail)
  obtain ⟨W, hW⟩ : ∃ W, W = w.drewN nq := ⟨_, rfl⟩
  have HG : Hid (w.grownBy W (some pw)) := Lib.hid (by rw [hW]; exact grown_drewN (grown_refl _ _) _)
  have HBW : Hid (Blk W pw (cs.map v32) 70) := Lib.hid (by rw [hW]; exact HB.out)
  rw [← hW]
  have c0 : W.cell? ⟨pw, j0, none⟩ = some (.int .u32 (A0 : Nat)) := by rw [hW]; exact c0
  have c9 : W.cell? ⟨pw, j9, none⟩ = some (.int .u32 (A9 : Nat)) := by rw [hW]; exact c9
  have f0 : W.frozen? ⟨pw, j0, none⟩ = false := HBW.out.frozen j0
  clear hW
  go_upto_region 3 with fail
  refine wp_region_still_tail 34 (by kernel_rfl) (by kernel_rfl) ?_
  simp only [List.take_succ_cons, List.take_zero, List.drop_succ_cons, List.drop_zero]
  rw [World.drew_eq]
  have t7 := turn_7 A1 l1 W.drew
  have t18 := turn_18 A1 l1 W.drew
  have t17 := turn_17 A14 l14 W.drew
  have t19 := turn_19 A14 l14 W.drew
  repeat still_step
  still_call t7
  repeat still_step
  still_call t18
  repeat still_step
  still_call t17
  repeat still_step
  still_call t19
  repeat still_step
  refine wpStill_nil ?_
  go_wp2
  have hfin : ((A0 : Int) + (((g0 A1 : Nat) : Int) + (A9 : Int) + ((g1 A14 : Nat) : Int))) % 4294967296 = (X : Int) := by have := HW.out; omega
  rw [hfin]
  go_ret
  refine ⟨rfl, ?_, grown_drew (grown_set HG.out _ _)⟩
  have h := Blk.set HBW.out j0 (.int .u32 (X : Nat))
  rw [← HJ.out, List.map_set]
  exact h
end Go.Proofs.Ytjahdladcijhoaa
