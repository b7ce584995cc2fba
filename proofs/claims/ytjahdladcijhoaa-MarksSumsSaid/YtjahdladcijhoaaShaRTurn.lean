/- The reference's low and right. Conditions: as named in each theorem. -/
import Derived.Test.YtjahdladcijhoaaShaRoots
import Derived.StillTailTactics
namespace Go.Proofs.Ytjahdladcijhoaa
open Go.RowKit
set_option linter.unusedVariables false
set_option linter.unusedSimpArgs false

theorem and32 (x : Nat) (hx : x < 4611686018427387904) : bits .and .i64 (x : Int) 4294967295 = ((x % 4294967296 : Nat) : Int) := by
  have h := i64_and x 4294967295 (by omega) (by decide)
  rw [show x &&& 4294967295 = x % 4294967296 from Nat.and_two_pow_sub_one_eq_mod x 32] at h
  exact h
theorem low_any (x : Nat) (hx : x < 4611686018427387904) (w : World) : Calls Try.prog 35 #[.int .i64 x] w fun e w' => e = .returned (.int .i64 (x % 4294967296 : Nat)) ∧ w' = w := by
  have h := and32 x hx
  go_enter Try.func35, Try.ntmps35
  go_wp2
  go_ret
  exact ⟨rfl, rfl⟩
theorem rrot (x n : Nat) (hn : n ≤ 32) (hx : x < 4294967296) : (x / 2 ^ n ||| x * 2 ^ (32 - n)) % 4294967296 = rot x n := by
  unfold rot
  rw [show (4294967296 : Nat) = 2 ^ 32 by decide, Nat.or_mod_two_pow, Nat.or_comm]
  congr 1
  exact Nat.mod_eq_of_lt (Nat.lt_of_le_of_lt (Nat.div_le_self _ _) hx)

set_option maxRecDepth 100000 in
theorem right_7 (x : Nat) (hx : x < 4294967296) (w : World) : Calls Try.prog 36 #[.int .i64 x, .int .i64 7] w fun e w' => e = .returned (.int .i64 (rot x 7 : Nat)) ∧ w' = w.drew := by
  have hor : bits .or .i64 ((x : Int) / 128) ((x : Int) * 33554432) = (((x / 128 ||| x * 33554432) : Nat) : Int) := by
    have h := i64_or (x / 128) (x * 33554432) (by omega) (by omega)
    rw [show ((x / 128 : Nat) : Int) = (x : Int) / 128 by omega, show ((x * 33554432 : Nat) : Int) = (x : Int) * 33554432 by omega] at h
    exact h
  have v1 : IntKind.i64.wrap ((x : Int) * 33554432) = (x : Int) * 33554432 := IntWalk.i64_in _ (by omega)
  have v0 : IntKind.i64.wrap 25 = 25 := by decide
  have v3 : (Op.shift .shl .i64 (x : Int) .i64 25 : Sem Value) = pure (.int .i64 (IntKind.i64.wrap ((x : Int) * 33554432))) := by
    have h := shift_shl .i64 .i64 (x : Int) 25 (by decide) (by decide)
    exact h
  have HR := Lib.hid (rrot x 7 (by decide) hx)
  have hlt : (x / 128 ||| x * 33554432) < 4611686018427387904 := Nat.or_lt_two_pow (n := 62) (by omega) (by omega)
  obtain ⟨Y, hY⟩ : ∃ Y, Y = (x / 128 ||| x * 33554432) := ⟨_, rfl⟩
  rw [← hY] at hor hlt
  have HY := Lib.hid hY
  have HL := Lib.hid (fun w2 => low_any Y hlt w2)
  clear hY hlt
  go_enter Try.func36, Try.ntmps36
  go_upto_region 1 with fail
  refine wp_region_still_tail 9 (by kernel_rfl) (by kernel_rfl) ?_
  simp only [List.take_succ_cons, List.take_zero, List.drop_succ_cons, List.drop_zero]
  rw [World.drew_eq]
  have t0 := HL.out w.drew
  repeat still_step
  still_call t0
  repeat still_step
  refine wpStill_nil ?_
  go_wp2
  go_ret
  exact ⟨by rw [HY.out]; rw [show (x / 128 ||| x * 33554432) % 4294967296 = rot x 7 from HR.out]; rfl, rfl⟩

set_option maxRecDepth 100000 in
theorem right_18 (x : Nat) (hx : x < 4294967296) (w : World) : Calls Try.prog 36 #[.int .i64 x, .int .i64 18] w fun e w' => e = .returned (.int .i64 (rot x 18 : Nat)) ∧ w' = w.drew := by
  have hor : bits .or .i64 ((x : Int) / 262144) ((x : Int) * 16384) = (((x / 262144 ||| x * 16384) : Nat) : Int) := by
    have h := i64_or (x / 262144) (x * 16384) (by omega) (by omega)
    rw [show ((x / 262144 : Nat) : Int) = (x : Int) / 262144 by omega, show ((x * 16384 : Nat) : Int) = (x : Int) * 16384 by omega] at h
    exact h
  have v1 : IntKind.i64.wrap ((x : Int) * 16384) = (x : Int) * 16384 := IntWalk.i64_in _ (by omega)
  have v0 : IntKind.i64.wrap 14 = 14 := by decide
  have v3 : (Op.shift .shl .i64 (x : Int) .i64 14 : Sem Value) = pure (.int .i64 (IntKind.i64.wrap ((x : Int) * 16384))) := by
    have h := shift_shl .i64 .i64 (x : Int) 14 (by decide) (by decide)
    exact h
  have HR := Lib.hid (rrot x 18 (by decide) hx)
  have hlt : (x / 262144 ||| x * 16384) < 4611686018427387904 := Nat.or_lt_two_pow (n := 62) (by omega) (by omega)
  obtain ⟨Y, hY⟩ : ∃ Y, Y = (x / 262144 ||| x * 16384) := ⟨_, rfl⟩
  rw [← hY] at hor hlt
  have HY := Lib.hid hY
  have HL := Lib.hid (fun w2 => low_any Y hlt w2)
  clear hY hlt
  go_enter Try.func36, Try.ntmps36
  go_upto_region 1 with fail
  refine wp_region_still_tail 9 (by kernel_rfl) (by kernel_rfl) ?_
  simp only [List.take_succ_cons, List.take_zero, List.drop_succ_cons, List.drop_zero]
  rw [World.drew_eq]
  have t0 := HL.out w.drew
  repeat still_step
  still_call t0
  repeat still_step
  refine wpStill_nil ?_
  go_wp2
  go_ret
  exact ⟨by rw [HY.out]; rw [show (x / 262144 ||| x * 16384) % 4294967296 = rot x 18 from HR.out]; rfl, rfl⟩

set_option maxRecDepth 100000 in
theorem right_17 (x : Nat) (hx : x < 4294967296) (w : World) : Calls Try.prog 36 #[.int .i64 x, .int .i64 17] w fun e w' => e = .returned (.int .i64 (rot x 17 : Nat)) ∧ w' = w.drew := by
  have hor : bits .or .i64 ((x : Int) / 131072) ((x : Int) * 32768) = (((x / 131072 ||| x * 32768) : Nat) : Int) := by
    have h := i64_or (x / 131072) (x * 32768) (by omega) (by omega)
    rw [show ((x / 131072 : Nat) : Int) = (x : Int) / 131072 by omega, show ((x * 32768 : Nat) : Int) = (x : Int) * 32768 by omega] at h
    exact h
  have v1 : IntKind.i64.wrap ((x : Int) * 32768) = (x : Int) * 32768 := IntWalk.i64_in _ (by omega)
  have v0 : IntKind.i64.wrap 15 = 15 := by decide
  have v3 : (Op.shift .shl .i64 (x : Int) .i64 15 : Sem Value) = pure (.int .i64 (IntKind.i64.wrap ((x : Int) * 32768))) := by
    have h := shift_shl .i64 .i64 (x : Int) 15 (by decide) (by decide)
    exact h
  have HR := Lib.hid (rrot x 17 (by decide) hx)
  have hlt : (x / 131072 ||| x * 32768) < 4611686018427387904 := Nat.or_lt_two_pow (n := 62) (by omega) (by omega)
  obtain ⟨Y, hY⟩ : ∃ Y, Y = (x / 131072 ||| x * 32768) := ⟨_, rfl⟩
  rw [← hY] at hor hlt
  have HY := Lib.hid hY
  have HL := Lib.hid (fun w2 => low_any Y hlt w2)
  clear hY hlt
  go_enter Try.func36, Try.ntmps36
  go_upto_region 1 with fail
  refine wp_region_still_tail 9 (by kernel_rfl) (by kernel_rfl) ?_
  simp only [List.take_succ_cons, List.take_zero, List.drop_succ_cons, List.drop_zero]
  rw [World.drew_eq]
  have t0 := HL.out w.drew
  repeat still_step
  still_call t0
  repeat still_step
  refine wpStill_nil ?_
  go_wp2
  go_ret
  exact ⟨by rw [HY.out]; rw [show (x / 131072 ||| x * 32768) % 4294967296 = rot x 17 from HR.out]; rfl, rfl⟩

set_option maxRecDepth 100000 in
theorem right_19 (x : Nat) (hx : x < 4294967296) (w : World) : Calls Try.prog 36 #[.int .i64 x, .int .i64 19] w fun e w' => e = .returned (.int .i64 (rot x 19 : Nat)) ∧ w' = w.drew := by
  have hor : bits .or .i64 ((x : Int) / 524288) ((x : Int) * 8192) = (((x / 524288 ||| x * 8192) : Nat) : Int) := by
    have h := i64_or (x / 524288) (x * 8192) (by omega) (by omega)
    rw [show ((x / 524288 : Nat) : Int) = (x : Int) / 524288 by omega, show ((x * 8192 : Nat) : Int) = (x : Int) * 8192 by omega] at h
    exact h
  have v1 : IntKind.i64.wrap ((x : Int) * 8192) = (x : Int) * 8192 := IntWalk.i64_in _ (by omega)
  have v0 : IntKind.i64.wrap 13 = 13 := by decide
  have v3 : (Op.shift .shl .i64 (x : Int) .i64 13 : Sem Value) = pure (.int .i64 (IntKind.i64.wrap ((x : Int) * 8192))) := by
    have h := shift_shl .i64 .i64 (x : Int) 13 (by decide) (by decide)
    exact h
  have HR := Lib.hid (rrot x 19 (by decide) hx)
  have hlt : (x / 524288 ||| x * 8192) < 4611686018427387904 := Nat.or_lt_two_pow (n := 62) (by omega) (by omega)
  obtain ⟨Y, hY⟩ : ∃ Y, Y = (x / 524288 ||| x * 8192) := ⟨_, rfl⟩
  rw [← hY] at hor hlt
  have HY := Lib.hid hY
  have HL := Lib.hid (fun w2 => low_any Y hlt w2)
  clear hY hlt
  go_enter Try.func36, Try.ntmps36
  go_upto_region 1 with fail
  refine wp_region_still_tail 9 (by kernel_rfl) (by kernel_rfl) ?_
  simp only [List.take_succ_cons, List.take_zero, List.drop_succ_cons, List.drop_zero]
  rw [World.drew_eq]
  have t0 := HL.out w.drew
  repeat still_step
  still_call t0
  repeat still_step
  refine wpStill_nil ?_
  go_wp2
  go_ret
  exact ⟨by rw [HY.out]; rw [show (x / 524288 ||| x * 8192) % 4294967296 = rot x 19 from HR.out]; rfl, rfl⟩

set_option maxRecDepth 100000 in
theorem right_6 (x : Nat) (hx : x < 4294967296) (w : World) : Calls Try.prog 36 #[.int .i64 x, .int .i64 6] w fun e w' => e = .returned (.int .i64 (rot x 6 : Nat)) ∧ w' = w.drew := by
  have hor : bits .or .i64 ((x : Int) / 64) ((x : Int) * 67108864) = (((x / 64 ||| x * 67108864) : Nat) : Int) := by
    have h := i64_or (x / 64) (x * 67108864) (by omega) (by omega)
    rw [show ((x / 64 : Nat) : Int) = (x : Int) / 64 by omega, show ((x * 67108864 : Nat) : Int) = (x : Int) * 67108864 by omega] at h
    exact h
  have v1 : IntKind.i64.wrap ((x : Int) * 67108864) = (x : Int) * 67108864 := IntWalk.i64_in _ (by omega)
  have v0 : IntKind.i64.wrap 26 = 26 := by decide
  have v3 : (Op.shift .shl .i64 (x : Int) .i64 26 : Sem Value) = pure (.int .i64 (IntKind.i64.wrap ((x : Int) * 67108864))) := by
    have h := shift_shl .i64 .i64 (x : Int) 26 (by decide) (by decide)
    exact h
  have HR := Lib.hid (rrot x 6 (by decide) hx)
  have hlt : (x / 64 ||| x * 67108864) < 4611686018427387904 := Nat.or_lt_two_pow (n := 62) (by omega) (by omega)
  obtain ⟨Y, hY⟩ : ∃ Y, Y = (x / 64 ||| x * 67108864) := ⟨_, rfl⟩
  rw [← hY] at hor hlt
  have HY := Lib.hid hY
  have HL := Lib.hid (fun w2 => low_any Y hlt w2)
  clear hY hlt
  go_enter Try.func36, Try.ntmps36
  go_upto_region 1 with fail
  refine wp_region_still_tail 9 (by kernel_rfl) (by kernel_rfl) ?_
  simp only [List.take_succ_cons, List.take_zero, List.drop_succ_cons, List.drop_zero]
  rw [World.drew_eq]
  have t0 := HL.out w.drew
  repeat still_step
  still_call t0
  repeat still_step
  refine wpStill_nil ?_
  go_wp2
  go_ret
  exact ⟨by rw [HY.out]; rw [show (x / 64 ||| x * 67108864) % 4294967296 = rot x 6 from HR.out]; rfl, rfl⟩

set_option maxRecDepth 100000 in
theorem right_11 (x : Nat) (hx : x < 4294967296) (w : World) : Calls Try.prog 36 #[.int .i64 x, .int .i64 11] w fun e w' => e = .returned (.int .i64 (rot x 11 : Nat)) ∧ w' = w.drew := by
  have hor : bits .or .i64 ((x : Int) / 2048) ((x : Int) * 2097152) = (((x / 2048 ||| x * 2097152) : Nat) : Int) := by
    have h := i64_or (x / 2048) (x * 2097152) (by omega) (by omega)
    rw [show ((x / 2048 : Nat) : Int) = (x : Int) / 2048 by omega, show ((x * 2097152 : Nat) : Int) = (x : Int) * 2097152 by omega] at h
    exact h
  have v1 : IntKind.i64.wrap ((x : Int) * 2097152) = (x : Int) * 2097152 := IntWalk.i64_in _ (by omega)
  have v0 : IntKind.i64.wrap 21 = 21 := by decide
  have v3 : (Op.shift .shl .i64 (x : Int) .i64 21 : Sem Value) = pure (.int .i64 (IntKind.i64.wrap ((x : Int) * 2097152))) := by
    have h := shift_shl .i64 .i64 (x : Int) 21 (by decide) (by decide)
    exact h
  have HR := Lib.hid (rrot x 11 (by decide) hx)
  have hlt : (x / 2048 ||| x * 2097152) < 4611686018427387904 := Nat.or_lt_two_pow (n := 62) (by omega) (by omega)
  obtain ⟨Y, hY⟩ : ∃ Y, Y = (x / 2048 ||| x * 2097152) := ⟨_, rfl⟩
  rw [← hY] at hor hlt
  have HY := Lib.hid hY
  have HL := Lib.hid (fun w2 => low_any Y hlt w2)
  clear hY hlt
  go_enter Try.func36, Try.ntmps36
  go_upto_region 1 with fail
  refine wp_region_still_tail 9 (by kernel_rfl) (by kernel_rfl) ?_
  simp only [List.take_succ_cons, List.take_zero, List.drop_succ_cons, List.drop_zero]
  rw [World.drew_eq]
  have t0 := HL.out w.drew
  repeat still_step
  still_call t0
  repeat still_step
  refine wpStill_nil ?_
  go_wp2
  go_ret
  exact ⟨by rw [HY.out]; rw [show (x / 2048 ||| x * 2097152) % 4294967296 = rot x 11 from HR.out]; rfl, rfl⟩

set_option maxRecDepth 100000 in
theorem right_25 (x : Nat) (hx : x < 4294967296) (w : World) : Calls Try.prog 36 #[.int .i64 x, .int .i64 25] w fun e w' => e = .returned (.int .i64 (rot x 25 : Nat)) ∧ w' = w.drew := by
  have hor : bits .or .i64 ((x : Int) / 33554432) ((x : Int) * 128) = (((x / 33554432 ||| x * 128) : Nat) : Int) := by
    have h := i64_or (x / 33554432) (x * 128) (by omega) (by omega)
    rw [show ((x / 33554432 : Nat) : Int) = (x : Int) / 33554432 by omega, show ((x * 128 : Nat) : Int) = (x : Int) * 128 by omega] at h
    exact h
  have v1 : IntKind.i64.wrap ((x : Int) * 128) = (x : Int) * 128 := IntWalk.i64_in _ (by omega)
  have v0 : IntKind.i64.wrap 7 = 7 := by decide
  have v3 : (Op.shift .shl .i64 (x : Int) .i64 7 : Sem Value) = pure (.int .i64 (IntKind.i64.wrap ((x : Int) * 128))) := by
    have h := shift_shl .i64 .i64 (x : Int) 7 (by decide) (by decide)
    exact h
  have HR := Lib.hid (rrot x 25 (by decide) hx)
  have hlt : (x / 33554432 ||| x * 128) < 4611686018427387904 := Nat.or_lt_two_pow (n := 62) (by omega) (by omega)
  obtain ⟨Y, hY⟩ : ∃ Y, Y = (x / 33554432 ||| x * 128) := ⟨_, rfl⟩
  rw [← hY] at hor hlt
  have HY := Lib.hid hY
  have HL := Lib.hid (fun w2 => low_any Y hlt w2)
  clear hY hlt
  go_enter Try.func36, Try.ntmps36
  go_upto_region 1 with fail
  refine wp_region_still_tail 9 (by kernel_rfl) (by kernel_rfl) ?_
  simp only [List.take_succ_cons, List.take_zero, List.drop_succ_cons, List.drop_zero]
  rw [World.drew_eq]
  have t0 := HL.out w.drew
  repeat still_step
  still_call t0
  repeat still_step
  refine wpStill_nil ?_
  go_wp2
  go_ret
  exact ⟨by rw [HY.out]; rw [show (x / 33554432 ||| x * 128) % 4294967296 = rot x 25 from HR.out]; rfl, rfl⟩

set_option maxRecDepth 100000 in
theorem right_2 (x : Nat) (hx : x < 4294967296) (w : World) : Calls Try.prog 36 #[.int .i64 x, .int .i64 2] w fun e w' => e = .returned (.int .i64 (rot x 2 : Nat)) ∧ w' = w.drew := by
  have hor : bits .or .i64 ((x : Int) / 4) ((x : Int) * 1073741824) = (((x / 4 ||| x * 1073741824) : Nat) : Int) := by
    have h := i64_or (x / 4) (x * 1073741824) (by omega) (by omega)
    rw [show ((x / 4 : Nat) : Int) = (x : Int) / 4 by omega, show ((x * 1073741824 : Nat) : Int) = (x : Int) * 1073741824 by omega] at h
    exact h
  have v1 : IntKind.i64.wrap ((x : Int) * 1073741824) = (x : Int) * 1073741824 := IntWalk.i64_in _ (by omega)
  have v0 : IntKind.i64.wrap 30 = 30 := by decide
  have v3 : (Op.shift .shl .i64 (x : Int) .i64 30 : Sem Value) = pure (.int .i64 (IntKind.i64.wrap ((x : Int) * 1073741824))) := by
    have h := shift_shl .i64 .i64 (x : Int) 30 (by decide) (by decide)
    exact h
  have HR := Lib.hid (rrot x 2 (by decide) hx)
  have hlt : (x / 4 ||| x * 1073741824) < 4611686018427387904 := Nat.or_lt_two_pow (n := 62) (by omega) (by omega)
  obtain ⟨Y, hY⟩ : ∃ Y, Y = (x / 4 ||| x * 1073741824) := ⟨_, rfl⟩
  rw [← hY] at hor hlt
  have HY := Lib.hid hY
  have HL := Lib.hid (fun w2 => low_any Y hlt w2)
  clear hY hlt
  go_enter Try.func36, Try.ntmps36
  go_upto_region 1 with fail
  refine wp_region_still_tail 9 (by kernel_rfl) (by kernel_rfl) ?_
  simp only [List.take_succ_cons, List.take_zero, List.drop_succ_cons, List.drop_zero]
  rw [World.drew_eq]
  have t0 := HL.out w.drew
  repeat still_step
  still_call t0
  repeat still_step
  refine wpStill_nil ?_
  go_wp2
  go_ret
  exact ⟨by rw [HY.out]; rw [show (x / 4 ||| x * 1073741824) % 4294967296 = rot x 2 from HR.out]; rfl, rfl⟩

set_option maxRecDepth 100000 in
theorem right_13 (x : Nat) (hx : x < 4294967296) (w : World) : Calls Try.prog 36 #[.int .i64 x, .int .i64 13] w fun e w' => e = .returned (.int .i64 (rot x 13 : Nat)) ∧ w' = w.drew := by
  have hor : bits .or .i64 ((x : Int) / 8192) ((x : Int) * 524288) = (((x / 8192 ||| x * 524288) : Nat) : Int) := by
    have h := i64_or (x / 8192) (x * 524288) (by omega) (by omega)
    rw [show ((x / 8192 : Nat) : Int) = (x : Int) / 8192 by omega, show ((x * 524288 : Nat) : Int) = (x : Int) * 524288 by omega] at h
    exact h
  have v1 : IntKind.i64.wrap ((x : Int) * 524288) = (x : Int) * 524288 := IntWalk.i64_in _ (by omega)
  have v0 : IntKind.i64.wrap 19 = 19 := by decide
  have v3 : (Op.shift .shl .i64 (x : Int) .i64 19 : Sem Value) = pure (.int .i64 (IntKind.i64.wrap ((x : Int) * 524288))) := by
    have h := shift_shl .i64 .i64 (x : Int) 19 (by decide) (by decide)
    exact h
  have HR := Lib.hid (rrot x 13 (by decide) hx)
  have hlt : (x / 8192 ||| x * 524288) < 4611686018427387904 := Nat.or_lt_two_pow (n := 62) (by omega) (by omega)
  obtain ⟨Y, hY⟩ : ∃ Y, Y = (x / 8192 ||| x * 524288) := ⟨_, rfl⟩
  rw [← hY] at hor hlt
  have HY := Lib.hid hY
  have HL := Lib.hid (fun w2 => low_any Y hlt w2)
  clear hY hlt
  go_enter Try.func36, Try.ntmps36
  go_upto_region 1 with fail
  refine wp_region_still_tail 9 (by kernel_rfl) (by kernel_rfl) ?_
  simp only [List.take_succ_cons, List.take_zero, List.drop_succ_cons, List.drop_zero]
  rw [World.drew_eq]
  have t0 := HL.out w.drew
  repeat still_step
  still_call t0
  repeat still_step
  refine wpStill_nil ?_
  go_wp2
  go_ret
  exact ⟨by rw [HY.out]; rw [show (x / 8192 ||| x * 524288) % 4294967296 = rot x 13 from HR.out]; rfl, rfl⟩

set_option maxRecDepth 100000 in
theorem right_22 (x : Nat) (hx : x < 4294967296) (w : World) : Calls Try.prog 36 #[.int .i64 x, .int .i64 22] w fun e w' => e = .returned (.int .i64 (rot x 22 : Nat)) ∧ w' = w.drew := by
  have hor : bits .or .i64 ((x : Int) / 4194304) ((x : Int) * 1024) = (((x / 4194304 ||| x * 1024) : Nat) : Int) := by
    have h := i64_or (x / 4194304) (x * 1024) (by omega) (by omega)
    rw [show ((x / 4194304 : Nat) : Int) = (x : Int) / 4194304 by omega, show ((x * 1024 : Nat) : Int) = (x : Int) * 1024 by omega] at h
    exact h
  have v1 : IntKind.i64.wrap ((x : Int) * 1024) = (x : Int) * 1024 := IntWalk.i64_in _ (by omega)
  have v0 : IntKind.i64.wrap 10 = 10 := by decide
  have v3 : (Op.shift .shl .i64 (x : Int) .i64 10 : Sem Value) = pure (.int .i64 (IntKind.i64.wrap ((x : Int) * 1024))) := by
    have h := shift_shl .i64 .i64 (x : Int) 10 (by decide) (by decide)
    exact h
  have HR := Lib.hid (rrot x 22 (by decide) hx)
  have hlt : (x / 4194304 ||| x * 1024) < 4611686018427387904 := Nat.or_lt_two_pow (n := 62) (by omega) (by omega)
  obtain ⟨Y, hY⟩ : ∃ Y, Y = (x / 4194304 ||| x * 1024) := ⟨_, rfl⟩
  rw [← hY] at hor hlt
  have HY := Lib.hid hY
  have HL := Lib.hid (fun w2 => low_any Y hlt w2)
  clear hY hlt
  go_enter Try.func36, Try.ntmps36
  go_upto_region 1 with fail
  refine wp_region_still_tail 9 (by kernel_rfl) (by kernel_rfl) ?_
  simp only [List.take_succ_cons, List.take_zero, List.drop_succ_cons, List.drop_zero]
  rw [World.drew_eq]
  have t0 := HL.out w.drew
  repeat still_step
  still_call t0
  repeat still_step
  refine wpStill_nil ?_
  go_wp2
  go_ret
  exact ⟨by rw [HY.out]; rw [show (x / 4194304 ||| x * 1024) % 4294967296 = rot x 22 from HR.out]; rfl, rfl⟩

theorem ch_eq {e f g : Nat} (he : e < 4294967296) (hf : f < 4294967296) (hg : g < 4294967296) : (e &&& f) ^^^ ((4294967295 - e) &&& g) = chN e f g := by
  have hn : 4294967295 - e = 2 ^ 32 - (e + 1) := by omega
  rw [hn]
  unfold chN
  apply Nat.eq_of_testBit_eq
  intro i
  simp only [Nat.testBit_xor, Nat.testBit_and, Nat.testBit_two_pow_sub_succ (show e < 2 ^ 32 from he)]
  by_cases hi : i < 32
  · simp only [hi, decide_true, Bool.true_and]
    cases e.testBit i <;> cases f.testBit i <;> cases g.testBit i <;> rfl
  · have h1 : g.testBit i = false := Nat.testBit_lt_two_pow (Nat.lt_of_lt_of_le hg (Nat.pow_le_pow_right (n := 2) (by decide) (show 32 ≤ i by omega)))
    have h2 : e.testBit i = false := Nat.testBit_lt_two_pow (Nat.lt_of_lt_of_le he (Nat.pow_le_pow_right (n := 2) (by decide) (show 32 ≤ i by omega)))
    rw [h1, h2]; simp
theorem maj_eq (a b c : Nat) : (a &&& b) ^^^ (a &&& c) ^^^ (b &&& c) = majN a b c := by
  unfold majN
  apply Nat.eq_of_testBit_eq
  intro i
  simp only [Nat.testBit_xor, Nat.testBit_and, Nat.testBit_or]
  cases a.testBit i <;> cases b.testBit i <;> cases c.testBit i <;> rfl
end Go.Proofs.Ytjahdladcijhoaa
