/- marks.turn. Conditions: a word. -/
import Derived.Test.YtjahdladcijhoaaShaMath
import Derived.Test.YtjahdladcijhoaaShaTables
namespace Go.Proofs.Ytjahdladcijhoaa
open Go.RowKit
set_option linter.unusedVariables false
set_option linter.unusedSimpArgs false

set_option maxRecDepth 100000 in
theorem rotl_25 (x : Nat) (hx : x < 4294967296) (w : World) : Calls Try.prog 46 #[.int .u32 x, .int .i64 (-7)] w fun e w' => e = .returned (.int .u32 (rot x 7 : Nat)) ∧ w' = w := by
  have hor : bits .or .u32 ((x : Int) * 33554432 % 4294967296) ((x : Int) / 128) = ((rot x 7 : Nat) : Int) := by
    have h := u32_or (x * 2 ^ 25 % 4294967296) (x / 2 ^ 7) (Nat.mod_lt _ (by decide)) (Nat.lt_of_le_of_lt (Nat.div_le_self _ _) hx)
    have e1 : ((x * 2 ^ 25 % 4294967296 : Nat) : Int) = (x : Int) * 33554432 % 4294967296 := by omega
    have e2 : ((x / 2 ^ 7 : Nat) : Int) = (x : Int) / 128 := by omega
    rw [e1, e2] at h
    exact h
  have hsh : bits .and .u64 (IntKind.u64.wrap (-7)) 31 = 25 := by decide
  go_enter Try.func46, Try.ntmps46
  go_wp2
  go_ret
  exact ⟨rfl, rfl⟩
theorem turn_7 (x : Nat) (hx : x < 4294967296) (w : World) : Calls Try.prog 41 #[.int .u32 x, .int .i64 7] w fun e w' => e = .returned (.int .u32 (rot x 7 : Nat)) ∧ w' = w := by
  have HR := Lib.hid (rotl_25 x hx w)
  go_enter Try.func41, Try.ntmps41
  go_wp2_with fail
  refine HR.out.mono ?_
  rintro e w' ⟨rfl, rfl⟩
  go_wp2
  go_ret
  exact ⟨rfl, rfl⟩
set_option maxRecDepth 100000 in
theorem rotl_14 (x : Nat) (hx : x < 4294967296) (w : World) : Calls Try.prog 46 #[.int .u32 x, .int .i64 (-18)] w fun e w' => e = .returned (.int .u32 (rot x 18 : Nat)) ∧ w' = w := by
  have hor : bits .or .u32 ((x : Int) * 16384 % 4294967296) ((x : Int) / 262144) = ((rot x 18 : Nat) : Int) := by
    have h := u32_or (x * 2 ^ 14 % 4294967296) (x / 2 ^ 18) (Nat.mod_lt _ (by decide)) (Nat.lt_of_le_of_lt (Nat.div_le_self _ _) hx)
    have e1 : ((x * 2 ^ 14 % 4294967296 : Nat) : Int) = (x : Int) * 16384 % 4294967296 := by omega
    have e2 : ((x / 2 ^ 18 : Nat) : Int) = (x : Int) / 262144 := by omega
    rw [e1, e2] at h
    exact h
  have hsh : bits .and .u64 (IntKind.u64.wrap (-18)) 31 = 14 := by decide
  go_enter Try.func46, Try.ntmps46
  go_wp2
  go_ret
  exact ⟨rfl, rfl⟩
theorem turn_18 (x : Nat) (hx : x < 4294967296) (w : World) : Calls Try.prog 41 #[.int .u32 x, .int .i64 18] w fun e w' => e = .returned (.int .u32 (rot x 18 : Nat)) ∧ w' = w := by
  have HR := Lib.hid (rotl_14 x hx w)
  go_enter Try.func41, Try.ntmps41
  go_wp2_with fail
  refine HR.out.mono ?_
  rintro e w' ⟨rfl, rfl⟩
  go_wp2
  go_ret
  exact ⟨rfl, rfl⟩
set_option maxRecDepth 100000 in
theorem rotl_15 (x : Nat) (hx : x < 4294967296) (w : World) : Calls Try.prog 46 #[.int .u32 x, .int .i64 (-17)] w fun e w' => e = .returned (.int .u32 (rot x 17 : Nat)) ∧ w' = w := by
  have hor : bits .or .u32 ((x : Int) * 32768 % 4294967296) ((x : Int) / 131072) = ((rot x 17 : Nat) : Int) := by
    have h := u32_or (x * 2 ^ 15 % 4294967296) (x / 2 ^ 17) (Nat.mod_lt _ (by decide)) (Nat.lt_of_le_of_lt (Nat.div_le_self _ _) hx)
    have e1 : ((x * 2 ^ 15 % 4294967296 : Nat) : Int) = (x : Int) * 32768 % 4294967296 := by omega
    have e2 : ((x / 2 ^ 17 : Nat) : Int) = (x : Int) / 131072 := by omega
    rw [e1, e2] at h
    exact h
  have hsh : bits .and .u64 (IntKind.u64.wrap (-17)) 31 = 15 := by decide
  go_enter Try.func46, Try.ntmps46
  go_wp2
  go_ret
  exact ⟨rfl, rfl⟩
theorem turn_17 (x : Nat) (hx : x < 4294967296) (w : World) : Calls Try.prog 41 #[.int .u32 x, .int .i64 17] w fun e w' => e = .returned (.int .u32 (rot x 17 : Nat)) ∧ w' = w := by
  have HR := Lib.hid (rotl_15 x hx w)
  go_enter Try.func41, Try.ntmps41
  go_wp2_with fail
  refine HR.out.mono ?_
  rintro e w' ⟨rfl, rfl⟩
  go_wp2
  go_ret
  exact ⟨rfl, rfl⟩
set_option maxRecDepth 100000 in
theorem rotl_13 (x : Nat) (hx : x < 4294967296) (w : World) : Calls Try.prog 46 #[.int .u32 x, .int .i64 (-19)] w fun e w' => e = .returned (.int .u32 (rot x 19 : Nat)) ∧ w' = w := by
  have hor : bits .or .u32 ((x : Int) * 8192 % 4294967296) ((x : Int) / 524288) = ((rot x 19 : Nat) : Int) := by
    have h := u32_or (x * 2 ^ 13 % 4294967296) (x / 2 ^ 19) (Nat.mod_lt _ (by decide)) (Nat.lt_of_le_of_lt (Nat.div_le_self _ _) hx)
    have e1 : ((x * 2 ^ 13 % 4294967296 : Nat) : Int) = (x : Int) * 8192 % 4294967296 := by omega
    have e2 : ((x / 2 ^ 19 : Nat) : Int) = (x : Int) / 524288 := by omega
    rw [e1, e2] at h
    exact h
  have hsh : bits .and .u64 (IntKind.u64.wrap (-19)) 31 = 13 := by decide
  go_enter Try.func46, Try.ntmps46
  go_wp2
  go_ret
  exact ⟨rfl, rfl⟩
theorem turn_19 (x : Nat) (hx : x < 4294967296) (w : World) : Calls Try.prog 41 #[.int .u32 x, .int .i64 19] w fun e w' => e = .returned (.int .u32 (rot x 19 : Nat)) ∧ w' = w := by
  have HR := Lib.hid (rotl_13 x hx w)
  go_enter Try.func41, Try.ntmps41
  go_wp2_with fail
  refine HR.out.mono ?_
  rintro e w' ⟨rfl, rfl⟩
  go_wp2
  go_ret
  exact ⟨rfl, rfl⟩
set_option maxRecDepth 100000 in
theorem rotl_26 (x : Nat) (hx : x < 4294967296) (w : World) : Calls Try.prog 46 #[.int .u32 x, .int .i64 (-6)] w fun e w' => e = .returned (.int .u32 (rot x 6 : Nat)) ∧ w' = w := by
  have hor : bits .or .u32 ((x : Int) * 67108864 % 4294967296) ((x : Int) / 64) = ((rot x 6 : Nat) : Int) := by
    have h := u32_or (x * 2 ^ 26 % 4294967296) (x / 2 ^ 6) (Nat.mod_lt _ (by decide)) (Nat.lt_of_le_of_lt (Nat.div_le_self _ _) hx)
    have e1 : ((x * 2 ^ 26 % 4294967296 : Nat) : Int) = (x : Int) * 67108864 % 4294967296 := by omega
    have e2 : ((x / 2 ^ 6 : Nat) : Int) = (x : Int) / 64 := by omega
    rw [e1, e2] at h
    exact h
  have hsh : bits .and .u64 (IntKind.u64.wrap (-6)) 31 = 26 := by decide
  go_enter Try.func46, Try.ntmps46
  go_wp2
  go_ret
  exact ⟨rfl, rfl⟩
theorem turn_6 (x : Nat) (hx : x < 4294967296) (w : World) : Calls Try.prog 41 #[.int .u32 x, .int .i64 6] w fun e w' => e = .returned (.int .u32 (rot x 6 : Nat)) ∧ w' = w := by
  have HR := Lib.hid (rotl_26 x hx w)
  go_enter Try.func41, Try.ntmps41
  go_wp2_with fail
  refine HR.out.mono ?_
  rintro e w' ⟨rfl, rfl⟩
  go_wp2
  go_ret
  exact ⟨rfl, rfl⟩
set_option maxRecDepth 100000 in
theorem rotl_21 (x : Nat) (hx : x < 4294967296) (w : World) : Calls Try.prog 46 #[.int .u32 x, .int .i64 (-11)] w fun e w' => e = .returned (.int .u32 (rot x 11 : Nat)) ∧ w' = w := by
  have hor : bits .or .u32 ((x : Int) * 2097152 % 4294967296) ((x : Int) / 2048) = ((rot x 11 : Nat) : Int) := by
    have h := u32_or (x * 2 ^ 21 % 4294967296) (x / 2 ^ 11) (Nat.mod_lt _ (by decide)) (Nat.lt_of_le_of_lt (Nat.div_le_self _ _) hx)
    have e1 : ((x * 2 ^ 21 % 4294967296 : Nat) : Int) = (x : Int) * 2097152 % 4294967296 := by omega
    have e2 : ((x / 2 ^ 11 : Nat) : Int) = (x : Int) / 2048 := by omega
    rw [e1, e2] at h
    exact h
  have hsh : bits .and .u64 (IntKind.u64.wrap (-11)) 31 = 21 := by decide
  go_enter Try.func46, Try.ntmps46
  go_wp2
  go_ret
  exact ⟨rfl, rfl⟩
theorem turn_11 (x : Nat) (hx : x < 4294967296) (w : World) : Calls Try.prog 41 #[.int .u32 x, .int .i64 11] w fun e w' => e = .returned (.int .u32 (rot x 11 : Nat)) ∧ w' = w := by
  have HR := Lib.hid (rotl_21 x hx w)
  go_enter Try.func41, Try.ntmps41
  go_wp2_with fail
  refine HR.out.mono ?_
  rintro e w' ⟨rfl, rfl⟩
  go_wp2
  go_ret
  exact ⟨rfl, rfl⟩
set_option maxRecDepth 100000 in
theorem rotl_7 (x : Nat) (hx : x < 4294967296) (w : World) : Calls Try.prog 46 #[.int .u32 x, .int .i64 (-25)] w fun e w' => e = .returned (.int .u32 (rot x 25 : Nat)) ∧ w' = w := by
  have hor : bits .or .u32 ((x : Int) * 128 % 4294967296) ((x : Int) / 33554432) = ((rot x 25 : Nat) : Int) := by
    have h := u32_or (x * 2 ^ 7 % 4294967296) (x / 2 ^ 25) (Nat.mod_lt _ (by decide)) (Nat.lt_of_le_of_lt (Nat.div_le_self _ _) hx)
    have e1 : ((x * 2 ^ 7 % 4294967296 : Nat) : Int) = (x : Int) * 128 % 4294967296 := by omega
    have e2 : ((x / 2 ^ 25 : Nat) : Int) = (x : Int) / 33554432 := by omega
    rw [e1, e2] at h
    exact h
  have hsh : bits .and .u64 (IntKind.u64.wrap (-25)) 31 = 7 := by decide
  go_enter Try.func46, Try.ntmps46
  go_wp2
  go_ret
  exact ⟨rfl, rfl⟩
theorem turn_25 (x : Nat) (hx : x < 4294967296) (w : World) : Calls Try.prog 41 #[.int .u32 x, .int .i64 25] w fun e w' => e = .returned (.int .u32 (rot x 25 : Nat)) ∧ w' = w := by
  have HR := Lib.hid (rotl_7 x hx w)
  go_enter Try.func41, Try.ntmps41
  go_wp2_with fail
  refine HR.out.mono ?_
  rintro e w' ⟨rfl, rfl⟩
  go_wp2
  go_ret
  exact ⟨rfl, rfl⟩
set_option maxRecDepth 100000 in
theorem rotl_30 (x : Nat) (hx : x < 4294967296) (w : World) : Calls Try.prog 46 #[.int .u32 x, .int .i64 (-2)] w fun e w' => e = .returned (.int .u32 (rot x 2 : Nat)) ∧ w' = w := by
  have hor : bits .or .u32 ((x : Int) * 1073741824 % 4294967296) ((x : Int) / 4) = ((rot x 2 : Nat) : Int) := by
    have h := u32_or (x * 2 ^ 30 % 4294967296) (x / 2 ^ 2) (Nat.mod_lt _ (by decide)) (Nat.lt_of_le_of_lt (Nat.div_le_self _ _) hx)
    have e1 : ((x * 2 ^ 30 % 4294967296 : Nat) : Int) = (x : Int) * 1073741824 % 4294967296 := by omega
    have e2 : ((x / 2 ^ 2 : Nat) : Int) = (x : Int) / 4 := by omega
    rw [e1, e2] at h
    exact h
  have hsh : bits .and .u64 (IntKind.u64.wrap (-2)) 31 = 30 := by decide
  go_enter Try.func46, Try.ntmps46
  go_wp2
  go_ret
  exact ⟨rfl, rfl⟩
theorem turn_2 (x : Nat) (hx : x < 4294967296) (w : World) : Calls Try.prog 41 #[.int .u32 x, .int .i64 2] w fun e w' => e = .returned (.int .u32 (rot x 2 : Nat)) ∧ w' = w := by
  have HR := Lib.hid (rotl_30 x hx w)
  go_enter Try.func41, Try.ntmps41
  go_wp2_with fail
  refine HR.out.mono ?_
  rintro e w' ⟨rfl, rfl⟩
  go_wp2
  go_ret
  exact ⟨rfl, rfl⟩
set_option maxRecDepth 100000 in
theorem rotl_19 (x : Nat) (hx : x < 4294967296) (w : World) : Calls Try.prog 46 #[.int .u32 x, .int .i64 (-13)] w fun e w' => e = .returned (.int .u32 (rot x 13 : Nat)) ∧ w' = w := by
  have hor : bits .or .u32 ((x : Int) * 524288 % 4294967296) ((x : Int) / 8192) = ((rot x 13 : Nat) : Int) := by
    have h := u32_or (x * 2 ^ 19 % 4294967296) (x / 2 ^ 13) (Nat.mod_lt _ (by decide)) (Nat.lt_of_le_of_lt (Nat.div_le_self _ _) hx)
    have e1 : ((x * 2 ^ 19 % 4294967296 : Nat) : Int) = (x : Int) * 524288 % 4294967296 := by omega
    have e2 : ((x / 2 ^ 13 : Nat) : Int) = (x : Int) / 8192 := by omega
    rw [e1, e2] at h
    exact h
  have hsh : bits .and .u64 (IntKind.u64.wrap (-13)) 31 = 19 := by decide
  go_enter Try.func46, Try.ntmps46
  go_wp2
  go_ret
  exact ⟨rfl, rfl⟩
theorem turn_13 (x : Nat) (hx : x < 4294967296) (w : World) : Calls Try.prog 41 #[.int .u32 x, .int .i64 13] w fun e w' => e = .returned (.int .u32 (rot x 13 : Nat)) ∧ w' = w := by
  have HR := Lib.hid (rotl_19 x hx w)
  go_enter Try.func41, Try.ntmps41
  go_wp2_with fail
  refine HR.out.mono ?_
  rintro e w' ⟨rfl, rfl⟩
  go_wp2
  go_ret
  exact ⟨rfl, rfl⟩
set_option maxRecDepth 100000 in
theorem rotl_10 (x : Nat) (hx : x < 4294967296) (w : World) : Calls Try.prog 46 #[.int .u32 x, .int .i64 (-22)] w fun e w' => e = .returned (.int .u32 (rot x 22 : Nat)) ∧ w' = w := by
  have hor : bits .or .u32 ((x : Int) * 1024 % 4294967296) ((x : Int) / 4194304) = ((rot x 22 : Nat) : Int) := by
    have h := u32_or (x * 2 ^ 10 % 4294967296) (x / 2 ^ 22) (Nat.mod_lt _ (by decide)) (Nat.lt_of_le_of_lt (Nat.div_le_self _ _) hx)
    have e1 : ((x * 2 ^ 10 % 4294967296 : Nat) : Int) = (x : Int) * 1024 % 4294967296 := by omega
    have e2 : ((x / 2 ^ 22 : Nat) : Int) = (x : Int) / 4194304 := by omega
    rw [e1, e2] at h
    exact h
  have hsh : bits .and .u64 (IntKind.u64.wrap (-22)) 31 = 10 := by decide
  go_enter Try.func46, Try.ntmps46
  go_wp2
  go_ret
  exact ⟨rfl, rfl⟩
theorem turn_22 (x : Nat) (hx : x < 4294967296) (w : World) : Calls Try.prog 41 #[.int .u32 x, .int .i64 22] w fun e w' => e = .returned (.int .u32 (rot x 22 : Nat)) ∧ w' = w := by
  have HR := Lib.hid (rotl_10 x hx w)
  go_enter Try.func41, Try.ntmps41
  go_wp2_with fail
  refine HR.out.mono ?_
  rintro e w' ⟨rfl, rfl⟩
  go_wp2
  go_ret
  exact ⟨rfl, rfl⟩
end Go.Proofs.Ytjahdladcijhoaa
