/- A block of 64 bytes taken in: (*mixer).block. Conditions: as named in each theorem. -/
import Derived.Test.YtgemhgllifhckaaBitsN
import Derived.Test.YtgemhgllifhckaaShaTables
import Derived.Deep.QuietTactic
import Derived.BigQuiet
import Derived.StillTailTactics
import Derived.Deep.RegionHeld3
namespace Go.Proofs.Ytgemhgllifhckaa
open Go
set_option linter.unusedVariables false
set_option linter.unusedSimpArgs false
/-- a word turned right -/
def rotW (x n : Nat) : Nat := (x * 2 ^ (32 - n)) % 4294967296 ||| x / 2 ^ n
theorem rotW_lt (x n : Nat) (hx : x < 4294967296) : rotW x n < 4294967296 := by
  unfold rotW
  have h1 : x * 2 ^ (32 - n) % 4294967296 < 2 ^ 32 := Nat.mod_lt _ (by decide)
  have h2 : x / 2 ^ n < 2 ^ 32 := Nat.lt_of_le_of_lt (Nat.div_le_self _ _) hx
  exact Nat.or_lt_two_pow h1 h2
def g0 (x : Nat) : Nat := rotW x 7 ^^^ rotW x 18 ^^^ x / 8
def g1 (x : Nat) : Nat := rotW x 17 ^^^ rotW x 19 ^^^ x / 1024
def f0 (x : Nat) : Nat := rotW x 2 ^^^ rotW x 13 ^^^ rotW x 22
def f1 (x : Nat) : Nat := rotW x 6 ^^^ rotW x 11 ^^^ rotW x 25
def chN (e f g : Nat) : Nat := g ^^^ (e &&& (f ^^^ g))
def majN (a b c : Nat) : Nat := (a &&& b) ||| (c &&& (a ||| b))
theorem xor_lt {a b : Nat} (ha : a < 4294967296) (hb : b < 4294967296) : a ^^^ b < 4294967296 := Nat.xor_lt_two_pow (n := 32) ha hb
theorem and_lt {a b : Nat} (hb : b < 4294967296) : a &&& b < 4294967296 := Nat.and_lt_two_pow (n := 32) a hb
theorem or_lt {a b : Nat} (ha : a < 4294967296) (hb : b < 4294967296) : a ||| b < 4294967296 := Nat.or_lt_two_pow (n := 32) ha hb
theorem g0_lt {x : Nat} (h : x < 4294967296) : g0 x < 4294967296 := xor_lt (xor_lt (rotW_lt x 7 h) (rotW_lt x 18 h)) (Nat.lt_of_le_of_lt (Nat.div_le_self _ _) h)
theorem g1_lt {x : Nat} (h : x < 4294967296) : g1 x < 4294967296 := xor_lt (xor_lt (rotW_lt x 17 h) (rotW_lt x 19 h)) (Nat.lt_of_le_of_lt (Nat.div_le_self _ _) h)
theorem f0_lt {x : Nat} (h : x < 4294967296) : f0 x < 4294967296 := xor_lt (xor_lt (rotW_lt x 2 h) (rotW_lt x 13 h)) (rotW_lt x 22 h)
theorem f1_lt {x : Nat} (h : x < 4294967296) : f1 x < 4294967296 := xor_lt (xor_lt (rotW_lt x 6 h) (rotW_lt x 11 h)) (rotW_lt x 25 h)
theorem ch_lt {e f g : Nat} (hf : f < 4294967296) (hg : g < 4294967296) : chN e f g < 4294967296 := xor_lt hg (and_lt (xor_lt hf hg))
theorem maj_lt {a b c : Nat} (ha : a < 4294967296) (hb : b < 4294967296) : majN a b c < 4294967296 := or_lt (and_lt hb) (and_lt (or_lt ha hb))
/-- the words of a block, the first so many -/
def wNext (B : Nat → Nat) (l : List Nat) (t : Nat) : Nat :=
  if t < 16 then B (4 * t) * 16777216 + B (4 * t + 1) * 65536 + B (4 * t + 2) * 256 + B (4 * t + 3)
  else (l.getD (t - 16) 0 + g0 (l.getD (t - 15) 0) + l.getD (t - 7) 0 + g1 (l.getD (t - 2) 0)) % 4294967296
def wList (B : Nat → Nat) : Nat → List Nat
  | 0 => []
  | t + 1 => wList B t ++ [wNext B (wList B t) t]
def wW (B : Nat → Nat) (t : Nat) : Nat := wNext B (wList B t) t
theorem wList_len (B : Nat → Nat) (t : Nat) : (wList B t).length = t := by
  induction t with
  | zero => rfl
  | succ t ih => rw [wList, List.length_append, ih]; rfl
theorem wList_at (B : Nat → Nat) {t i : Nat} (h : i < t) : (wList B t)[i]? = some (wW B i) := by
  induction t with
  | zero => omega
  | succ t ih =>
    rw [wList]
    by_cases e : i < t
    · rw [List.getElem?_append_left (by rw [wList_len]; exact e)]; exact ih e
    · have : i = t := by omega
      subst this
      rw [List.getElem?_append_right (by rw [wList_len]; exact Nat.le_refl _), wList_len, Nat.sub_self]
      rfl
theorem wList_getD (B : Nat → Nat) {t i : Nat} (h : i < t) : (wList B t).getD i 0 = wW B i := by
  rw [List.getD_eq_getElem?_getD, wList_at B h]; rfl
theorem wW_lo (B : Nat → Nat) {t : Nat} (h : t < 16) : wW B t = B (4 * t) * 16777216 + B (4 * t + 1) * 65536 + B (4 * t + 2) * 256 + B (4 * t + 3) := by
  unfold wW wNext; rw [if_pos h]
theorem wW_hi (B : Nat → Nat) {t : Nat} (h : ¬ t < 16) : wW B t = (wW B (t - 16) + g0 (wW B (t - 15)) + wW B (t - 7) + g1 (wW B (t - 2))) % 4294967296 := by
  unfold wW; rw [wNext, if_neg h, wList_getD B (by omega), wList_getD B (by omega), wList_getD B (by omega), wList_getD B (by omega)]
  rfl
theorem wW_lt (B : Nat → Nat) (hB : ∀ i, B i < 256) (t : Nat) : wW B t < 4294967296 := by
  by_cases h : t < 16
  · rw [wW_lo B h]
    have a := hB (4 * t); have b := hB (4 * t + 1); have c := hB (4 * t + 2); have d := hB (4 * t + 3)
    omega
  · rw [wW_hi B h]; exact Nat.mod_lt _ (by decide)
structure V8 where
  a : Nat
  b : Nat
  c : Nat
  d : Nat
  e : Nat
  f : Nat
  g : Nat
  h : Nat
def V8.lt (v : V8) : Prop := v.a < 4294967296 ∧ v.b < 4294967296 ∧ v.c < 4294967296 ∧ v.d < 4294967296 ∧ v.e < 4294967296 ∧ v.f < 4294967296 ∧ v.g < 4294967296 ∧ v.h < 4294967296
def tOf (K W : Nat) (v : V8) : Nat := v.h + f1 v.e + chN v.e v.f v.g + K + W
def uOf (v : V8) : Nat := f0 v.a + majN v.a v.b v.c
def rnd (K W : Nat) (v : V8) : V8 := ⟨(tOf K W v + uOf v) % 4294967296, v.a, v.b, v.c, (v.d + tOf K W v) % 4294967296, v.e, v.f, v.g⟩
theorem rnd_lt {K W : Nat} {v : V8} (h : v.lt) : (rnd K W v).lt := by
  obtain ⟨h1, h2, h3, h4, h5, h6, h7, h8⟩ := h
  exact ⟨Nat.mod_lt _ (by decide), h1, h2, h3, Nat.mod_lt _ (by decide), h5, h6, h7⟩
/-- so many rounds -/
def rnds (K : Nat → Nat) (B : Nat → Nat) (v : V8) : Nat → V8
  | 0 => v
  | n + 1 => rnd (K n) (wW B n) (rnds K B v n)
theorem rnds_lt {K B : Nat → Nat} {v : V8} (h : v.lt) (n : Nat) : (rnds K B v n).lt := by
  induction n with
  | zero => exact h
  | succ n ih => exact rnd_lt ih
def addV (v u : V8) : V8 := ⟨(v.a + u.a) % 4294967296, (v.b + u.b) % 4294967296, (v.c + u.c) % 4294967296, (v.d + u.d) % 4294967296, (v.e + u.e) % 4294967296, (v.f + u.f) % 4294967296, (v.g + u.g) % 4294967296, (v.h + u.h) % 4294967296⟩
theorem addV_lt (v u : V8) : (addV v u).lt := ⟨Nat.mod_lt _ (by decide), Nat.mod_lt _ (by decide), Nat.mod_lt _ (by decide), Nat.mod_lt _ (by decide), Nat.mod_lt _ (by decide), Nat.mod_lt _ (by decide), Nat.mod_lt _ (by decide), Nat.mod_lt _ (by decide)⟩
/-- a block taken in -/
def blkV (K B : Nat → Nat) (v : V8) : V8 := addV v (rnds K B v 64)
/-- the bytes of a list as numbers -/
def byteAt (l : List UInt8) (i : Nat) : Nat := (l.getD i 0).toNat
theorem byteAt_lt (l : List UInt8) (i : Nat) : byteAt l i < 256 := UInt8.toNat_lt _
/-- so many blocks of a text taken in -/
def blks (K : Nat → Nat) (P : List UInt8) (v : V8) : Nat → V8
  | 0 => v
  | n + 1 => blkV K (byteAt ((P.drop (64 * n)).take 64)) (blks K P v n)
theorem blks_lt {K : Nat → Nat} {P : List UInt8} {v : V8} (h : v.lt) (n : Nat) : (blks K P v n).lt := by
  cases n with
  | zero => exact h
  | succ n => exact addV_lt _ _
def be4 (x : Nat) : List UInt8 := [UInt8.ofNat (x / 16777216), UInt8.ofNat (x / 65536), UInt8.ofNat (x / 256), UInt8.ofNat x]
def V8.list (v : V8) : List Nat := [v.a, v.b, v.c, v.d, v.e, v.f, v.g, v.h]
def outV (v : V8) : List UInt8 := v.list.flatMap be4
/-- what stands behind a text of a length -/
def endingL (n : Nat) : List UInt8 := [128] ++ List.replicate ((119 - n % 64) % 64) 0 ++ (List.range 8).map (fun i => UInt8.ofNat (8 * n / 2 ^ (8 * (7 - i))))
theorem endingL_len (n : Nat) : (n + (endingL n).length) % 64 = 0 := by
  unfold endingL
  simp only [List.length_append, List.length_replicate, List.length_map, List.length_range, List.length_singleton]
  omega
/-- SHA-256 by its tables -/
def shaL (K : Nat → Nat) (H : V8) (s : List UInt8) : List UInt8 := outV (blks K (s ++ endingL s.length) H ((s ++ endingL s.length).length / 64))
end Go.Proofs.Ytgemhgllifhckaa
namespace Go.Proofs.Ytgemhgllifhckaa
open Go.RowKit
set_option linter.unusedVariables false
set_option linter.unusedSimpArgs false
set_option maxRecDepth 100000 in
theorem rotl_25 (x : Nat) (hx : x < 4294967296) (w : World) : Calls Try.prog 123 #[.int .u32 x, .int .i64 (-7)] w fun e w' => e = .returned (.int .u32 (rotW x 7 : Nat)) ∧ w' = w := by
  have hor : bits .or .u32 ((x : Int) * 33554432 % 4294967296) ((x : Int) / 128) = ((rotW x 7 : Nat) : Int) := by
    have h := u32_or (x * 2 ^ 25 % 4294967296) (x / 2 ^ 7) (Nat.mod_lt _ (by decide)) (Nat.lt_of_le_of_lt (Nat.div_le_self _ _) hx)
    have e1 : ((x * 2 ^ 25 % 4294967296 : Nat) : Int) = (x : Int) * 33554432 % 4294967296 := by omega
    have e2 : ((x / 2 ^ 7 : Nat) : Int) = (x : Int) / 128 := by omega
    rw [e1, e2] at h
    exact h
  have hsh : bits .and .u64 (IntKind.u64.wrap (-7)) 31 = 25 := by decide
  go_enter Try.func123, Try.ntmps123
  go_wp2
  go_ret
  exact ⟨rfl, rfl⟩
theorem turn_7 (x : Nat) (hx : x < 4294967296) (w : World) : Calls Try.prog 115 #[.int .u32 x, .int .i64 7] w fun e w' => e = .returned (.int .u32 (rotW x 7 : Nat)) ∧ w' = w := by
  have HR := Lib.hid (rotl_25 x hx w)
  go_enter Try.func115, Try.ntmps115
  go_wp2_with fail
  refine HR.out.mono ?_
  rintro e w' ⟨rfl, rfl⟩
  go_wp2
  go_ret
  exact ⟨rfl, rfl⟩
set_option maxRecDepth 100000 in
theorem rotl_14 (x : Nat) (hx : x < 4294967296) (w : World) : Calls Try.prog 123 #[.int .u32 x, .int .i64 (-18)] w fun e w' => e = .returned (.int .u32 (rotW x 18 : Nat)) ∧ w' = w := by
  have hor : bits .or .u32 ((x : Int) * 16384 % 4294967296) ((x : Int) / 262144) = ((rotW x 18 : Nat) : Int) := by
    have h := u32_or (x * 2 ^ 14 % 4294967296) (x / 2 ^ 18) (Nat.mod_lt _ (by decide)) (Nat.lt_of_le_of_lt (Nat.div_le_self _ _) hx)
    have e1 : ((x * 2 ^ 14 % 4294967296 : Nat) : Int) = (x : Int) * 16384 % 4294967296 := by omega
    have e2 : ((x / 2 ^ 18 : Nat) : Int) = (x : Int) / 262144 := by omega
    rw [e1, e2] at h
    exact h
  have hsh : bits .and .u64 (IntKind.u64.wrap (-18)) 31 = 14 := by decide
  go_enter Try.func123, Try.ntmps123
  go_wp2
  go_ret
  exact ⟨rfl, rfl⟩
theorem turn_18 (x : Nat) (hx : x < 4294967296) (w : World) : Calls Try.prog 115 #[.int .u32 x, .int .i64 18] w fun e w' => e = .returned (.int .u32 (rotW x 18 : Nat)) ∧ w' = w := by
  have HR := Lib.hid (rotl_14 x hx w)
  go_enter Try.func115, Try.ntmps115
  go_wp2_with fail
  refine HR.out.mono ?_
  rintro e w' ⟨rfl, rfl⟩
  go_wp2
  go_ret
  exact ⟨rfl, rfl⟩
set_option maxRecDepth 100000 in
theorem rotl_15 (x : Nat) (hx : x < 4294967296) (w : World) : Calls Try.prog 123 #[.int .u32 x, .int .i64 (-17)] w fun e w' => e = .returned (.int .u32 (rotW x 17 : Nat)) ∧ w' = w := by
  have hor : bits .or .u32 ((x : Int) * 32768 % 4294967296) ((x : Int) / 131072) = ((rotW x 17 : Nat) : Int) := by
    have h := u32_or (x * 2 ^ 15 % 4294967296) (x / 2 ^ 17) (Nat.mod_lt _ (by decide)) (Nat.lt_of_le_of_lt (Nat.div_le_self _ _) hx)
    have e1 : ((x * 2 ^ 15 % 4294967296 : Nat) : Int) = (x : Int) * 32768 % 4294967296 := by omega
    have e2 : ((x / 2 ^ 17 : Nat) : Int) = (x : Int) / 131072 := by omega
    rw [e1, e2] at h
    exact h
  have hsh : bits .and .u64 (IntKind.u64.wrap (-17)) 31 = 15 := by decide
  go_enter Try.func123, Try.ntmps123
  go_wp2
  go_ret
  exact ⟨rfl, rfl⟩
theorem turn_17 (x : Nat) (hx : x < 4294967296) (w : World) : Calls Try.prog 115 #[.int .u32 x, .int .i64 17] w fun e w' => e = .returned (.int .u32 (rotW x 17 : Nat)) ∧ w' = w := by
  have HR := Lib.hid (rotl_15 x hx w)
  go_enter Try.func115, Try.ntmps115
  go_wp2_with fail
  refine HR.out.mono ?_
  rintro e w' ⟨rfl, rfl⟩
  go_wp2
  go_ret
  exact ⟨rfl, rfl⟩
set_option maxRecDepth 100000 in
theorem rotl_13 (x : Nat) (hx : x < 4294967296) (w : World) : Calls Try.prog 123 #[.int .u32 x, .int .i64 (-19)] w fun e w' => e = .returned (.int .u32 (rotW x 19 : Nat)) ∧ w' = w := by
  have hor : bits .or .u32 ((x : Int) * 8192 % 4294967296) ((x : Int) / 524288) = ((rotW x 19 : Nat) : Int) := by
    have h := u32_or (x * 2 ^ 13 % 4294967296) (x / 2 ^ 19) (Nat.mod_lt _ (by decide)) (Nat.lt_of_le_of_lt (Nat.div_le_self _ _) hx)
    have e1 : ((x * 2 ^ 13 % 4294967296 : Nat) : Int) = (x : Int) * 8192 % 4294967296 := by omega
    have e2 : ((x / 2 ^ 19 : Nat) : Int) = (x : Int) / 524288 := by omega
    rw [e1, e2] at h
    exact h
  have hsh : bits .and .u64 (IntKind.u64.wrap (-19)) 31 = 13 := by decide
  go_enter Try.func123, Try.ntmps123
  go_wp2
  go_ret
  exact ⟨rfl, rfl⟩
theorem turn_19 (x : Nat) (hx : x < 4294967296) (w : World) : Calls Try.prog 115 #[.int .u32 x, .int .i64 19] w fun e w' => e = .returned (.int .u32 (rotW x 19 : Nat)) ∧ w' = w := by
  have HR := Lib.hid (rotl_13 x hx w)
  go_enter Try.func115, Try.ntmps115
  go_wp2_with fail
  refine HR.out.mono ?_
  rintro e w' ⟨rfl, rfl⟩
  go_wp2
  go_ret
  exact ⟨rfl, rfl⟩
set_option maxRecDepth 100000 in
theorem rotl_26 (x : Nat) (hx : x < 4294967296) (w : World) : Calls Try.prog 123 #[.int .u32 x, .int .i64 (-6)] w fun e w' => e = .returned (.int .u32 (rotW x 6 : Nat)) ∧ w' = w := by
  have hor : bits .or .u32 ((x : Int) * 67108864 % 4294967296) ((x : Int) / 64) = ((rotW x 6 : Nat) : Int) := by
    have h := u32_or (x * 2 ^ 26 % 4294967296) (x / 2 ^ 6) (Nat.mod_lt _ (by decide)) (Nat.lt_of_le_of_lt (Nat.div_le_self _ _) hx)
    have e1 : ((x * 2 ^ 26 % 4294967296 : Nat) : Int) = (x : Int) * 67108864 % 4294967296 := by omega
    have e2 : ((x / 2 ^ 6 : Nat) : Int) = (x : Int) / 64 := by omega
    rw [e1, e2] at h
    exact h
  have hsh : bits .and .u64 (IntKind.u64.wrap (-6)) 31 = 26 := by decide
  go_enter Try.func123, Try.ntmps123
  go_wp2
  go_ret
  exact ⟨rfl, rfl⟩
theorem turn_6 (x : Nat) (hx : x < 4294967296) (w : World) : Calls Try.prog 115 #[.int .u32 x, .int .i64 6] w fun e w' => e = .returned (.int .u32 (rotW x 6 : Nat)) ∧ w' = w := by
  have HR := Lib.hid (rotl_26 x hx w)
  go_enter Try.func115, Try.ntmps115
  go_wp2_with fail
  refine HR.out.mono ?_
  rintro e w' ⟨rfl, rfl⟩
  go_wp2
  go_ret
  exact ⟨rfl, rfl⟩
set_option maxRecDepth 100000 in
theorem rotl_21 (x : Nat) (hx : x < 4294967296) (w : World) : Calls Try.prog 123 #[.int .u32 x, .int .i64 (-11)] w fun e w' => e = .returned (.int .u32 (rotW x 11 : Nat)) ∧ w' = w := by
  have hor : bits .or .u32 ((x : Int) * 2097152 % 4294967296) ((x : Int) / 2048) = ((rotW x 11 : Nat) : Int) := by
    have h := u32_or (x * 2 ^ 21 % 4294967296) (x / 2 ^ 11) (Nat.mod_lt _ (by decide)) (Nat.lt_of_le_of_lt (Nat.div_le_self _ _) hx)
    have e1 : ((x * 2 ^ 21 % 4294967296 : Nat) : Int) = (x : Int) * 2097152 % 4294967296 := by omega
    have e2 : ((x / 2 ^ 11 : Nat) : Int) = (x : Int) / 2048 := by omega
    rw [e1, e2] at h
    exact h
  have hsh : bits .and .u64 (IntKind.u64.wrap (-11)) 31 = 21 := by decide
  go_enter Try.func123, Try.ntmps123
  go_wp2
  go_ret
  exact ⟨rfl, rfl⟩
theorem turn_11 (x : Nat) (hx : x < 4294967296) (w : World) : Calls Try.prog 115 #[.int .u32 x, .int .i64 11] w fun e w' => e = .returned (.int .u32 (rotW x 11 : Nat)) ∧ w' = w := by
  have HR := Lib.hid (rotl_21 x hx w)
  go_enter Try.func115, Try.ntmps115
  go_wp2_with fail
  refine HR.out.mono ?_
  rintro e w' ⟨rfl, rfl⟩
  go_wp2
  go_ret
  exact ⟨rfl, rfl⟩
set_option maxRecDepth 100000 in
theorem rotl_7 (x : Nat) (hx : x < 4294967296) (w : World) : Calls Try.prog 123 #[.int .u32 x, .int .i64 (-25)] w fun e w' => e = .returned (.int .u32 (rotW x 25 : Nat)) ∧ w' = w := by
  have hor : bits .or .u32 ((x : Int) * 128 % 4294967296) ((x : Int) / 33554432) = ((rotW x 25 : Nat) : Int) := by
    have h := u32_or (x * 2 ^ 7 % 4294967296) (x / 2 ^ 25) (Nat.mod_lt _ (by decide)) (Nat.lt_of_le_of_lt (Nat.div_le_self _ _) hx)
    have e1 : ((x * 2 ^ 7 % 4294967296 : Nat) : Int) = (x : Int) * 128 % 4294967296 := by omega
    have e2 : ((x / 2 ^ 25 : Nat) : Int) = (x : Int) / 33554432 := by omega
    rw [e1, e2] at h
    exact h
  have hsh : bits .and .u64 (IntKind.u64.wrap (-25)) 31 = 7 := by decide
  go_enter Try.func123, Try.ntmps123
  go_wp2
  go_ret
  exact ⟨rfl, rfl⟩
theorem turn_25 (x : Nat) (hx : x < 4294967296) (w : World) : Calls Try.prog 115 #[.int .u32 x, .int .i64 25] w fun e w' => e = .returned (.int .u32 (rotW x 25 : Nat)) ∧ w' = w := by
  have HR := Lib.hid (rotl_7 x hx w)
  go_enter Try.func115, Try.ntmps115
  go_wp2_with fail
  refine HR.out.mono ?_
  rintro e w' ⟨rfl, rfl⟩
  go_wp2
  go_ret
  exact ⟨rfl, rfl⟩
set_option maxRecDepth 100000 in
theorem rotl_30 (x : Nat) (hx : x < 4294967296) (w : World) : Calls Try.prog 123 #[.int .u32 x, .int .i64 (-2)] w fun e w' => e = .returned (.int .u32 (rotW x 2 : Nat)) ∧ w' = w := by
  have hor : bits .or .u32 ((x : Int) * 1073741824 % 4294967296) ((x : Int) / 4) = ((rotW x 2 : Nat) : Int) := by
    have h := u32_or (x * 2 ^ 30 % 4294967296) (x / 2 ^ 2) (Nat.mod_lt _ (by decide)) (Nat.lt_of_le_of_lt (Nat.div_le_self _ _) hx)
    have e1 : ((x * 2 ^ 30 % 4294967296 : Nat) : Int) = (x : Int) * 1073741824 % 4294967296 := by omega
    have e2 : ((x / 2 ^ 2 : Nat) : Int) = (x : Int) / 4 := by omega
    rw [e1, e2] at h
    exact h
  have hsh : bits .and .u64 (IntKind.u64.wrap (-2)) 31 = 30 := by decide
  go_enter Try.func123, Try.ntmps123
  go_wp2
  go_ret
  exact ⟨rfl, rfl⟩
theorem turn_2 (x : Nat) (hx : x < 4294967296) (w : World) : Calls Try.prog 115 #[.int .u32 x, .int .i64 2] w fun e w' => e = .returned (.int .u32 (rotW x 2 : Nat)) ∧ w' = w := by
  have HR := Lib.hid (rotl_30 x hx w)
  go_enter Try.func115, Try.ntmps115
  go_wp2_with fail
  refine HR.out.mono ?_
  rintro e w' ⟨rfl, rfl⟩
  go_wp2
  go_ret
  exact ⟨rfl, rfl⟩
set_option maxRecDepth 100000 in
theorem rotl_19 (x : Nat) (hx : x < 4294967296) (w : World) : Calls Try.prog 123 #[.int .u32 x, .int .i64 (-13)] w fun e w' => e = .returned (.int .u32 (rotW x 13 : Nat)) ∧ w' = w := by
  have hor : bits .or .u32 ((x : Int) * 524288 % 4294967296) ((x : Int) / 8192) = ((rotW x 13 : Nat) : Int) := by
    have h := u32_or (x * 2 ^ 19 % 4294967296) (x / 2 ^ 13) (Nat.mod_lt _ (by decide)) (Nat.lt_of_le_of_lt (Nat.div_le_self _ _) hx)
    have e1 : ((x * 2 ^ 19 % 4294967296 : Nat) : Int) = (x : Int) * 524288 % 4294967296 := by omega
    have e2 : ((x / 2 ^ 13 : Nat) : Int) = (x : Int) / 8192 := by omega
    rw [e1, e2] at h
    exact h
  have hsh : bits .and .u64 (IntKind.u64.wrap (-13)) 31 = 19 := by decide
  go_enter Try.func123, Try.ntmps123
  go_wp2
  go_ret
  exact ⟨rfl, rfl⟩
theorem turn_13 (x : Nat) (hx : x < 4294967296) (w : World) : Calls Try.prog 115 #[.int .u32 x, .int .i64 13] w fun e w' => e = .returned (.int .u32 (rotW x 13 : Nat)) ∧ w' = w := by
  have HR := Lib.hid (rotl_19 x hx w)
  go_enter Try.func115, Try.ntmps115
  go_wp2_with fail
  refine HR.out.mono ?_
  rintro e w' ⟨rfl, rfl⟩
  go_wp2
  go_ret
  exact ⟨rfl, rfl⟩
set_option maxRecDepth 100000 in
theorem rotl_10 (x : Nat) (hx : x < 4294967296) (w : World) : Calls Try.prog 123 #[.int .u32 x, .int .i64 (-22)] w fun e w' => e = .returned (.int .u32 (rotW x 22 : Nat)) ∧ w' = w := by
  have hor : bits .or .u32 ((x : Int) * 1024 % 4294967296) ((x : Int) / 4194304) = ((rotW x 22 : Nat) : Int) := by
    have h := u32_or (x * 2 ^ 10 % 4294967296) (x / 2 ^ 22) (Nat.mod_lt _ (by decide)) (Nat.lt_of_le_of_lt (Nat.div_le_self _ _) hx)
    have e1 : ((x * 2 ^ 10 % 4294967296 : Nat) : Int) = (x : Int) * 1024 % 4294967296 := by omega
    have e2 : ((x / 2 ^ 22 : Nat) : Int) = (x : Int) / 4194304 := by omega
    rw [e1, e2] at h
    exact h
  have hsh : bits .and .u64 (IntKind.u64.wrap (-22)) 31 = 10 := by decide
  go_enter Try.func123, Try.ntmps123
  go_wp2
  go_ret
  exact ⟨rfl, rfl⟩
theorem turn_22 (x : Nat) (hx : x < 4294967296) (w : World) : Calls Try.prog 115 #[.int .u32 x, .int .i64 22] w fun e w' => e = .returned (.int .u32 (rotW x 22 : Nat)) ∧ w' = w := by
  have HR := Lib.hid (rotl_10 x hx w)
  go_enter Try.func115, Try.ntmps115
  go_wp2_with fail
  refine HR.out.mono ?_
  rintro e w' ⟨rfl, rfl⟩
  go_wp2
  go_ret
  exact ⟨rfl, rfl⟩
end Go.Proofs.Ytgemhgllifhckaa
namespace Go.Proofs.Ytgemhgllifhckaa
open Go.RowKit
set_option linter.unusedVariables false
set_option linter.unusedSimpArgs false
def v32 (n : Nat) : Value := .int .u32 (n : Nat)
/-- the ring of the last sixteen words ahead of t -/
def RingOk (B : Nat → Nat) (t : Nat) (cs : List Nat) : Prop := cs.length = 16 ∧ ∀ i, t ≤ i + 16 → i < t → cs[i % 16]? = some (wW B i)
theorem RingOk.next {B : Nat → Nat} {t : Nat} {cs : List Nat} (h : RingOk B t cs) : RingOk B (t + 1) (cs.set (t % 16) (wW B t)) := by
  obtain ⟨h1, h2⟩ := h
  refine ⟨by rw [List.length_set]; exact h1, fun i hi hi2 => ?_⟩
  by_cases e : i = t
  · subst e
    rw [List.getElem?_set_self (by rw [h1]; omega)]
  · rw [List.getElem?_set_ne (by omega)]
    exact h2 i (by omega) (by omega)
theorem RingOk.cell {B : Nat → Nat} {t : Nat} {cs : List Nat} (h : RingOk B t cs) {w : World} {pw : Nat} {T : TypeId} (hb : Blk w pw (cs.map v32) T) (i j : Nat) (hi : t ≤ i + 16) (hi2 : i < t) (hj : j = i % 16) : w.cell? ⟨pw, j, none⟩ = some (.int .u32 (wW B i : Nat)) := by
  have := hb.cell (i := j) (v := v32 (wW B i)) (by rw [List.getElem?_map, hj, h.2 i hi hi2]; rfl)
  exact this
set_option maxRecDepth 100000 in
set_option maxHeartbeats 1000000 in
theorem word_lo (w : World) (pw i : Nat) (B : Nat → Nat) (cs : List Nat) (hi : i < 16) (hr : RingOk B 16 cs) (hb : Blk w pw (cs.map v32) 150) :
    Calls Try.prog 116 #[.pointer (some ⟨pw, 0, none⟩), .int .i64 i] w fun e w' => e = .returned (.int .u32 (wW B i : Nat)) ∧ w = w' := by
  have c0 := hr.cell hb i i (by omega) hi (by omega)
  have hm : (i : Int) % 16 = (i : Int) := by omega
  have i1 : (i : Int) < 16 := by omega
  have i2 : (0 : Int) ≤ (i : Int) := by omega
  clear hb hr
  go_enter Try.func116, Try.ntmps116
  go_wp2
  go_ret
  exact ⟨rfl, rfl⟩
set_option maxRecDepth 100000 in
set_option maxHeartbeats 4000000 in
theorem word_hi (w : World) (pw i : Nat) (B : Nat → Nat) (hB : ∀ k, B k < 256) (cs : List Nat) (hi : 16 ≤ i) (hi2 : i < 64) (hr : RingOk B i cs) (hb : Blk w pw (cs.map v32) 150) :
    Calls Try.prog 116 #[.pointer (some ⟨pw, 0, none⟩), .int .i64 i] w fun e w' => e = .returned (.int .u32 (wW B i : Nat)) ∧ Blk w' pw ((cs.set (i % 16) (wW B i)).map v32) 150 ∧ w.grownBy w' (some pw) := by
  obtain ⟨j0, hj0⟩ : ∃ j, j = i % 16 := ⟨_, rfl⟩
  obtain ⟨j1, hj1⟩ : ∃ j, j = (i + 1) % 16 := ⟨_, rfl⟩
  obtain ⟨j9, hj9⟩ : ∃ j, j = (i + 9) % 16 := ⟨_, rfl⟩
  obtain ⟨j14, hj14⟩ : ∃ j, j = (i + 14) % 16 := ⟨_, rfl⟩
  have c0 := hr.cell hb (i - 16) j0 (by omega) (by omega) (by omega)
  have c1 := hr.cell hb (i - 15) j1 (by omega) (by omega) (by omega)
  have c9 := hr.cell hb (i - 7) j9 (by omega) (by omega) (by omega)
  have c14 := hr.cell hb (i - 2) j14 (by omega) (by omega) (by omega)
  have hW := wW_hi B (t := i) (by omega)
  have l0 := wW_lt B hB (i - 16)
  have l1 := wW_lt B hB (i - 15)
  have l9 := wW_lt B hB (i - 7)
  have l14 := wW_lt B hB (i - 2)
  obtain ⟨A0, hA0⟩ : ∃ A, A = wW B (i - 16) := ⟨_, rfl⟩
  obtain ⟨A1, hA1⟩ : ∃ A, A = wW B (i - 15) := ⟨_, rfl⟩
  obtain ⟨A9, hA9⟩ : ∃ A, A = wW B (i - 7) := ⟨_, rfl⟩
  obtain ⟨A14, hA14⟩ : ∃ A, A = wW B (i - 2) := ⟨_, rfl⟩
  rw [← hA0] at c0 hW l0
  rw [← hA1] at c1 hW l1
  rw [← hA9] at c9 hW l9
  rw [← hA14] at c14 hW l14
  obtain ⟨X, hX⟩ : ∃ X, X = wW B i := ⟨_, rfl⟩
  rw [← hX] at hW ⊢
  clear hA0 hA1 hA9 hA14 hX hr
  obtain ⟨k0, k1, k2⟩ : ((i : Int) % 16 = (j0 : Int)) ∧ (0 : Int) ≤ (j0 : Int) ∧ (j0 : Int) < 16 := by omega
  obtain ⟨k3, k4, k5⟩ : (((i : Int) + 1) % 16 = (j1 : Int)) ∧ (0 : Int) ≤ (j1 : Int) ∧ (j1 : Int) < 16 := by omega
  obtain ⟨k6, k7, k8⟩ : (((i : Int) + 9) % 16 = (j9 : Int)) ∧ (0 : Int) ≤ (j9 : Int) ∧ (j9 : Int) < 16 := by omega
  obtain ⟨k9, k10, k11⟩ : (((i : Int) + 14) % 16 = (j14 : Int)) ∧ (0 : Int) ≤ (j14 : Int) ∧ (j14 : Int) < 16 := by omega
  have hbd : (16 : Int) ≤ (i : Int) := by omega
  have w1 : IntKind.i64.wrap ((i : Int) + 1) = (i : Int) + 1 := IntWalk.i64_in _ (by omega)
  have w9 : IntKind.i64.wrap ((i : Int) + 9) = (i : Int) + 9 := IntWalk.i64_in _ (by omega)
  have w14 : IntKind.i64.wrap ((i : Int) + 14) = (i : Int) + 14 := IntWalk.i64_in _ (by omega)
  have f0 := hb.frozen j0
  have HB := Lib.hid hb
  have HW := Lib.hid hW
  have HJ := Lib.hid hj0
  have m0 : (i : Int).tmod 16 = (j0 : Int) := by rw [Int.tmod_eq_emod_of_nonneg (by omega)]; exact k0
  have m9 : ((i : Int) + 9).tmod 16 = (j9 : Int) := by rw [Int.tmod_eq_emod_of_nonneg (by omega)]; exact k6
  have x1 : bits .xor .u32 ((rotW A1 7 : Nat) : Int) ((rotW A1 18 : Nat) : Int) = ((rotW A1 7 ^^^ rotW A1 18 : Nat) : Int) := u32_xor _ _ (rotW_lt _ _ l1) (rotW_lt _ _ l1)
  have x2 : bits .xor .u32 ((rotW A1 7 ^^^ rotW A1 18 : Nat) : Int) ((A1 : Int) / 8) = ((g0 A1 : Nat) : Int) := by
    have h := u32_xor (rotW A1 7 ^^^ rotW A1 18) (A1 / 8) (xor_lt (rotW_lt _ _ l1) (rotW_lt _ _ l1)) (by omega)
    rw [show ((A1 / 8 : Nat) : Int) = (A1 : Int) / 8 by omega] at h
    exact h
  have x3 : bits .xor .u32 ((rotW A14 17 : Nat) : Int) ((rotW A14 19 : Nat) : Int) = ((rotW A14 17 ^^^ rotW A14 19 : Nat) : Int) := u32_xor _ _ (rotW_lt _ _ l14) (rotW_lt _ _ l14)
  have x4 : bits .xor .u32 ((rotW A14 17 ^^^ rotW A14 19 : Nat) : Int) ((A14 : Int) / 1024) = ((g1 A14 : Nat) : Int) := by
    have h := u32_xor (rotW A14 17 ^^^ rotW A14 19) (A14 / 1024) (xor_lt (rotW_lt _ _ l14) (rotW_lt _ _ l14)) (by omega)
    rw [show ((A14 / 1024 : Nat) : Int) = (A14 : Int) / 1024 by omega] at h
    exact h
  clear hj0 hj1 hj9 hj14 hb hW
  go_enter Try.func116, Try.ntmps116
  go_upto_region 2 with fail
  go_quiet (fail)
  obtain ⟨W, hW⟩ : ∃ W, W = w.drewN nq := ⟨_, rfl⟩
  have HG : Hid (w.grownBy W (some pw)) := Lib.hid (by rw [hW]; exact grown_drewN (grown_refl _ _) _)
  have HBW : Hid (Blk W pw (cs.map v32) 150) := Lib.hid (by rw [hW]; exact HB.out)
  rw [← hW]
  have c0 : W.cell? ⟨pw, j0, none⟩ = some (.int .u32 (A0 : Nat)) := by rw [hW]; exact c0
  have c9 : W.cell? ⟨pw, j9, none⟩ = some (.int .u32 (A9 : Nat)) := by rw [hW]; exact c9
  have f0 : W.frozen? ⟨pw, j0, none⟩ = false := HBW.out.frozen j0
  clear hW
  go_upto_region 3 with fail
  refine wp_region_still_tail 34 (by kernel_rfl) (by kernel_rfl) ?_
  simp only [List.take_succ_cons, List.take_zero, List.drop_succ_cons, List.drop_zero]
  rw [World.drew_eq]
  have t7 := turn_7 A1 l1 W.drew
  have t18 := turn_18 A1 l1 W.drew
  have t17 := turn_17 A14 l14 W.drew
  have t19 := turn_19 A14 l14 W.drew
  repeat still_step
  still_call t7
  repeat still_step
  still_call t18
  repeat still_step
  still_call t17
  repeat still_step
  still_call t19
  repeat still_step
  refine wpStill_nil ?_
  go_wp2
  have hfin : ((A0 : Int) + (((g0 A1 : Nat) : Int) + (A9 : Int) + ((g1 A14 : Nat) : Int))) % 4294967296 = (X : Int) := by have := HW.out; omega
  rw [hfin]
  go_ret
  refine ⟨rfl, ?_, grown_drew (grown_set HG.out _ _)⟩
  have h := Blk.set HBW.out j0 (.int .u32 (X : Nat))
  rw [← HJ.out, List.map_set]
  exact h
end Go.Proofs.Ytgemhgllifhckaa
namespace Go.Proofs.Ytgemhgllifhckaa
open Go.RowKit
set_option linter.unusedVariables false
set_option linter.unusedSimpArgs false
theorem or4 (a b c d : Nat) (ha : a < 256) (hb : b < 256) (hc : c < 256) (hd : d < 256) : (a * 16777216 ||| b * 65536 ||| c * 256 ||| d) = a * 16777216 + b * 65536 + c * 256 + d := by
  have h1 := Nat.two_pow_add_eq_or_of_lt (i := 24) (b := b * 65536) (by omega) a
  have h2 := Nat.two_pow_add_eq_or_of_lt (i := 16) (b := c * 256) (by omega) (a * 256 + b)
  have h3 := Nat.two_pow_add_eq_or_of_lt (i := 8) (b := d) (by omega) (a * 65536 + b * 256 + c)
  have e1 : a * 16777216 = 2 ^ 24 * a := by omega
  rw [e1, ← h1]
  have e2 : 2 ^ 24 * a + b * 65536 = 2 ^ 16 * (a * 256 + b) := by omega
  rw [e2, ← h2]
  have e3 : 2 ^ 16 * (a * 256 + b) + c * 256 = 2 ^ 8 * (a * 65536 + b * 256 + c) := by omega
  rw [e3, ← h3]
/-- the ring while it is filled -/
def ringA (B : Nat → Nat) (n : Nat) : List Nat := wList B n ++ List.replicate (16 - n) 0
theorem ringA_set (B : Nat → Nat) {n : Nat} (h : n < 16) : (ringA B n).set n (wW B n) = ringA B (n + 1) := by
  unfold ringA
  have hl := wList_len B n
  rw [List.set_append_right _ _ (by omega), hl, Nat.sub_self, show 16 - n = (16 - (n + 1)) + 1 by omega, List.replicate_succ, List.set_cons_zero, wList, List.append_assoc]
  rfl
theorem ringA_len (B : Nat → Nat) {n : Nat} (h : n ≤ 16) : (ringA B n).length = 16 := by
  unfold ringA; rw [List.length_append, wList_len, List.length_replicate]; omega
theorem ringA_at (B : Nat → Nat) {n : Nat} (h : n < 16) : (ringA B n)[n]? = some 0 := by
  unfold ringA
  have hl := wList_len B n
  rw [List.getElem?_append_right (by omega), hl, Nat.sub_self, show 16 - n = (16 - n - 1) + 1 by omega, List.replicate_succ]
  rfl
theorem ringA_ok (B : Nat → Nat) : RingOk B 16 (ringA B 16) := by
  refine ⟨ringA_len B (Nat.le_refl _), fun i _ hi => ?_⟩
  unfold ringA
  rw [Nat.mod_eq_of_lt hi, List.getElem?_append_left (by rw [wList_len]; exact hi), wList_at B hi]
theorem byteAt_get (s : ByteArray) (k : Nat) (h : k < s.size) : byteAt s.data.toList k = (s[k]'h).toNat := by
  have h2 : k < s.data.toList.length := by simpa using h
  unfold byteAt
  rw [List.getD_eq_getElem?_getD, List.getElem?_eq_getElem h2]
  rfl
def z16 : Array Value := (List.replicate 16 (Value.int .u32 0)).toArray
theorem arr70_run (w : World) : (zeroValue 150).run Try.prog w = .ok (.agg z16) w := by kernel_rfl
/-- the words while a block is added -/
def hmix (v u : V8) (j : Nat) : List Nat := (addV v u).list.take j ++ v.list.drop j
theorem hmix_at (v u : V8) {j : Nat} (h : j < 8) : ∃ x y, v.list[j]? = some x ∧ u.list[j]? = some y ∧ (hmix v u j)[j]? = some x ∧ (hmix v u j).set j ((x + y) % 4294967296) = hmix v u (j + 1) := by
  have hj : j = 0 ∨ j = 1 ∨ j = 2 ∨ j = 3 ∨ j = 4 ∨ j = 5 ∨ j = 6 ∨ j = 7 := by omega
  rcases hj with rfl | rfl | rfl | rfl | rfl | rfl | rfl | rfl <;> exact ⟨_, _, rfl, rfl, rfl, rfl⟩
theorem V8.lt_at {v : V8} (h : v.lt) {j x : Nat} (hx : v.list[j]? = some x) : x < 4294967296 := by
  obtain ⟨h1, h2, h3, h4, h5, h6, h7, h8⟩ := h
  have hm := List.mem_of_getElem? hx
  unfold V8.list at hm
  simp only [List.mem_cons, List.not_mem_nil, or_false] at hm
  omega
/-- the mixer's cells -/
def mixC (KL : List Nat) (v : V8) : List Value := KL.map v32 ++ v.list.map v32
structure BlS (w wr : World) (pm pw : Nat) (KL : List Nat) (v : V8) (cs : List Nat) : Prop where
  m : Blk wr pm (mixC KL v) 72
  r : Blk wr pw (cs.map v32) 150
  g : w.grownBy wr (some pm)
  lt : pm < w.heap.size
  le : w.heap.size ≤ pw
theorem BlS.ring {w wr : World} {pm pw : Nat} {KL : List Nat} {v : V8} {cs : List Nat} (h : BlS w wr pm pw KL v cs) {w' : World} {cs' : List Nat} (hr : Blk w' pw (cs'.map v32) 150) (hg : wr.grownBy w' (some pw)) : BlS w w' pm pw KL v cs' := by
  have h1 := h.lt; have h2 := h.le
  refine ⟨h.m.grown hg (by simp; omega), hr, ⟨hg.os.trans h.g.os, hg.tape.trans h.g.tape, hg.output.trans h.g.output, Nat.le_trans h.g.size hg.size, fun k hk1 hk2 => ?_⟩, h1, h2⟩
  rw [hg.block k (Nat.lt_of_lt_of_le hk1 h.g.size) (by simp; omega)]
  exact h.g.block k hk1 hk2
theorem BlS.setq {w wr : World} {pm pw : Nat} {KL : List Nat} {v : V8} {cs : List Nat} (h : BlS w wr pm pw KL v cs) (q i : Nat) (x : Value) (hq : pw < q) : BlS w (wr.setCell ⟨q, i, none⟩ x) pm pw KL v cs := by
  have h1 := h.lt; have h2 := h.le
  have hg : wr.grownBy (wr.setCell ⟨q, i, none⟩ x) (some q) := grown_set (grown_refl _ _) i x
  refine ⟨h.m.grown hg (by simp; omega), h.r.grown hg (by simp; omega), ⟨hg.os.trans h.g.os, hg.tape.trans h.g.tape, hg.output.trans h.g.output, Nat.le_trans h.g.size hg.size, fun k hk1 hk2 => ?_⟩, h1, h2⟩
  rw [hg.block k (Nat.lt_of_lt_of_le hk1 h.g.size) (by simp; omega)]
  exact h.g.block k hk1 hk2
theorem BlS.drewN {w wr : World} {pm pw : Nat} {KL : List Nat} {v : V8} {cs : List Nat} (h : BlS w wr pm pw KL v cs) (n : Nat) : BlS w (wr.drewN n) pm pw KL v cs := ⟨h.m, h.r, grown_drewN h.g n, h.lt, h.le⟩
theorem BlS.beside {w wr : World} {pm pw : Nat} {KL : List Nat} {v : V8} {cs : List Nat} (h : BlS w wr pm pw KL v cs) (ob : Obj) : BlS w (wr.alloc ob) pm pw KL v cs := ⟨h.m.alloc _, h.r.alloc _, grown_alloc h.g _, h.lt, h.le⟩
theorem BlS.drew {w wr : World} {pm pw : Nat} {KL : List Nat} {v : V8} {cs : List Nat} (h : BlS w wr pm pw KL v cs) : BlS w wr.drew pm pw KL v cs := ⟨h.m, h.r, grown_drew h.g, h.lt, h.le⟩
set_option maxRecDepth 100000 in
set_option maxHeartbeats 4000000 in
theorem shaBlock_any (w : World) (pm : Nat) (KL : List Nat) (hKL : KL.length = 64) (hKb : ∀ x ∈ KL, x < 4294967296) (v : V8) (hv : v.lt) (s : ByteArray) (hs : s.size = 64) (hb : Blk w pm (mixC KL v) 72) :
    Calls Try.prog 88 #[.pointer (some ⟨pm, 0, none⟩), .string s] w fun e w' => e = .returned (.tuple #[]) ∧ Blk w' pm (mixC KL (blkV (fun i => KL.getD i 0) (byteAt s.data.toList) v)) 72 ∧ w.grownBy w' (some pm) := by
  have hz16 := arr70_run
  obtain ⟨B, hB⟩ : ∃ B, B = byteAt s.data.toList := ⟨_, rfl⟩
  have hBl : ∀ k, B k < 256 := by rw [hB]; exact byteAt_lt _
  have HBK : Hid (∀ k (h : k < s.size), B k = (s[k]'h).toNat) := Lib.hid (fun k h => by rw [hB]; exact byteAt_get s k h)
  rw [← hB]
  obtain ⟨K, hK⟩ : ∃ K : Nat → Nat, K = fun i => KL.getD i 0 := ⟨_, rfl⟩
  rw [← hK]
  have HK := Lib.hid hK
  clear hK
  obtain ⟨V1, hV1⟩ : ∃ V, V = w.alloc (Obj.cells z16 150) := ⟨_, rfl⟩
  obtain ⟨pw, hpw⟩ : ∃ p, p = w.heap.size := ⟨_, rfl⟩
  have hS1 : BlS w V1 pm pw KL v (ringA B 0) := ⟨by rw [hV1]; exact hb.alloc _, by rw [hV1, hpw]; exact Blk.new w (List.replicate 16 (Value.int .u32 0)) _, by rw [hV1]; exact grown_alloc (grown_refl _ _) _, hb.lt, by omega⟩
  have HS1 := Lib.hid hS1
  have HV1 := Lib.hid hV1
  have HPW := Lib.hid hpw
  have HS := Lib.hid hs
  have HKL := Lib.hid (And.intro hKL hKb)
  have HV := Lib.hid hv
  clear hB hV1 hpw hS1 hb hKL hKb hv
  go_enter Try.func88, Try.ntmps88
  go_upto_region 1 with fail
  rw [← HPW.out, ← HV1.out]
  go_wp2_with fail
  go_loopw [12] (fun i wr => ∃ j : Nat, i = .int .i64 j ∧ j ≤ 16 ∧ BlS w wr pm pw KL v (ringA B j)) (fun i _ => 16 - (intOf i).toNat)
  case atStart => exact ⟨0, by go_num, by omega, HS1.out⟩
  case round =>
    clear HS1
    obtain ⟨j, rfl, hj, hS⟩ := hrel
    by_cases hlt : j < 16
    · have hsz := HS.out
      obtain ⟨q0, hq0⟩ : ∃ q, q = 4 * j := ⟨_, rfl⟩
      have i0 : 4 * (j : Int) = (q0 : Int) := by omega
      have hW := wW_lo B hlt
      rw [← hq0] at hW
      have w0 : IntKind.i64.wrap (4 * (j : Int)) = 4 * (j : Int) := IntWalk.i64_in _ (by omega)
      have hq63 : q0 + 3 < s.size := by omega
      clear hq0
      obtain ⟨q1, hq1⟩ : ∃ q, q = q0 + 1 := ⟨_, rfl⟩
      obtain ⟨q2, hq2⟩ : ∃ q, q = q0 + 2 := ⟨_, rfl⟩
      obtain ⟨q3, hq3⟩ : ∃ q, q = q0 + 3 := ⟨_, rfl⟩
      rw [← hq1, ← hq2, ← hq3] at hW
      have k0 : q0 < s.size := by omega
      have k1 : q1 < s.size := by omega
      have k2 : q2 < s.size := by omega
      have k3 : q3 < s.size := by omega
      have e1 : (q0 : Int) + 1 = (q1 : Int) := by omega
      have e2 : (q0 : Int) + 2 = (q2 : Int) := by omega
      have e3 : (q0 : Int) + 3 = (q3 : Int) := by omega
      have v0 : IntKind.i64.wrap (q0 : Int) = (q0 : Int) := IntWalk.i64_in _ (by omega)
      have v1 : IntKind.i64.wrap (q1 : Int) = (q1 : Int) := IntWalk.i64_in _ (by omega)
      have v2 : IntKind.i64.wrap (q2 : Int) = (q2 : Int) := IntWalk.i64_in _ (by omega)
      have v3 : IntKind.i64.wrap (q3 : Int) = (q3 : Int) := IntWalk.i64_in _ (by omega)
      clear hs hsz hq1 hq2 hq3 hq63
      have p0 : (0 : Int) ≤ (q0 : Int) := by omega
      have p1 : (0 : Int) ≤ (q1 : Int) := by omega
      have p2 : (0 : Int) ≤ (q2 : Int) := by omega
      have p3 : (0 : Int) ≤ (q3 : Int) := by omega
      have o0 : (q0 : Int) < (s.size : Int) := by omega
      have o1 : (q1 : Int) < (s.size : Int) := by omega
      have o2 : (q2 : Int) < (s.size : Int) := by omega
      have o3 : (q3 : Int) < (s.size : Int) := by omega
      have b0 := (HBK.out q0 k0).symm
      have b1 := (HBK.out q1 k1).symm
      have b2 := (HBK.out q2 k2).symm
      have b3 := (HBK.out q3 k3).symm
      have l0 := hBl q0
      have l1 := hBl q1
      have l2 := hBl q2
      have l3 := hBl q3
      obtain ⟨y0, hy0⟩ : ∃ y, y = B q0 := ⟨_, rfl⟩
      obtain ⟨y1, hy1⟩ : ∃ y, y = B q1 := ⟨_, rfl⟩
      obtain ⟨y2, hy2⟩ : ∃ y, y = B q2 := ⟨_, rfl⟩
      obtain ⟨y3, hy3⟩ : ∃ y, y = B q3 := ⟨_, rfl⟩
      rw [← hy0] at b0 l0 hW
      rw [← hy1] at b1 l1 hW
      rw [← hy2] at b2 l2 hW
      rw [← hy3] at b3 l3 hW
      have u0 : IntKind.u32.wrap (y0 : Int) = (y0 : Int) := by rw [wrap_u32]; omega
      have u1 : IntKind.u32.wrap (y1 : Int) = (y1 : Int) := by rw [wrap_u32]; omega
      have u2 : IntKind.u32.wrap (y2 : Int) = (y2 : Int) := by rw [wrap_u32]; omega
      have u3 : IntKind.u32.wrap (y3 : Int) = (y3 : Int) := by rw [wrap_u32]; omega
      have t0 : IntKind.u32.wrap ((y0 : Int) * 16777216) = ((y0 * 16777216 : Nat) : Int) := by rw [wrap_u32]; omega
      have t1 : IntKind.u32.wrap ((y1 : Int) * 65536) = ((y1 * 65536 : Nat) : Int) := by rw [wrap_u32]; omega
      have t2 : IntKind.u32.wrap ((y2 : Int) * 256) = ((y2 * 256 : Nat) : Int) := by rw [wrap_u32]; omega
      have r0 := u32_or (y0 * 16777216) (y1 * 65536) (by omega) (by omega)
      have r1 := u32_or (y0 * 16777216 ||| y1 * 65536) (y2 * 256) (or_lt (by omega) (by omega)) (by omega)
      have r2 := u32_or (y0 * 16777216 ||| y1 * 65536 ||| y2 * 256) y3 (or_lt (or_lt (by omega) (by omega)) (by omega)) (by omega)
      have HOR := Lib.hid (or4 y0 y1 y2 y3 l0 l1 l2 l3)
      rw [HOR.out, ← hW] at r2
      have HS2 := Lib.hid hS
      have c0 := hS.r.cell (i := j) (v := v32 0) (by rw [List.getElem?_map, ringA_at B hlt]; rfl)
      have f0 := hS.r.frozen j
      have i1 : (0 : Int) ≤ (j : Int) := by omega
      have i2 : (j : Int) < 16 := by omega
      clear hy0 hy1 hy2 hy3 hW hS
      go_upto_region 4 with fail
      refine wp_region_still_tail 31 (by kernel_rfl) (by kernel_rfl) ?_
      simp only [List.take_succ_cons, List.take_zero, List.drop_succ_cons, List.drop_zero]
      rw [World.drew_eq]
      repeat still_step
      refine wpStill_nil ?_
      go_wp2
      have hval : bits .or .u32 (bits .or .u32 (bits .or .u32 ((y0 : Int) * 16777216) ((y1 : Int) * 65536)) ((y2 : Int) * 256)) (y3 : Int) = ((wW B j : Nat) : Int) := by
        rw [show (y0 : Int) * 16777216 = ((y0 * 16777216 : Nat) : Int) by omega, show (y1 : Int) * 65536 = ((y1 * 65536 : Nat) : Int) by omega, show (y2 : Int) * 256 = ((y2 * 256 : Nat) : Int) by omega, r0, r1, r2]
      rw [hval]
      have hring := HS2.out.ring (w' := wr.setCell ⟨pw, j, none⟩ (.int .u32 (wW B j : Nat))) (cs' := ringA B (j + 1)) (by
        have h := Blk.set HS2.out.r j (.int .u32 (wW B j : Nat))
        rw [← ringA_set B hlt, List.map_set]
        exact h) (grown_set (grown_refl _ _) _ _)
      exact ⟨⟨j + 1, by go_num, by omega, hring.drew⟩, by simp [intOf]; omega⟩
    · have hj16 : j = 16 := by omega
      rw [hj16] at hS
      have HS3 := Lib.hid hS
      obtain ⟨va, vb, vc, vd, ve, vf, vg, vh, hvv⟩ : ∃ a b c d e f g h : Nat, v = ⟨a, b, c, d, e, f, g, h⟩ := by cases v; exact ⟨_, _, _, _, _, _, _, _, rfl⟩
      have hvl : v.list = [va, vb, vc, vd, ve, vf, vg, vh] := by rw [hvv]; rfl
      have cm : ∀ (i : Nat) (x : Nat), ([va, vb, vc, vd, ve, vf, vg, vh] : List Nat)[i]? = some x → wr.cell? ⟨pm, 64 + i, none⟩ = some (.int .u32 (x : Nat)) := fun i x hx => HS3.out.m.cell (i := 64 + i) (v := v32 x) (by
        unfold mixC
        rw [List.getElem?_append_right (by rw [List.length_map, HKL.out.1]; omega), List.length_map, HKL.out.1, show 64 + i - 64 = i by omega, List.getElem?_map]
        rw [hvl, hx]; rfl)
      have m0 := cm 0 _ rfl
      have m1 := cm 1 _ rfl
      have m2 := cm 2 _ rfl
      have m3 := cm 3 _ rfl
      have m4 := cm 4 _ rfl
      have m5 := cm 5 _ rfl
      have m6 := cm 6 _ rfl
      have m7 := cm 7 _ rfl
      simp only [Nat.reduceAdd] at m0 m1 m2 m3 m4 m5 m6 m7
      clear cm hj16 hS
      obtain ⟨V2, hV2⟩ : ∃ V, V = wr.alloc (Obj.cells #[.int .u32 va, .int .u32 vb, .int .u32 vc, .int .u32 vd, .int .u32 ve, .int .u32 vf, .int .u32 vg, .int .u32 vh] 70) := ⟨_, rfl⟩
      obtain ⟨pv, hpv⟩ : ∃ p, p = wr.heap.size := ⟨_, rfl⟩
      have HV2 := Lib.hid hV2
      have HPV := Lib.hid hpv
      clear hV2 hpv
      go_upto_region 7 with fail
      rw [← HPV.out, ← HV2.out]
      have hS2 : BlS w V2 pm pw KL v (ringA B 16) := by rw [HV2.out]; exact HS3.out.beside _
      have hX2 : Blk V2 pv (v.list.map v32) 70 := by rw [hvl, HV2.out, HPV.out]; exact Blk.new wr [v32 va, v32 vb, v32 vc, v32 vd, v32 ve, v32 vf, v32 vg, v32 vh] _
      have hpp : pw < pv := by rw [HPV.out]; exact HS3.out.r.lt
      have H2 := Lib.hid (And.intro hS2 hX2)
      clear m0 m1 m2 m3 m4 m5 m6 m7 hS2 hX2 hvv hvl HV2 HPV HS3
      go_wp2_with fail
      go_loopw [51] (fun i wr => ∃ (n : Nat) (cs : List Nat), i = .int .i64 n ∧ n ≤ 64 ∧ BlS w wr pm pw KL v cs ∧ RingOk B (max n 16) cs ∧ Blk wr pv ((rnds K B v n).list.map v32) 70) (fun i _ => 64 - (intOf i).toNat)
      case atStart => exact ⟨0, ringA B 16, by go_num, by omega, H2.out.1, ringA_ok B, H2.out.2⟩
      case round =>
        clear H2
        obtain ⟨n, cs, rfl, hn, hS, hR, hX⟩ := hrel
        by_cases hlt : n < 64
        · have hul := rnds_lt (K := K) (B := B) HV.out n
          have hnx : rnds K B v (n + 1) = rnd (K n) (wW B n) (rnds K B v n) := rfl
          obtain ⟨u, hu⟩ : ∃ u, u = rnds K B v n := ⟨_, rfl⟩
          rw [← hu] at hul hnx hX
          have HNX := Lib.hid hnx
          clear hu hnx
          obtain ⟨a, b, c, d, e, f, g, h⟩ := u
          obtain ⟨la, lb, lc, ld, le, lf, lg, lh⟩ := hul
          simp only at la lb lc ld le lf lg lh
          have lW := wW_lt B hBl n
          have hkn : KL[n]? = some (K n) := by rw [HK.out]; simp only; rw [List.getD_eq_getElem?_getD, List.getElem?_eq_getElem (by rw [HKL.out.1]; exact hlt)]; rfl
          have lK : K n < 4294967296 := HKL.out.2 _ (List.mem_of_getElem? hkn)
          have HWD : Hid (∀ W, BlS w W pm pw KL v cs → Calls Try.prog 116 #[.pointer (some ⟨pw, 0, none⟩), .int .i64 n] W fun e w' => e = .returned (.int .u32 (wW B n : Nat)) ∧ BlS w w' pm pw KL v (if n < 16 then cs else cs.set (n % 16) (wW B n)) ∧ W.grownBy w' (some pw)) := Lib.hid (fun W hw => by
            by_cases h16 : n < 16
            · rw [if_pos h16]
              refine (word_lo W pw n B cs h16 (by rw [show max n 16 = 16 by omega] at hR; exact hR) hw.r).mono ?_
              rintro e w' ⟨rfl, rfl⟩
              exact ⟨rfl, hw, grown_refl _ _⟩
            · rw [if_neg h16]
              refine (word_hi W pw n B hBl cs (by omega) hlt (by rw [show max n 16 = n by omega] at hR; exact hR) hw.r).mono ?_
              rintro e w' ⟨rfl, h1, h2⟩
              exact ⟨rfl, hw.ring h1 h2, h2⟩)
          have HR2 : Hid (RingOk B (max (n + 1) 16) (if n < 16 then cs else cs.set (n % 16) (wW B n))) := Lib.hid (by
            by_cases h16 : n < 16
            · rw [if_pos h16, show max (n + 1) 16 = 16 by omega]; rw [show max n 16 = 16 by omega] at hR; exact hR
            · rw [if_neg h16, show max (n + 1) 16 = n + 1 by omega]; rw [show max n 16 = n by omega] at hR; exact hR.next)
          obtain ⟨cs2, hcs2⟩ : ∃ c2, c2 = (if n < 16 then cs else cs.set (n % 16) (wW B n)) := ⟨_, rfl⟩
          rw [← hcs2] at HWD HR2
          obtain ⟨WN, hWN⟩ : ∃ WN, WN = wW B n := ⟨_, rfl⟩
          rw [← hWN] at HWD lW HNX
          obtain ⟨KN, hKN⟩ : ∃ KN, KN = K n := ⟨_, rfl⟩
          rw [← hKN] at lK HNX hkn
          have x1 := u32_xor (rotW e 6) (rotW e 11) (rotW_lt _ _ le) (rotW_lt _ _ le)
          have x2 := u32_xor (rotW e 6 ^^^ rotW e 11) (rotW e 25) (xor_lt (rotW_lt _ _ le) (rotW_lt _ _ le)) (rotW_lt _ _ le)
          have x3 := u32_xor f g lf lg
          have x4 := u32_and e (f ^^^ g) le (xor_lt lf lg)
          have x5 := u32_xor g (e &&& (f ^^^ g)) lg (and_lt (xor_lt lf lg))
          have lF := f1_lt le
          have lC := ch_lt (e := e) lf lg
          have HT : Hid (tOf KN WN ⟨a, b, c, d, e, f, g, h⟩ = h + f1 e + chN e f g + KN + WN) := Lib.hid rfl
          have x2' : bits .xor .u32 ((rotW e 6 ^^^ rotW e 11 : Nat) : Int) ((rotW e 25 : Nat) : Int) = ((f1 e : Nat) : Int) := x2
          have x5' : bits .xor .u32 (g : Int) ((e &&& (f ^^^ g) : Nat) : Int) = ((chN e f g : Nat) : Int) := x5
          obtain ⟨F1, hF1⟩ : ∃ F, F = f1 e := ⟨_, rfl⟩
          obtain ⟨CH, hCH⟩ : ∃ C, C = chN e f g := ⟨_, rfl⟩
          rw [← hF1] at lF HT x2'
          rw [← hCH] at lC HT x5'
          have i1 : (0 : Int) ≤ (n : Int) := by omega
          have i2 : (n : Int) < 64 := by omega
          have cK : ∀ W, BlS w W pm pw KL v cs ∨ BlS w W pm pw KL v cs2 → W.cell? ⟨pm, n, none⟩ = some (.int .u32 (KN : Nat)) := fun W hw => by
            have hm : Blk W pm (mixC KL v) 72 := hw.elim (fun q => q.m) (fun q => q.m)
            exact hm.cell (i := n) (v := v32 KN) (by unfold mixC; rw [List.getElem?_append_left (by rw [List.length_map, HKL.out.1]; exact hlt), List.getElem?_map, hkn]; rfl)
          have CK := Lib.hid cK
          have HS := Lib.hid hS
          have HX := Lib.hid hX
          clear cK x2 x5 hF1 hCH hcs2 hWN hKN hkn hS hX hR
          go_upto_region 10 with fail
          go_cut [8] (fun t wx => t = .int .u32 ((tOf KN WN ⟨a, b, c, d, e, f, g, h⟩ % 4294967296 : Nat) : Int) ∧ BlS w wx pm pw KL v cs2 ∧ Blk wx pv ((⟨a, b, c, d, e, f, g, h⟩ : V8).list.map v32) 70)
          case first =>
            have hS : BlS w wr.drew pm pw KL v cs := HS.out.drew
            have hX : Blk wr.drew pv ((⟨a, b, c, d, e, f, g, h⟩ : V8).list.map v32) 70 := HX.out
            have hK := CK.out _ (.inl hS)
            go_region_held3 (fun w' => w'.cell? ⟨pv, 4, none⟩ = some (.int .u32 (e : Nat)) ∧ w'.cell? ⟨pv, 5, none⟩ = some (.int .u32 (f : Nat)) ∧ w'.cell? ⟨pv, 6, none⟩ = some (.int .u32 (g : Nat)) ∧ w'.cell? ⟨pv, 7, none⟩ = some (.int .u32 (h : Nat)) ∧ w'.cell? ⟨pm, n, none⟩ = some (.int .u32 (KN : Nat)))
              (exact ⟨hX.cell (i := 4) (v := v32 e) rfl, hX.cell (i := 5) (v := v32 f) rfl, hX.cell (i := 6) (v := v32 g) rfl, hX.cell (i := 7) (v := v32 h) rfl, hK⟩)
              (first
                | (go_at_call_of 115 (Value.int .i64 6); ((with_reducible refine (turn_6 e le _).mono ?_)); rintro e' w4 ⟨rfl, rfl⟩)
                | (go_at_call_of 115 (Value.int .i64 11); ((with_reducible refine (turn_11 e le _).mono ?_)); rintro e' w4 ⟨rfl, rfl⟩)
                | (go_at_call_of 115 (Value.int .i64 25); ((with_reducible refine (turn_25 e le _).mono ?_)); rintro e' w4 ⟨rfl, rfl⟩)
                | (go_at_call 116; ((with_reducible refine (HWD.out _ hS).mono ?_)); rintro e' w4 ⟨rfl, hS4, hG4⟩; replace hX := hX.grown hG4 (by simp; omega); clear hK; have hK := CK.out _ (.inr hS4)))
            all_goals
              go_wp2_with fail
              go_meet
              case rel => exact ⟨congrArg (Value.int .u32) (by simp only [wrap_u32]; have := HT.out; omega), hS4, hX⟩
          case rest =>
            obtain ⟨rfl, hS, hX⟩ := hcut
            obtain ⟨T, hT⟩ : ∃ T, T = tOf KN WN ⟨a, b, c, d, e, f, g, h⟩ := ⟨_, rfl⟩
            have HNX2 : Hid (rnds K B v (n + 1) = ⟨(T + (f0 a + majN a b c)) % 4294967296, a, b, c, (d + T) % 4294967296, e, f, g⟩) := Lib.hid (by rw [HNX.out, hT]; rfl)
            rw [← hT]
            have lT : T % 4294967296 < 4294967296 := Nat.mod_lt _ (by decide)
            obtain ⟨TM, hTM⟩ : ∃ TM, TM = T % 4294967296 := ⟨_, rfl⟩
            rw [← hTM] at lT
            rw [← hTM]
            have HTM := Lib.hid hTM
            have y1 := u32_xor (rotW a 2) (rotW a 13) (rotW_lt _ _ la) (rotW_lt _ _ la)
            have y2 : bits .xor .u32 ((rotW a 2 ^^^ rotW a 13 : Nat) : Int) ((rotW a 22 : Nat) : Int) = ((f0 a : Nat) : Int) := u32_xor (rotW a 2 ^^^ rotW a 13) (rotW a 22) (xor_lt (rotW_lt _ _ la) (rotW_lt _ _ la)) (rotW_lt _ _ la)
            have y3 := u32_and a b la lb
            have y4 := u32_or a b la lb
            have y5 := u32_and c (a ||| b) lc (or_lt la lb)
            have y6 : bits .or .u32 ((a &&& b : Nat) : Int) ((c &&& (a ||| b) : Nat) : Int) = ((majN a b c : Nat) : Int) := u32_or (a &&& b) (c &&& (a ||| b)) (and_lt lb) (and_lt (or_lt la lb))
            have lF0 := f0_lt la
            have lMJ := maj_lt (c := c) la lb
            obtain ⟨F0, hF0⟩ : ∃ F, F = f0 a := ⟨_, rfl⟩
            obtain ⟨MJ, hMJ⟩ : ∃ C, C = majN a b c := ⟨_, rfl⟩
            rw [← hF0] at lF0 HNX2 y2
            rw [← hMJ] at lMJ HNX2 y6
            have z0 := hX.cell (i := 0) (v := v32 a) rfl
            have z1 := hX.cell (i := 1) (v := v32 b) rfl
            have z2 := hX.cell (i := 2) (v := v32 c) rfl
            unfold v32 at z0 z1 z2
            have HSX := Lib.hid (And.intro hS hX)
            clear x1 x2' x3 x4 x5' hF0 hMJ hTM hT hS hX HT HNX CK HS HX HWD lF lC
            go_upto_region 11 with fail
            go_quiet (first | (go_at_call_of 115 (Value.int .i64 2); refine Calls.quiet_of_same (turn_2 a la _)) | (go_at_call_of 115 (Value.int .i64 13); refine Calls.quiet_of_same (turn_13 a la _)) | (go_at_call_of 115 (Value.int .i64 22); refine Calls.quiet_of_same (turn_22 a la _)))
            obtain ⟨W2, hW2⟩ : ∃ W, W = wc.drewN nq := ⟨_, rfl⟩
            have hS := HSX.out.1.drewN nq
            have hX : Blk (wc.drewN nq) pv ((⟨a, b, c, d, e, f, g, h⟩ : V8).list.map v32) 70 := HSX.out.2
            rw [← hW2] at hS hX
            rw [← hW2]
            have z0 := hX.cell (i := 0) (v := v32 a) rfl
            have z1 := hX.cell (i := 1) (v := v32 b) rfl
            have z2 := hX.cell (i := 2) (v := v32 c) rfl
            have z3 := hX.cell (i := 3) (v := v32 d) rfl
            have z4 := hX.cell (i := 4) (v := v32 e) rfl
            have z5 := hX.cell (i := 5) (v := v32 f) rfl
            have z6 := hX.cell (i := 6) (v := v32 g) rfl
            have z7 := hX.cell (i := 7) (v := v32 h) rfl
            have e0 := hX.frozen 0
            have e1 := hX.frozen 1
            have e2 := hX.frozen 2
            have e3 := hX.frozen 3
            have e4 := hX.frozen 4
            have e5 := hX.frozen 5
            have e6 := hX.frozen 6
            have e7 := hX.frozen 7
            have HSX := Lib.hid (And.intro hS hX)
            clear hW2 hS hX y1 y2 y3 y4 y5 y6
            unfold v32 at z0 z1 z2 z3 z4 z5 z6 z7
            go_wp2
            have q1 : ((TM : Int) + ((F0 : Int) + (MJ : Int))) % 4294967296 = (((T + (F0 + MJ)) % 4294967296 : Nat) : Int) := by have := HTM.out; omega
            have q2 : ((d : Int) + (TM : Int)) % 4294967296 = (((d + T) % 4294967296 : Nat) : Int) := by have := HTM.out; omega
            rw [q1, q2]
            refine ⟨⟨n + 1, cs2, by go_num, by omega, (((((((HSX.out.1.setq _ _ _ hpp).setq _ _ _ hpp).setq _ _ _ hpp).setq _ _ _ hpp).setq _ _ _ hpp).setq _ _ _ hpp).setq _ _ _ hpp).setq _ _ _ hpp, HR2.out, ?_⟩, by simp [intOf]; omega⟩
            rw [HNX2.out]
            exact (((((((HSX.out.2.set 0 _).set 1 _).set 2 _).set 3 _).set 4 _).set 5 _).set 6 _).set 7 _
        · have hn64 : n = 64 := by omega
          rw [hn64] at hX
          obtain ⟨u, hu⟩ : ∃ u, u = rnds K B v 64 := ⟨_, rfl⟩
          have hfin : blkV K B v = addV v u := by rw [hu]; rfl
          rw [← hu] at hX
          have HFIN := Lib.hid hfin
          have hul : u.lt := by rw [hu]; exact rnds_lt HV.out 64
          have HUL := Lib.hid hul
          have z0 := hX.cell (i := 0) (v := v32 u.a) rfl
          have z1 := hX.cell (i := 1) (v := v32 u.b) rfl
          have z2 := hX.cell (i := 2) (v := v32 u.c) rfl
          have z3 := hX.cell (i := 3) (v := v32 u.d) rfl
          have z4 := hX.cell (i := 4) (v := v32 u.e) rfl
          have z5 := hX.cell (i := 5) (v := v32 u.f) rfl
          have z6 := hX.cell (i := 6) (v := v32 u.g) rfl
          have z7 := hX.cell (i := 7) (v := v32 u.h) rfl
          unfold v32 at z0 z1 z2 z3 z4 z5 z6 z7
          have HS4 := Lib.hid (And.intro hS.m hS.g)
          clear hu hfin hul hX hS hR hn64
          go_wp2_with fail
          go_loopw [138] (fun i wr => ∃ j : Nat, i = .int .i64 j ∧ j ≤ 8 ∧ Blk wr pm (KL.map v32 ++ (hmix v u j).map v32) 72 ∧ w.grownBy wr (some pm)) (fun i _ => 8 - (intOf i).toNat)
          case atStart => exact ⟨0, by go_num, by omega, by have := HS4.out.1; unfold mixC at this; exact this, HS4.out.2⟩
          case round =>
            clear HS4 z0 z1 z2 z3 z4 z5 z6 z7
            obtain ⟨j, rfl, hj, hM, hG⟩ := hrel
            by_cases hlt : j < 8
            · obtain ⟨x, y, hx, hy, hc, hset⟩ := hmix_at v u hlt
              have hcx := hM.cell (i := 64 + j) (v := v32 x) (by rw [List.getElem?_append_right (by rw [List.length_map, HKL.out.1]; omega), List.length_map, HKL.out.1, show 64 + j - 64 = j by omega, List.getElem?_map, hc]; rfl)
              have hfx := hM.frozen (64 + j)
              have lx : x < 4294967296 := V8.lt_at HV.out hx
              have ly : y < 4294967296 := V8.lt_at HUL.out hy
              unfold v32 at hcx
              have HM := Lib.hid (And.intro hM hG)
              have i1 : (0 : Int) ≤ (j : Int) := by omega
              have i2 : (j : Int) < 8 := by omega
              clear hM hG
              have hidx : ∀ W, (Instr.index 70 (Value.agg #[.int .u32 (u.a : Nat), .int .u32 (u.b : Nat), .int .u32 (u.c : Nat), .int .u32 (u.d : Nat), .int .u32 (u.e : Nat), .int .u32 (u.f : Nat), .int .u32 (u.g : Nat), .int .u32 (u.h : Nat)]) (.int .i64 (j : Nat))).run Try.prog W = .ok (.int .u32 (y : Nat)) W := by
                intro W
                have hj8 : j = 0 ∨ j = 1 ∨ j = 2 ∨ j = 3 ∨ j = 4 ∨ j = 5 ∨ j = 6 ∨ j = 7 := by omega
                rcases hj8 with rfl | rfl | rfl | rfl | rfl | rfl | rfl | rfl <;> (injection hy with hy; rw [← hy]; rfl)
              have HSET := Lib.hid hset
              clear hset hx hy hc
              go_upto_region 17 with fail
              refine wp_region_still_tail 11 (by kernel_rfl) (by kernel_rfl) ?_
              simp only [List.take_succ_cons, List.take_zero, List.drop_succ_cons, List.drop_zero]
              rw [World.drew_eq]
              repeat still_step
              refine wpStill_nil ?_
              go_wp2
              have hval : ((x : Int) + (y : Int)) % 4294967296 = (((x + y) % 4294967296 : Nat) : Int) := by omega
              rw [hval]
              refine ⟨⟨j + 1, by go_num, by omega, ?_, grown_drew (grown_set HM.out.2 _ _)⟩, by simp [intOf]; omega⟩
              have hb := Blk.set HM.out.1 (64 + j) (v32 ((x + y) % 4294967296))
              rw [List.set_append_right _ _ (by rw [List.length_map, HKL.out.1]; omega), List.length_map, HKL.out.1, show 64 + j - 64 = j by omega, ← List.map_set, HSET.out] at hb
              exact hb
            · have hj8 : j = 8 := by omega
              rw [hj8] at hM
              have HM := Lib.hid (And.intro hM hG)
              clear hM hG
              go_wp2
              go_end0
              refine ⟨rfl, ?_, HM.out.2⟩
              rw [HFIN.out]
              exact HM.out.1
end Go.Proofs.Ytgemhgllifhckaa
