/- SHA-256's words in plain numbers. No conditions. -/
import Derived.Test.YtjahdladcijhoaaBitsN
namespace Go.Proofs.Ytjahdladcijhoaa
open Go
set_option linter.unusedVariables false
set_option linter.unusedSimpArgs false

/-- a word turned right -/
def rot (x n : Nat) : Nat := (x * 2 ^ (32 - n)) % 4294967296 ||| x / 2 ^ n
theorem rot_lt (x n : Nat) (hx : x < 4294967296) : rot x n < 4294967296 := by
  unfold rot
  have h1 : x * 2 ^ (32 - n) % 4294967296 < 2 ^ 32 := Nat.mod_lt _ (by decide)
  have h2 : x / 2 ^ n < 2 ^ 32 := Nat.lt_of_le_of_lt (Nat.div_le_self _ _) hx
  exact Nat.or_lt_two_pow h1 h2
def g0 (x : Nat) : Nat := rot x 7 ^^^ rot x 18 ^^^ x / 8
def g1 (x : Nat) : Nat := rot x 17 ^^^ rot x 19 ^^^ x / 1024
def f0 (x : Nat) : Nat := rot x 2 ^^^ rot x 13 ^^^ rot x 22
def f1 (x : Nat) : Nat := rot x 6 ^^^ rot x 11 ^^^ rot x 25
def chN (e f g : Nat) : Nat := g ^^^ (e &&& (f ^^^ g))
def majN (a b c : Nat) : Nat := (a &&& b) ||| (c &&& (a ||| b))
theorem xor_lt {a b : Nat} (ha : a < 4294967296) (hb : b < 4294967296) : a ^^^ b < 4294967296 := Nat.xor_lt_two_pow (n := 32) ha hb
theorem and_lt {a b : Nat} (hb : b < 4294967296) : a &&& b < 4294967296 := Nat.and_lt_two_pow (n := 32) a hb
theorem or_lt {a b : Nat} (ha : a < 4294967296) (hb : b < 4294967296) : a ||| b < 4294967296 := Nat.or_lt_two_pow (n := 32) ha hb
theorem g0_lt {x : Nat} (h : x < 4294967296) : g0 x < 4294967296 := xor_lt (xor_lt (rot_lt x 7 h) (rot_lt x 18 h)) (Nat.lt_of_le_of_lt (Nat.div_le_self _ _) h)
theorem g1_lt {x : Nat} (h : x < 4294967296) : g1 x < 4294967296 := xor_lt (xor_lt (rot_lt x 17 h) (rot_lt x 19 h)) (Nat.lt_of_le_of_lt (Nat.div_le_self _ _) h)
theorem f0_lt {x : Nat} (h : x < 4294967296) : f0 x < 4294967296 := xor_lt (xor_lt (rot_lt x 2 h) (rot_lt x 13 h)) (rot_lt x 22 h)
theorem f1_lt {x : Nat} (h : x < 4294967296) : f1 x < 4294967296 := xor_lt (xor_lt (rot_lt x 6 h) (rot_lt x 11 h)) (rot_lt x 25 h)
theorem ch_lt {e f g : Nat} (hf : f < 4294967296) (hg : g < 4294967296) : chN e f g < 4294967296 := xor_lt hg (and_lt (xor_lt hf hg))
theorem maj_lt {a b c : Nat} (ha : a < 4294967296) (hb : b < 4294967296) : majN a b c < 4294967296 := or_lt (and_lt hb) (and_lt (or_lt ha hb))

/-- the words of a block, the first so many -/
def wNext (B : Nat → Nat) (l : List Nat) (t : Nat) : Nat :=
  if t < 16 then B (4 * t) * 16777216 + B (4 * t + 1) * 65536 + B (4 * t + 2) * 256 + B (4 * t + 3)
  else (l.getD (t - 16) 0 + g0 (l.getD (t - 15) 0) + l.getD (t - 7) 0 + g1 (l.getD (t - 2) 0)) % 4294967296
def wList (B : Nat → Nat) : Nat → List Nat
  | 0 => []
  | t + 1 => wList B t ++ [wNext B (wList B t) t]
def wW (B : Nat → Nat) (t : Nat) : Nat := wNext B (wList B t) t
theorem wList_len (B : Nat → Nat) (t : Nat) : (wList B t).length = t := by
  induction t with
  | zero => rfl
  | succ t ih => rw [wList, List.length_append, ih]; rfl
theorem wList_at (B : Nat → Nat) {t i : Nat} (h : i < t) : (wList B t)[i]? = some (wW B i) := by
  induction t with
  | zero => omega
  | succ t ih =>
    rw [wList]
    by_cases e : i < t
    · rw [List.getElem?_append_left (by rw [wList_len]; exact e)]; exact ih e
    · have : i = t := by omega
      subst this
      rw [List.getElem?_append_right (by rw [wList_len]; exact Nat.le_refl _), wList_len, Nat.sub_self]
      rfl
theorem wList_getD (B : Nat → Nat) {t i : Nat} (h : i < t) : (wList B t).getD i 0 = wW B i := by
  rw [List.getD_eq_getElem?_getD, wList_at B h]; rfl
theorem wW_lo (B : Nat → Nat) {t : Nat} (h : t < 16) : wW B t = B (4 * t) * 16777216 + B (4 * t + 1) * 65536 + B (4 * t + 2) * 256 + B (4 * t + 3) := by
  unfold wW wNext; rw [if_pos h]
theorem wW_hi (B : Nat → Nat) {t : Nat} (h : ¬ t < 16) : wW B t = (wW B (t - 16) + g0 (wW B (t - 15)) + wW B (t - 7) + g1 (wW B (t - 2))) % 4294967296 := by
  unfold wW; rw [wNext, if_neg h, wList_getD B (by omega), wList_getD B (by omega), wList_getD B (by omega), wList_getD B (by omega)]
  rfl
theorem wW_lt (B : Nat → Nat) (hB : ∀ i, B i < 256) (t : Nat) : wW B t < 4294967296 := by
  by_cases h : t < 16
  · rw [wW_lo B h]
    have a := hB (4 * t); have b := hB (4 * t + 1); have c := hB (4 * t + 2); have d := hB (4 * t + 3)
    omega
  · rw [wW_hi B h]; exact Nat.mod_lt _ (by decide)

structure V8 where
  a : Nat
  b : Nat
  c : Nat
  d : Nat
  e : Nat
  f : Nat
  g : Nat
  h : Nat
def V8.lt (v : V8) : Prop := v.a < 4294967296 ∧ v.b < 4294967296 ∧ v.c < 4294967296 ∧ v.d < 4294967296 ∧ v.e < 4294967296 ∧ v.f < 4294967296 ∧ v.g < 4294967296 ∧ v.h < 4294967296
def tOf (K W : Nat) (v : V8) : Nat := v.h + f1 v.e + chN v.e v.f v.g + K + W
def uOf (v : V8) : Nat := f0 v.a + majN v.a v.b v.c
def rnd (K W : Nat) (v : V8) : V8 := ⟨(tOf K W v + uOf v) % 4294967296, v.a, v.b, v.c, (v.d + tOf K W v) % 4294967296, v.e, v.f, v.g⟩
theorem rnd_lt {K W : Nat} {v : V8} (h : v.lt) : (rnd K W v).lt := by
  obtain ⟨h1, h2, h3, h4, h5, h6, h7, h8⟩ := h
  exact ⟨Nat.mod_lt _ (by decide), h1, h2, h3, Nat.mod_lt _ (by decide), h5, h6, h7⟩
/-- so many rounds -/
def rnds (K : Nat → Nat) (B : Nat → Nat) (v : V8) : Nat → V8
  | 0 => v
  | n + 1 => rnd (K n) (wW B n) (rnds K B v n)
theorem rnds_lt {K B : Nat → Nat} {v : V8} (h : v.lt) (n : Nat) : (rnds K B v n).lt := by
  induction n with
  | zero => exact h
  | succ n ih => exact rnd_lt ih
def addV (v u : V8) : V8 := ⟨(v.a + u.a) % 4294967296, (v.b + u.b) % 4294967296, (v.c + u.c) % 4294967296, (v.d + u.d) % 4294967296, (v.e + u.e) % 4294967296, (v.f + u.f) % 4294967296, (v.g + u.g) % 4294967296, (v.h + u.h) % 4294967296⟩
theorem addV_lt (v u : V8) : (addV v u).lt := ⟨Nat.mod_lt _ (by decide), Nat.mod_lt _ (by decide), Nat.mod_lt _ (by decide), Nat.mod_lt _ (by decide), Nat.mod_lt _ (by decide), Nat.mod_lt _ (by decide), Nat.mod_lt _ (by decide), Nat.mod_lt _ (by decide)⟩
/-- a block taken in -/
def blkV (K B : Nat → Nat) (v : V8) : V8 := addV v (rnds K B v 64)
/-- the bytes of a list as numbers -/
def byteAt (l : List UInt8) (i : Nat) : Nat := (l.getD i 0).toNat
theorem byteAt_lt (l : List UInt8) (i : Nat) : byteAt l i < 256 := UInt8.toNat_lt _
/-- so many blocks of a text taken in -/
def blks (K : Nat → Nat) (P : List UInt8) (v : V8) : Nat → V8
  | 0 => v
  | n + 1 => blkV K (byteAt ((P.drop (64 * n)).take 64)) (blks K P v n)
theorem blks_lt {K : Nat → Nat} {P : List UInt8} {v : V8} (h : v.lt) (n : Nat) : (blks K P v n).lt := by
  cases n with
  | zero => exact h
  | succ n => exact addV_lt _ _
def be4 (x : Nat) : List UInt8 := [UInt8.ofNat (x / 16777216), UInt8.ofNat (x / 65536), UInt8.ofNat (x / 256), UInt8.ofNat x]
def V8.list (v : V8) : List Nat := [v.a, v.b, v.c, v.d, v.e, v.f, v.g, v.h]
def outV (v : V8) : List UInt8 := v.list.flatMap be4
/-- what stands behind a text of a length -/
def endingL (n : Nat) : List UInt8 := [128] ++ List.replicate ((119 - n % 64) % 64) 0 ++ (List.range 8).map (fun i => UInt8.ofNat (8 * n / 2 ^ (8 * (7 - i))))
theorem endingL_len (n : Nat) : (n + (endingL n).length) % 64 = 0 := by
  unfold endingL
  simp only [List.length_append, List.length_replicate, List.length_map, List.length_range, List.length_singleton]
  omega
/-- SHA-256 by its tables -/
def shaL (K : Nat → Nat) (H : V8) (s : List UInt8) : List UInt8 := outV (blks K (s ++ endingL s.length) H ((s ++ endingL s.length).length / 64))
theorem outV_len (v : V8) : (outV v).length = 32 := rfl
end Go.Proofs.Ytjahdladcijhoaa
