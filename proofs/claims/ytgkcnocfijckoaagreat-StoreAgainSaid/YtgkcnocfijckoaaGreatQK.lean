/- Numbers as bytes, seven bits each, and how they are read again: the plain law. No conditions. -/
import Derived.WalkKit
import Derived.Laws.Bits64b
import Derived.IntWalk
namespace Go.Proofs.YtgkcnocfijckoaaGreat
set_option linter.unusedVariables false
/-- a number's bytes -/
def numL (n : Nat) : List UInt8 := if h : n < 128 then [UInt8.ofNat n] else UInt8.ofNat (n % 128 + 128) :: numL (n / 128)
termination_by n
decreasing_by omega
theorem numL_lt {n : Nat} (h : n < 128) : numL n = [UInt8.ofNat n] := by rw [numL, dif_pos h]
theorem numL_ge {n : Nat} (h : ¬ n < 128) : numL n = UInt8.ofNat (n % 128 + 128) :: numL (n / 128) := by rw [numL, dif_neg h]
theorem numL_len : ∀ (k n : Nat), n < 128 ^ k → 0 < k → (numL n).length ≤ k := by
  intro k
  induction k with
  | zero => intro n _ h; omega
  | succ k ih =>
    intro n hn _
    by_cases h : n < 128
    · rw [numL_lt h]; simp
    · rw [numL_ge h, List.length_cons]
      have hk : 0 < k := by
        rcases k with _ | k
        · omega
        · omega
      have := ih (n / 128) (by rw [Nat.div_lt_iff_lt_mul (by decide)]; rw [Nat.pow_succ] at hn; exact hn) hk
      omega
theorem numL_le9 (n : Nat) (h : n ≤ 4611686018427387903) : (numL n).length ≤ 9 := numL_len 9 n (by omega) (by decide)
theorem numL_pos (n : Nat) : 0 < (numL n).length := by
  by_cases h : n < 128
  · rw [numL_lt h]; simp
  · rw [numL_ge h]; simp
/-- reading on at the place i of a number of which acc is read: the number, what is left, the error -/
def rdNum : Nat → Nat → List UInt8 → Nat × List UInt8 × Nat
  | _, _, [] => (0, [], 3)
  | i, acc, c :: l => if (0 < i ∧ c.toNat = 0) ∨ (i = 8 ∧ 63 < c.toNat) then (0, l, 5) else if c.toNat < 128 then (acc + c.toNat * 128 ^ i, l, 0) else rdNum (i + 1) (acc + c.toNat % 128 * 128 ^ i) l
theorem rdNum_suffix : ∀ (l : List UInt8) (i acc : Nat), ∃ d, l = d ++ (rdNum i acc l).2.1 := by
  intro l
  induction l with
  | nil => intro i acc; exact ⟨[], rfl⟩
  | cons c l ih =>
    intro i acc
    rw [rdNum]
    split
    · exact ⟨[c], rfl⟩
    · split
      · exact ⟨[c], rfl⟩
      · obtain ⟨d, hd⟩ := ih (i + 1) (acc + c.toNat % 128 * 128 ^ i)
        exact ⟨c :: d, by rw [List.cons_append, ← hd]⟩
theorem pow128_8 : 128 ^ 8 = 72057594037927936 := by decide
theorem rdNum_le : ∀ (l : List UInt8) (i acc : Nat), i ≤ 8 → acc < 128 ^ i → (rdNum i acc l).1 ≤ 4611686018427387903 := by
  intro l
  induction l with
  | nil => intro i acc _ _; rw [rdNum]; simp
  | cons c l ih =>
    intro i acc hi ha
    have hp : 0 < 128 ^ i := Nat.pow_pos (by decide)
    rw [rdNum]
    split
    · simp
    · rename_i h1
      split
      · rename_i h2
        show acc + c.toNat * 128 ^ i ≤ _
        by_cases h8 : i = 8
        · subst h8
          have : c.toNat ≤ 63 := by omega
          rw [pow128_8] at ha ⊢
          omega
        · have h7 : 128 ^ i ≤ 128 ^ 7 := Nat.pow_le_pow_right (by decide) (by omega)
          have : c.toNat * 128 ^ i ≤ 127 * 128 ^ 7 := Nat.mul_le_mul (by omega) h7
          have e7 : 128 ^ 7 = 562949953421312 := by decide
          rw [e7] at h7 this
          omega
      · rename_i h2
        have h8 : i ≠ 8 := by omega
        refine ih (i + 1) _ (by omega) ?_
        rw [Nat.pow_succ]
        have : c.toNat % 128 * 128 ^ i ≤ 127 * 128 ^ i := Nat.mul_le_mul_right _ (by omega)
        omega
theorem toNat_ofNat8 {n : Nat} (h : n < 256) : (UInt8.ofNat n).toNat = n := by simp; omega
/-- what was written is read -/
theorem rdNum_numL : ∀ (k n i acc : Nat) (r : List UInt8), n < 128 ^ k → 0 < k → i + k ≤ 9 → (i + k = 9 → n < 64 * 128 ^ (k - 1)) → (0 < i → 0 < n) → rdNum i acc (numL n ++ r) = (acc + n * 128 ^ i, r, 0) := by
  intro k
  induction k with
  | zero => intro n i acc r _ h; omega
  | succ k ih =>
    intro n i acc r hn _ hi h64 h0
    by_cases h : n < 128
    · rw [numL_lt h, List.singleton_append, rdNum, toNat_ofNat8 (by omega), if_neg, if_pos h]
      rintro (⟨a, b⟩ | ⟨a, b⟩)
      · have := h0 a; omega
      · have : k = 0 := by omega
        subst this
        have := h64 (by omega)
        simp at this; omega
    · have hk : 0 < k := by
        rcases k with _ | k
        · simp at hn; omega
        · omega
      rw [numL_ge h, List.cons_append, rdNum, toNat_ofNat8 (by omega), if_neg, if_neg (by omega), ih (n / 128) (i + 1) _ r _ hk (by omega)]
      · have e1 : (n % 128 + 128) % 128 = n % 128 := by omega
        have e2 : n / 128 * 128 ^ (i + 1) = n / 128 * 128 * 128 ^ i := by rw [Nat.pow_succ, Nat.mul_assoc, Nat.mul_comm (128 ^ i)]
        rw [e1, e2, Nat.add_assoc, ← Nat.add_mul]
        have e3 : n % 128 + n / 128 * 128 = n := by omega
        rw [e3]
      · intro h9
        have := h64 (by omega)
        rw [Nat.div_lt_iff_lt_mul (by decide)]
        have e4 : 64 * 128 ^ (k - 1) * 128 = 64 * 128 ^ (k + 1 - 1) := by
          rw [Nat.mul_assoc, ← Nat.pow_succ]; congr 2; omega
        rw [e4]; exact this
      · intro _; omega
      · rw [Nat.div_lt_iff_lt_mul (by decide)]; rw [Nat.pow_succ] at hn; exact hn
      · rintro (⟨a, b⟩ | ⟨a, b⟩)
        · omega
        · omega
theorem rdNum_back (n : Nat) (r : List UInt8) (h : n ≤ 4611686018427387903) : rdNum 0 0 (numL n ++ r) = (n, r, 0) := by
  rw [rdNum_numL 9 n 0 0 r (by omega) (by decide) (by decide) (by intro _; omega) (by omega)]
  simp
/-- what is read was written so -/
theorem rdNum_form : ∀ (l : List UInt8) (i acc : Nat), (rdNum i acc l).2.2 = 0 → ∃ n, (0 < i → 0 < n) ∧ (rdNum i acc l).1 = acc + n * 128 ^ i ∧ l = numL n ++ (rdNum i acc l).2.1 := by
  intro l
  induction l with
  | nil => intro i acc h; rw [rdNum] at h; simp at h
  | cons c l ih =>
    intro i acc h
    have hc := c.toNat_lt
    rw [rdNum] at h ⊢
    split at h
    · simp at h
    · rename_i h1
      rw [if_neg h1]
      split at h
      · rename_i h2
        rw [if_pos h2]
        refine ⟨c.toNat, fun hi => ?_, rfl, ?_⟩
        · rcases Nat.eq_zero_or_pos c.toNat with h3 | h3
          · exact absurd (.inl ⟨hi, h3⟩) h1
          · exact h3
        · rw [numL_lt h2]
          simp
      · rename_i h2
        rw [if_neg h2]
        obtain ⟨n, hn0, hn1, hn2⟩ := ih _ _ h
        have hn := hn0 (by omega)
        refine ⟨c.toNat % 128 + 128 * n, fun _ => by omega, ?_, ?_⟩
        · rw [hn1, Nat.pow_succ, Nat.add_mul]
          have : 128 * n * 128 ^ i = n * (128 ^ i * 128) := by rw [Nat.mul_comm 128 n, Nat.mul_assoc, Nat.mul_comm 128]
          omega
        · rw [numL_ge (by omega), List.cons_append]
          have e1 : (c.toNat % 128 + 128 * n) % 128 + 128 = c.toNat := by omega
          have e2 : (c.toNat % 128 + 128 * n) / 128 = n := by omega
          rw [e1, e2, ← hn2]
          simp
theorem rdNum_there (l : List UInt8) (h : (rdNum 0 0 l).2.2 = 0) : l = numL (rdNum 0 0 l).1 ++ (rdNum 0 0 l).2.1 ∧ (rdNum 0 0 l).1 ≤ 4611686018427387903 := by
  obtain ⟨n, -, h1, h2⟩ := rdNum_form l 0 0 h
  have h3 : (rdNum 0 0 l).1 = n := by rw [h1]; simp
  refine ⟨by rw [h3]; exact h2, rdNum_le l 0 0 (by decide) (by decide)⟩
/-- a reader: what is left, and the error -/
abbrev RSt := List UInt8 × Nat
def stNum (z : RSt) : Nat × RSt := if z.2 = 0 then ((rdNum 0 0 z.1).1, (rdNum 0 0 z.1).2) else (0, z)
def stRaw (n : Nat) (z : RSt) : List UInt8 × RSt := if z.2 = 0 then (if z.1.length < n then ([], (z.1, 3)) else (z.1.take n, (z.1.drop n, 0))) else ([], z)
def stCount (most : Nat) (z : RSt) : Nat × RSt := if (stNum z).2.2 = 0 ∧ most < (stNum z).1 then (0, ((stNum z).2.1, 4)) else stNum z
def stText (most : Nat) (z : RSt) : List UInt8 × RSt := stRaw (stCount most z).1 (stCount most z).2
def stEnd (z : RSt) : RSt := if z.2 = 0 ∧ z.1 ≠ [] then (z.1, 4) else z
theorem stNum_err {z : RSt} (h : z.2 ≠ 0) : stNum z = (0, z) := if_neg h
theorem stNum_ok {l : List UInt8} : stNum (l, 0) = ((rdNum 0 0 l).1, (rdNum 0 0 l).2) := if_pos rfl
theorem stRaw_err {n : Nat} {z : RSt} (h : z.2 ≠ 0) : stRaw n z = ([], z) := if_neg h
theorem stNum_le (z : RSt) : (stNum z).1 ≤ 4611686018427387903 := by
  unfold stNum
  split
  · exact rdNum_le _ 0 0 (by decide) (by decide)
  · simp
theorem stCount_le (most : Nat) (z : RSt) (h : (stCount most z).2.2 = 0) : (stCount most z).1 ≤ most := by
  unfold stCount at h ⊢
  split
  · simp
  · rename_i h1
    rw [if_neg h1] at h
    have : ¬ most < (stNum z).1 := fun e => h1 ⟨h, e⟩
    omega
theorem stNum_back (n : Nat) (r : List UInt8) (h : n ≤ 4611686018427387903) : stNum (numL n ++ r, 0) = (n, (r, 0)) := by
  rw [stNum_ok, rdNum_back n r h]
theorem stNum_there {z : RSt} (h : (stNum z).2.2 = 0) : z.2 = 0 ∧ z.1 = numL (stNum z).1 ++ (stNum z).2.1 := by
  unfold stNum at h ⊢
  split at h
  · rename_i h0
    rw [if_pos h0]
    exact ⟨h0, (rdNum_there _ h).1⟩
  · rename_i h0; exact absurd h h0
theorem stRaw_back (n : Nat) (d r : List UInt8) (h : d.length = n) : stRaw n (d ++ r, 0) = (d, (r, 0)) := by
  unfold stRaw
  rw [if_pos rfl, if_neg (by simp; omega)]
  subst h
  simp
theorem stRaw_there {n : Nat} {z : RSt} (h : (stRaw n z).2.2 = 0) : z.2 = 0 ∧ z.1 = (stRaw n z).1 ++ (stRaw n z).2.1 ∧ (stRaw n z).1.length = n := by
  unfold stRaw at h ⊢
  split at h
  · rename_i h0
    rw [if_pos h0]
    split at h
    · simp at h
    · rename_i h1
      rw [if_neg h1]
      refine ⟨h0, (List.take_append_drop _ _).symm, ?_⟩
      simp; omega
  · rename_i h0; exact absurd h h0
theorem stCount_there {most : Nat} {z : RSt} (h : (stCount most z).2.2 = 0) : z.2 = 0 ∧ z.1 = numL (stCount most z).1 ++ (stCount most z).2.1 := by
  unfold stCount at h ⊢
  split at h
  · simp at h
  · rename_i h1
    rw [if_neg h1]
    exact stNum_there h
theorem stCount_back (most n : Nat) (r : List UInt8) (h : n ≤ 4611686018427387903) (hm : n ≤ most) : stCount most (numL n ++ r, 0) = (n, (r, 0)) := by
  unfold stCount
  rw [stNum_back n r h, if_neg (by simp; omega)]
/-- what is left is left of it -/
def Left (z y : RSt) : Prop := ∃ d, z.1 = d ++ y.1
theorem Left.refl (z : RSt) : Left z z := ⟨[], rfl⟩
theorem Left.trans {a b c : RSt} (h : Left a b) (k : Left b c) : Left a c := by
  obtain ⟨d, hd⟩ := h
  obtain ⟨e, he⟩ := k
  exact ⟨d ++ e, by rw [hd, he, List.append_assoc]⟩
theorem Left.len {a b : RSt} (h : Left a b) : b.1.length ≤ a.1.length := by obtain ⟨d, hd⟩ := h; rw [hd]; simp
theorem stNum_left (z : RSt) : Left z (stNum z).2 := by
  unfold stNum
  split
  · exact rdNum_suffix _ _ _
  · exact .refl _
theorem stRaw_left (n : Nat) (z : RSt) : Left z (stRaw n z).2 := by
  unfold stRaw
  split
  · split
    · exact ⟨[], rfl⟩
    · exact ⟨z.1.take n, (List.take_append_drop _ _).symm⟩
  · exact .refl _
theorem stCount_left (most : Nat) (z : RSt) : Left z (stCount most z).2 := by
  unfold stCount
  split
  · exact stNum_left z
  · exact stNum_left z
/-- an error stays -/
theorem stNum_keep {z : RSt} (h : z.2 ≠ 0) : (stNum z).2 = z := by rw [stNum_err h]
theorem stRaw_keep {n : Nat} {z : RSt} (h : z.2 ≠ 0) : (stRaw n z).2 = z := by rw [stRaw_err h]
theorem stCount_keep {most : Nat} {z : RSt} (h : z.2 ≠ 0) : stCount most z = (0, z) := by
  unfold stCount
  rw [stNum_err h, if_neg (by intro e; exact h e.1)]
end Go.Proofs.YtgkcnocfijckoaaGreat
namespace Go.Proofs.YtgkcnocfijckoaaGreat
open Go
theorem ofInt_nat (k n : Nat) (h : n < 2 ^ k) : (BitVec.ofInt k (n : Int)).toNat = n := by
  rw [BitVec.ofInt_natCast, BitVec.toNat_ofNat]; exact Nat.mod_eq_of_lt h
theorem i64_and (a b : Nat) (ha : a < 9223372036854775808) (hb : b < 9223372036854775808) : bits .and .i64 (a : Int) (b : Int) = ((a &&& b : Nat) : Int) := by
  have hx : a &&& b < 2 ^ 63 := Nat.and_lt_two_pow _ (by omega)
  show IntKind.i64.wrap ((BitVec.ofInt 64 (a : Int) &&& BitVec.ofInt 64 (b : Int)).toNat : Int) = _
  rw [BitVec.toNat_and, ofInt_nat 64 a (by omega), ofInt_nat 64 b (by omega), IntKind.wrap_i64]
  omega
theorem i64_or (a b : Nat) (ha : a < 9223372036854775808) (hb : b < 9223372036854775808) : bits .or .i64 (a : Int) (b : Int) = ((a ||| b : Nat) : Int) := by
  have hx : a ||| b < 2 ^ 63 := Nat.or_lt_two_pow (by omega) (by omega)
  show IntKind.i64.wrap ((BitVec.ofInt 64 (a : Int) ||| BitVec.ofInt 64 (b : Int)).toNat : Int) = _
  rw [BitVec.toNat_or, ofInt_nat 64 a (by omega), ofInt_nat 64 b (by omega), IntKind.wrap_i64]
  omega
theorem i64_xor (a b : Nat) (ha : a < 9223372036854775808) (hb : b < 9223372036854775808) : bits .xor .i64 (a : Int) (b : Int) = ((a ^^^ b : Nat) : Int) := by
  have hx : a ^^^ b < 2 ^ 63 := Nat.xor_lt_two_pow (by omega) (by omega)
  show IntKind.i64.wrap ((BitVec.ofInt 64 (a : Int) ^^^ BitVec.ofInt 64 (b : Int)).toNat : Int) = _
  rw [BitVec.toNat_xor, ofInt_nat 64 a (by omega), ofInt_nat 64 b (by omega), IntKind.wrap_i64]
  omega
theorem wrap_u32 (n : Int) : IntKind.u32.wrap n = n % 4294967296 := by simp [IntKind.wrap, IntKind.bits, IntKind.signed]
theorem u32_and (a b : Nat) (ha : a < 4294967296) (hb : b < 4294967296) : bits .and .u32 (a : Int) (b : Int) = ((a &&& b : Nat) : Int) := by
  have hx : a &&& b < 2 ^ 32 := Nat.and_lt_two_pow _ (by omega)
  show IntKind.u32.wrap ((BitVec.ofInt 32 (a : Int) &&& BitVec.ofInt 32 (b : Int)).toNat : Int) = _
  rw [BitVec.toNat_and, ofInt_nat 32 a (by omega), ofInt_nat 32 b (by omega), wrap_u32]
  omega
theorem u32_or (a b : Nat) (ha : a < 4294967296) (hb : b < 4294967296) : bits .or .u32 (a : Int) (b : Int) = ((a ||| b : Nat) : Int) := by
  have hx : a ||| b < 2 ^ 32 := Nat.or_lt_two_pow (by omega) (by omega)
  show IntKind.u32.wrap ((BitVec.ofInt 32 (a : Int) ||| BitVec.ofInt 32 (b : Int)).toNat : Int) = _
  rw [BitVec.toNat_or, ofInt_nat 32 a (by omega), ofInt_nat 32 b (by omega), wrap_u32]
  omega
theorem u32_xor (a b : Nat) (ha : a < 4294967296) (hb : b < 4294967296) : bits .xor .u32 (a : Int) (b : Int) = ((a ^^^ b : Nat) : Int) := by
  have hx : a ^^^ b < 2 ^ 32 := Nat.xor_lt_two_pow (by omega) (by omega)
  show IntKind.u32.wrap ((BitVec.ofInt 32 (a : Int) ^^^ BitVec.ofInt 32 (b : Int)).toNat : Int) = _
  rw [BitVec.toNat_xor, ofInt_nat 32 a (by omega), ofInt_nat 32 b (by omega), wrap_u32]
  omega
/-- n & 127 -/
theorem and127 (n : Nat) (h : n < 9223372036854775808) : bits .and .i64 (n : Int) 127 = ((n % 128 : Nat) : Int) := by
  have := i64_and n 127 h (by decide)
  rw [show (127 : Nat) = 2 ^ 7 - 1 from rfl, Nat.and_two_pow_sub_one_eq_mod] at this
  exact this
/-- n & 127 | 128 -/
theorem or128 (m : Nat) (h : m < 128) : bits .or .i64 (m : Int) 128 = ((m + 128 : Nat) : Int) := by
  have := i64_or m 128 (by omega) (by decide)
  have e : m ||| 128 = m + 128 := by
    have h2 := Nat.two_pow_add_eq_or_of_lt (i := 7) (b := m) (by omega) 1
    rw [Nat.or_comm, show (128 : Nat) = 2 ^ 7 * 1 from rfl, ← h2]; omega
  rw [e] at this
  exact this
/-- a number of 7 bits at place i goes on top of what lies below -/
theorem orAdd (acc d i : Nat) (hi : i ≤ 8) (ha : acc < 128 ^ i) (hd : d < 128) (h8 : i = 8 → d ≤ 63) : bits .or .i64 (acc : Int) ((d * 128 ^ i : Nat) : Int) = ((acc + d * 128 ^ i : Nat) : Int) := by
  have hp : 128 ^ i = 2 ^ (7 * i) := by rw [Nat.pow_mul]
  have hb : d * 128 ^ i < 9223372036854775808 ∧ acc < 9223372036854775808 := by
    have h9 : 128 ^ i ≤ 128 ^ 8 := Nat.pow_le_pow_right (by decide) hi
    have e8 : 128 ^ 8 = 72057594037927936 := by decide
    have e7 : 128 ^ 7 = 562949953421312 := by decide
    by_cases h : i = 8
    · subst h
      have := h8 rfl
      omega
    · have h10 : 128 ^ i ≤ 128 ^ 7 := Nat.pow_le_pow_right (by decide) (by omega)
      have : d * 128 ^ i ≤ 127 * 128 ^ 7 := Nat.mul_le_mul (by omega) h10
      omega
  rw [i64_or acc (d * 128 ^ i) hb.2 hb.1]
  have h2 := Nat.two_pow_add_eq_or_of_lt (i := 7 * i) (b := acc) (by rw [← hp]; exact ha) d
  rw [← hp, Nat.mul_comm] at h2
  rw [Nat.or_comm, ← h2, Nat.add_comm]
end Go.Proofs.YtgkcnocfijckoaaGreat
