/- The weak sum of a text, in plain numbers; no program in sight. No conditions. -/
import Derived.WalkKit
namespace Go.Proofs.Ytgemhgllifhckaa
open Go.RowKit

/-- sum of bytes -/
def sa : List UInt8 → Nat
  | [] => 0
  | c :: l => c.toNat + sa l
/-- the weighted sum: n x1 + (n-1) x2 + .. -/
def sb : List UInt8 → Nat
  | [] => 0
  | c :: l => (l.length + 1) * c.toNat + sb l
/-- the weighted sum whose first weight is n -/
def sw : Nat → List UInt8 → Nat
  | _, [] => 0
  | n, c :: l => n * c.toNat + sw (n - 1) l
def weak (l : List UInt8) : Nat := sa l % 65536 + 65536 * (sb l % 65536)

theorem sa_app (l m : List UInt8) : sa (l ++ m) = sa l + sa m := by
  induction l with
  | nil => simp [sa]
  | cons c l ih => simp [sa, ih]; omega
theorem sb_app (l m : List UInt8) : sb (l ++ m) = sb l + m.length * sa l + sb m := by
  induction l with
  | nil => simp [sb, sa]
  | cons c l ih =>
    simp only [List.cons_append, sb, ih, sa, List.length_append]
    rw [Nat.mul_add]
    have h : (l.length + m.length + 1) * c.toNat = (l.length + 1) * c.toNat + m.length * c.toNat := by rw [← Nat.add_mul]; congr 1; omega
    omega
theorem sa_snoc (l : List UInt8) (c : UInt8) : sa (l ++ [c]) = sa l + c.toNat := by rw [sa_app]; simp [sa]
theorem sb_snoc (l : List UInt8) (c : UInt8) : sb (l ++ [c]) = sb l + (sa l + c.toNat) := by rw [sb_app]; simp [sb]; omega
theorem sw_snoc (n : Nat) (l : List UInt8) (c : UInt8) : sw n (l ++ [c]) = sw n l + (n - l.length) * c.toNat := by
  induction l generalizing n with
  | nil => simp [sw]
  | cons d l ih =>
    simp only [List.cons_append, sw, ih, List.length_cons]
    rw [show n - 1 - l.length = n - (l.length + 1) by omega]; omega
theorem sw_len (l : List UInt8) : sw l.length l = sb l := by
  induction l with
  | nil => rfl
  | cons c l ih => simp only [sw, sb, List.length_cons, Nat.add_sub_cancel, ih]
theorem sa_le (l : List UInt8) : sa l ≤ 255 * l.length := by
  induction l with
  | nil => simp [sa]
  | cons c l ih => have := c.toNat_lt; simp [sa]; omega
theorem sb_le (l : List UInt8) : sb l ≤ 255 * (l.length * l.length) := by
  induction l with
  | nil => simp [sb]
  | cons c l ih =>
    have := c.toNat_lt
    have h : (l.length + 1) * c.toNat ≤ (l.length + 1) * 255 := Nat.mul_le_mul_left _ (by omega)
    have e : (l.length + 1) * (l.length + 1) = l.length * l.length + 2 * l.length + 1 := by rw [Nat.add_mul, Nat.mul_add]; omega
    simp only [sb, List.length_cons]
    omega
theorem sb_le_k (l : List UInt8) (n : Nat) (h : l.length ≤ n) : sb l ≤ 255 * (n * n) := by
  have := sb_le l
  have h2 : l.length * l.length ≤ n * n := Nat.mul_le_mul h h
  omega
theorem weak_lt (l : List UInt8) : weak l < 4294967296 := by unfold weak; omega
theorem take_snoc (s : ByteArray) (k : Nat) (h : k < s.size) : s.data.toList.take (k + 1) = s.data.toList.take k ++ [s[k]] := by
  rw [List.take_succ_eq_append_getElem (by simpa using h)]; rfl
theorem ret_int {k : IntKind} {a b : Int} (h : a = b) : Ending.returned (.int k a) = .returned (.int k b) := by rw [h]
end Go.Proofs.Ytgemhgllifhckaa
