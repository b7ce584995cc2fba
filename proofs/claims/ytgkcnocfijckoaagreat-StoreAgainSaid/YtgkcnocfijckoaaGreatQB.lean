/- The weak sum of a text, in plain numbers; no program in sight. No conditions. -/
import Derived.WalkKit
import Derived.Test.YtgkcnocfijckoaaGreatChecked
import Derived.Lib.Hide
namespace Go.Proofs.YtgkcnocfijckoaaGreat
open Go.RowKit
/-- sum of bytes -/
def sa : List UInt8 → Nat
  | [] => 0
  | c :: l => c.toNat + sa l
/-- the weighted sum: n x1 + (n-1) x2 + .. -/
def sb : List UInt8 → Nat
  | [] => 0
  | c :: l => (l.length + 1) * c.toNat + sb l
/-- the weighted sum whose first weight is n -/
def sw : Nat → List UInt8 → Nat
  | _, [] => 0
  | n, c :: l => n * c.toNat + sw (n - 1) l
def weak (l : List UInt8) : Nat := sa l % 65536 + 65536 * (sb l % 65536)
theorem sa_app (l m : List UInt8) : sa (l ++ m) = sa l + sa m := by
  induction l with
  | nil => simp [sa]
  | cons c l ih => simp [sa, ih]; omega
theorem sb_app (l m : List UInt8) : sb (l ++ m) = sb l + m.length * sa l + sb m := by
  induction l with
  | nil => simp [sb, sa]
  | cons c l ih =>
    simp only [List.cons_append, sb, ih, sa, List.length_append]
    rw [Nat.mul_add]
    have h : (l.length + m.length + 1) * c.toNat = (l.length + 1) * c.toNat + m.length * c.toNat := by rw [← Nat.add_mul]; congr 1; omega
    omega
theorem sa_snoc (l : List UInt8) (c : UInt8) : sa (l ++ [c]) = sa l + c.toNat := by rw [sa_app]; simp [sa]
theorem sb_snoc (l : List UInt8) (c : UInt8) : sb (l ++ [c]) = sb l + (sa l + c.toNat) := by rw [sb_app]; simp [sb]; omega
theorem sw_snoc (n : Nat) (l : List UInt8) (c : UInt8) : sw n (l ++ [c]) = sw n l + (n - l.length) * c.toNat := by
  induction l generalizing n with
  | nil => simp [sw]
  | cons d l ih =>
    simp only [List.cons_append, sw, ih, List.length_cons]
    rw [show n - 1 - l.length = n - (l.length + 1) by omega]; omega
theorem sw_len (l : List UInt8) : sw l.length l = sb l := by
  induction l with
  | nil => rfl
  | cons c l ih => simp only [sw, sb, List.length_cons, Nat.add_sub_cancel, ih]
theorem sa_le (l : List UInt8) : sa l ≤ 255 * l.length := by
  induction l with
  | nil => simp [sa]
  | cons c l ih => have := c.toNat_lt; simp [sa]; omega
theorem sb_le (l : List UInt8) : sb l ≤ 255 * (l.length * l.length) := by
  induction l with
  | nil => simp [sb]
  | cons c l ih =>
    have := c.toNat_lt
    have h : (l.length + 1) * c.toNat ≤ (l.length + 1) * 255 := Nat.mul_le_mul_left _ (by omega)
    have e : (l.length + 1) * (l.length + 1) = l.length * l.length + 2 * l.length + 1 := by rw [Nat.add_mul, Nat.mul_add]; omega
    simp only [sb, List.length_cons]
    omega
theorem sb_le_k (l : List UInt8) (n : Nat) (h : l.length ≤ n) : sb l ≤ 255 * (n * n) := by
  have := sb_le l
  have h2 : l.length * l.length ≤ n * n := Nat.mul_le_mul h h
  omega
theorem weak_lt (l : List UInt8) : weak l < 4294967296 := by unfold weak; omega
theorem take_snoc (s : ByteArray) (k : Nat) (h : k < s.size) : s.data.toList.take (k + 1) = s.data.toList.take k ++ [s[k]] := by
  rw [List.take_succ_eq_append_getElem (by simpa using h)]; rfl
theorem ret_int {k : IntKind} {a b : Int} (h : a = b) : Ending.returned (.int k a) = .returned (.int k b) := by rw [h]
end Go.Proofs.YtgkcnocfijckoaaGreat
namespace Go.Proofs.YtgkcnocfijckoaaGreat
open Go.RowKit
set_option linter.unusedVariables false
theorem rollSum_any (s : ByteArray) (w : World) (hs : s.size ≤ 524288) :
    Calls Tryz.prog 105 #[.string s] w fun e w' => e = .returned (.int .i64 (weak s.data.toList)) ∧ w = w' := by
  go_enter Tryz.func105, Tryz.ntmps105
  go_wp2
  go_loop [3, 4, 8] (fun a b i => ∃ k : Nat, k ≤ s.size ∧ i = .int .i64 k ∧ a = .int .i64 (sa (s.data.toList.take k)) ∧ b = .int .i64 (sb (s.data.toList.take k))) (fun _ _ i => s.size - (intOf i).toNat)
  case atStart => exact ⟨0, Nat.zero_le _, rfl, rfl, rfl⟩
  case round =>
    obtain ⟨k, hk, rfl, rfl, rfl⟩ := hrel
    have hl : (s.data.toList.take k).length ≤ 524288 := by have := List.length_take_le k s.data.toList; omega
    have h1 := sa_le (s.data.toList.take k)
    have h2 := sb_le_k _ _ hl
    by_cases hlt : k < s.size
    · have h3 := (s[k]).toNat_lt
      have ea := sa_snoc (s.data.toList.take k) s[k]
      have eb := sb_snoc (s.data.toList.take k) s[k]
      rw [← take_snoc s k hlt] at ea eb
      have EA := Lib.hid ea
      have EB := Lib.hid eb
      clear ea eb
      go_wp2
      go_round
      case rel => exact ⟨k + 1, by omega, by go_num, by rw [EA.out]; go_num, by rw [EB.out]; go_num⟩
      case measure => simp [intOf]; omega
    · have hkk : s.data.toList.take k = s.data.toList := List.take_of_length_le (by simp; omega)
      have HK := Lib.hid hkk
      clear hkk
      go_wp2
      go_ret
      refine ⟨ret_int ?_, rfl⟩
      rw [HK.out]; unfold weak; omega
theorem modadd (a b : Nat) : (a % 65536 + b) % 65536 = (a + b) % 65536 := by omega
theorem modmul (a n x : Nat) : (a % 65536 + n % 65536 * x) % 65536 = (a + n * x) % 65536 := by
  rw [Nat.add_mod, Nat.mod_mod, Nat.mul_mod, Nat.mod_mod, ← Nat.mul_mod, ← Nat.add_mod]
end Go.Proofs.YtgkcnocfijckoaaGreat
