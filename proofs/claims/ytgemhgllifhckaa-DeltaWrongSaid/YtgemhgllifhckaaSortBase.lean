/- Rows of whole numbers by places; slices.swapRangeCmpFunc and rotateCmpFunc at []int. Conditions: as named in each theorem. -/
import Derived.Test.YtgemhgllifhckaaChecked
import Derived.Test.YtgemhgllifhckaaHeap
import Derived.Deep.LoopGhost
import Derived.OpenShut
import Derived.BigQuiet
import Derived.Test.YtgemhgllifhckaaSortMath
import Derived.Laws.OwnMore
namespace Go.Proofs.Ytgemhgllifhckaa
open Go.RowKit
set_option linter.unusedVariables false

def rowL (n : Nat) (f : Nat → Int) : List Value := (List.range n).map fun i => Value.int .i64 (f i)
theorem rowL_len (n : Nat) (f : Nat → Int) : (rowL n f).length = n := by simp [rowL]
theorem rowL_get {n : Nat} (f : Nat → Int) {i : Nat} (h : i < n) : (rowL n f)[i]? = some (.int .i64 (f i)) := by
  unfold rowL; rw [List.getElem?_map, List.getElem?_range h]; rfl
theorem rowL_swp {n : Nat} (f : Nat → Int) {i j : Nat} (hi : i < n) (hj : j < n) : ((rowL n f).set i (.int .i64 (f j))).set j (.int .i64 (f i)) = rowL n (swp f i j) := by
  apply List.ext_getElem?
  intro t
  by_cases ht : t < n
  · rw [rowL_get _ ht, List.getElem?_set, List.getElem?_set, rowL_get f ht]
    simp only [List.length_set, rowL_len]
    unfold swp
    by_cases e1 : j = t
    · subst e1
      rw [if_pos rfl, if_pos ht]
      by_cases e3 : j = i
      · rw [if_pos e3, e3]
      · rw [if_neg e3, if_pos rfl]
    · rw [if_neg e1]
      by_cases e2 : i = t
      · subst e2
        rw [if_pos rfl, if_pos ht, if_pos rfl]
      · rw [if_neg e2, if_neg (by omega), if_neg (by omega)]
  · rw [List.getElem?_eq_none (by simp [rowL_len]; omega), List.getElem?_eq_none (by simp [rowL_len]; omega)]
/-- the row of whole numbers in the block g -/
def Rw (R : List Value) (w : World) (g n : Nat) (f : Nat → Int) : Prop := Blk w g (rowL n f ++ R) 3
theorem rowL_getR {n : Nat} (f : Nat → Int) (R : List Value) {i : Nat} (h : i < n) : (rowL n f ++ R)[i]? = some (.int .i64 (f i)) := by
  rw [List.getElem?_append_left (by rw [rowL_len]; exact h)]
  exact rowL_get f h
theorem Rw.cell {R : List Value} {w : World} {g n : Nat} {f : Nat → Int} (h : Rw R w g n f) {i : Nat} (hi : i < n) : w.cell? ⟨g, i, none⟩ = some (.int .i64 (f i)) := Blk.cell h (rowL_getR f R hi)
theorem Rw.frozen {R : List Value} {w : World} {g n : Nat} {f : Nat → Int} (h : Rw R w g n f) (i : Nat) : w.frozen? ⟨g, i, none⟩ = false := Blk.frozen h i
theorem Rw.swap {R : List Value} {w : World} {g n : Nat} {f : Nat → Int} (h : Rw R w g n f) {i j : Nat} (hi : i < n) (hj : j < n) : Rw R ((w.setCell ⟨g, i, none⟩ (.int .i64 (f j))).setCell ⟨g, j, none⟩ (.int .i64 (f i))).drew g n (swp f i j) := by
  have e := Blk.drew (Blk.set (Blk.set h i (.int .i64 (f j))) j (.int .i64 (f i)))
  rw [List.set_append_left _ _ (by rw [rowL_len]; exact hi), List.set_append_left _ _ (by rw [List.length_set, rowL_len]; exact hj), rowL_swp f hi hj] at e
  exact e
theorem Rw.drewN {R : List Value} {w : World} {g n : Nat} {f : Nat → Int} (h : Rw R w g n f) (m : Nat) : Rw R (w.drewN m) g n f := h
theorem swp_comm (f : Nat → Int) (i j : Nat) : swp f i j = swp f j i := by
  funext t; unfold swp
  by_cases e1 : t = i
  · by_cases e2 : t = j
    · rw [if_pos e1, if_pos e2, ← e1, ← e2]
    · rw [if_pos e1, if_neg e2, if_pos e1]
  · rw [if_neg e1]
    by_cases e2 : t = j
    · rw [if_pos e2, if_pos e2]
    · rw [if_neg e2, if_neg e2, if_neg e1]

set_option maxHeartbeats 1000000 in
theorem swapRange_any {R : List Value} (w : World) (g n cap : Nat) (f : Nat → Int) (a b k : Nat) (vc : Value) (hR : Rw R w g n f) (hn : n ≤ 1000000000) (ha : a + k ≤ b) (hb : b + k ≤ n) :
    Calls Try.prog 131 #[.slice (some ⟨g, 0, none⟩) n cap, .int .i64 a, .int .i64 b, .int .i64 k, vc] w fun e w' => (∃ r, e = .returned r) ∧ Rw R w' g n (swr f a b k) ∧ w.grownBy w' (some g) := by
  go_enter Try.func131, Try.ntmps131
  go_wp2
  go_loopw [10] (fun x wr => ∃ i : Nat, i ≤ k ∧ x = .int .i64 i ∧ Rw R wr g n (swr f a b i) ∧ w.grownBy wr (some g)) (fun x _ => k - (intOf x).toNat)
  case atStart => exact ⟨0, by omega, rfl, by rw [swr_zero]; exact hR, grown_refl _ _⟩
  case round =>
    obtain ⟨i, hi, rfl, hW, hG⟩ := hrel
    by_cases hlt : (i : Int) < (k : Int)
    · obtain ⟨p, hp⟩ : ∃ p : Nat, (a : Int) + i = p := ⟨a + i, by omega⟩
      obtain ⟨q, hq⟩ : ∃ q : Nat, (b : Int) + i = q := ⟨b + i, by omega⟩
      have ep : p = a + i := by omega
      have eq_ : q = b + i := by omega
      have EP := Lib.hid ep
      have EQ := Lib.hid eq_
      have i1 : (p : Int) < (n : Int) := by omega
      have i2 : (q : Int) < (n : Int) := by omega
      have hne : p ≠ q := by omega
      have hne2 : q ≠ p := by omega
      have cp := hW.cell (i := p) (by omega)
      have cq := hW.cell (i := q) (by omega)
      have fp := hW.frozen p
      have fq := hW.frozen q
      clear ep eq_
      go_wp2_with fail
      go_region
      obtain ⟨W, hV⟩ : ∃ W, W = ((wr.setCell ⟨g, p, none⟩ (.int .i64 (swr f a b i q))).setCell ⟨g, q, none⟩ (.int .i64 (swr f a b i p))).drew := ⟨_, rfl⟩
      have hR2 : Rw R W g n (swr f a b (i + 1)) := by
        rw [hV, ← swr_succ f a b i (by omega), ← EP.out, ← EQ.out]
        exact hW.swap (by omega) (by omega)
      have hG2 : w.grownBy W (some g) := by rw [hV]; exact grown_drew (grown_set (grown_set hG _ _) _ _)
      rw [← hV]
      clear hV hW hG cp cq fp fq hR
      go_wp2
      go_roundw
      case rel => exact ⟨i + 1, by omega, by go_num, hR2, hG2⟩
      case measure => simp [intOf]; omega
    · have hik : i = k := by omega
      subst hik
      go_wp2
      go_end0
      exact ⟨⟨_, rfl⟩, hW, hG⟩

set_option maxHeartbeats 1000000 in
theorem rotate_any {R : List Value} (w : World) (g n cap : Nat) (f : Nat → Int) (a m b : Nat) (vc : Value) (hR : Rw R w g n f) (hn : n ≤ 1000000000) (ham : a < m) (hmb : m < b) (hb : b ≤ n) :
    Calls Try.prog 129 #[.slice (some ⟨g, 0, none⟩) n cap, .int .i64 a, .int .i64 m, .int .i64 b, vc] w fun e w' => (∃ r, e = .returned r) ∧ Rw R w' g n (rot f a m b) ∧ w.grownBy w' (some g) := by
  obtain ⟨i0, hi0⟩ : ∃ i0 : Nat, (m : Int) - a = i0 := ⟨m - a, by omega⟩
  obtain ⟨j0, hj0⟩ : ∃ j0 : Nat, (b : Int) - m = j0 := ⟨b - m, by omega⟩
  go_enter Try.func129, Try.ntmps129
  go_wp2
  go_loopw [10, 11] (fun x y wr => ∃ (i j : Nat) (h : Nat → Int), 0 < i ∧ 0 < j ∧ i ≤ i0 ∧ j ≤ j0 ∧ x = .int .i64 i ∧ y = .int .i64 j ∧ Rw R wr g n h ∧ rot h (m - i) m (m + j) = rot f a m b ∧ w.grownBy wr (some g)) (fun x y _ => (intOf x).toNat + (intOf y).toNat)
  case atStart => exact ⟨i0, j0, f, by omega, by omega, by omega, by omega, rfl, rfl, hR, by rw [show m - i0 = a by omega, show m + j0 = b by omega], grown_refl _ _⟩
  case round =>
    obtain ⟨i, j, h, hi, hj, hi2, hj2, rfl, rfl, hW, hE, hG⟩ := hrel
    have HE := Lib.hid hE
    clear hE hR
    obtain ⟨p, hp⟩ : ∃ p : Nat, (m : Int) - i = p := ⟨m - i, by omega⟩
    have ep : p = m - i := by omega
    have EP := Lib.hid ep
    clear ep
    by_cases hne : i = j
    · subst hne
      go_wp2_with (first | (go_at_call 131; refine (swapRange_any wr g n cap h p m i vc hW hn (by have := EP.out; omega) (by omega)).mono ?_; rintro e w2 ⟨⟨r, rfl⟩, hR2, hG2⟩))
      go_end0
      refine ⟨⟨_, rfl⟩, ?_, grown_trans hG hG2⟩
      rw [← HE.out, ← rot_eq h m i (by omega), ← EP.out]
      exact hR2
    · have hne' : ¬ ((i : Int) = (j : Int)) := by omega
      by_cases hgt : (j : Int) < (i : Int)
      · obtain ⟨s, hs⟩ : ∃ s : Nat, (i : Int) - j = s := ⟨i - j, by omega⟩
        go_wp2_with (first | (go_at_call 131; refine (swapRange_any wr g n cap h p m j vc hW hn (by have := EP.out; omega) (by omega)).mono ?_; rintro e w2 ⟨⟨r, rfl⟩, hR2, hG2⟩))
        go_roundw
        case rel =>
          refine ⟨s, j, _, by omega, hj, by omega, hj2, rfl, rfl, hR2, ?_, grown_trans hG hG2⟩
          rw [← HE.out, ← rot_gt h m i j (by omega) (by omega) hj, ← EP.out, show m - s = p + j by have := EP.out; omega]
        case measure => simp [intOf]; omega
      · obtain ⟨s, hs⟩ : ∃ s : Nat, (j : Int) - i = s := ⟨j - i, by omega⟩
        obtain ⟨q1, hq1⟩ : ∃ q1 : Nat, (m : Int) + j = q1 := ⟨m + j, by omega⟩
        obtain ⟨q, hq⟩ : ∃ q : Nat, (q1 : Int) - i = q := ⟨m + j - i, by omega⟩
        have eq_ : q = m + j - i := by omega
        have EQ := Lib.hid eq_
        clear eq_
        go_wp2_with (first | (go_at_call 131; refine (swapRange_any wr g n cap h p q i vc hW hn (by have := EP.out; have := EQ.out; omega) (by have := EQ.out; omega)).mono ?_; rintro e w2 ⟨⟨r, rfl⟩, hR2, hG2⟩))
        go_roundw
        case rel =>
          refine ⟨i, s, _, hi, by omega, hi2, by omega, rfl, rfl, hR2, ?_, grown_trans hG hG2⟩
          rw [← HE.out, ← rot_lt h m i j (by omega) (by omega) hi, ← EP.out, ← EQ.out, show s = j - i by omega]
        case measure => simp [intOf]; omega
end Go.Proofs.Ytgemhgllifhckaa
