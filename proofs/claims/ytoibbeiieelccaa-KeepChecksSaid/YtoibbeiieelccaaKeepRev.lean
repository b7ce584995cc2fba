/- slices.Reverse at []int, over a row of our own. Conditions: as named in each theorem. -/
import Derived.Test.YtoibbeiieelccaaKeepBase
import Derived.Laws.OwnMore
namespace Go.Proofs.Ytoibbeiieelccaa
open Go.RowKit
set_option linter.unusedVariables false

/-- a list turned round at its first and last i places -/
def revAt (xs : List Value) (i : Nat) : List Value := (List.range xs.length).map fun t => if t < i ∨ xs.length ≤ t + i then xs.getD (xs.length - 1 - t) undef else xs.getD t undef
theorem revAt_len (xs : List Value) (i : Nat) : (revAt xs i).length = xs.length := by simp [revAt]
theorem revAt_zero (xs : List Value) : revAt xs 0 = xs := by
  unfold revAt
  apply List.ext_getElem (by simp)
  intro t h1 h2
  simp only [List.getElem_map, List.getElem_range]
  rw [if_neg (by omega)]
  simp [List.getD, h2]
theorem revAt_end (xs : List Value) (i : Nat) (h : xs.length ≤ 2 * i + 1) : revAt xs i = xs.reverse := by
  unfold revAt
  apply List.ext_getElem (by simp)
  intro t h1 h2
  simp only [List.length_map, List.length_range] at h1
  simp only [List.getElem_map, List.getElem_range, List.getElem_reverse]
  split
  · rw [List.getD_eq_getElem?_getD, List.getElem?_eq_getElem (by omega)]; rfl
  · have e : xs.length - 1 - t = t := by omega
    simp only [e]
    rw [List.getD_eq_getElem?_getD, List.getElem?_eq_getElem h1]; rfl
theorem revAt_get (xs : List Value) (i t : Nat) (ht : t < xs.length) (h1 : i ≤ t) (h2 : t + i < xs.length) : (revAt xs i)[t]? = some (xs.getD t undef) := by
  unfold revAt
  rw [List.getElem?_map, List.getElem?_range ht]
  simp only [Option.map_some]
  rw [if_neg (by omega)]
theorem revAt_at (xs : List Value) (i t : Nat) (ht : t < xs.length) : (revAt xs i)[t]? = some (if t < i ∨ xs.length ≤ t + i then xs.getD (xs.length - 1 - t) undef else xs.getD t undef) := by
  unfold revAt
  rw [List.getElem?_map, List.getElem?_range ht]
  rfl
theorem revAt_step (xs : List Value) (i j : Nat) (hij : i < j) (hj : j + i + 1 = xs.length) : ((revAt xs i).set i (xs.getD j undef)).set j (xs.getD i undef) = revAt xs (i + 1) := by
  apply List.ext_getElem?
  intro t
  by_cases ht : t < xs.length
  · rw [revAt_at xs (i + 1) t ht, List.getElem?_set, List.getElem?_set, revAt_at xs i t ht]
    simp only [List.length_set, revAt_len]
    by_cases e1 : j = t
    · subst e1
      rw [if_pos rfl, if_pos ht, if_pos (by omega)]
      congr 2; omega
    · rw [if_neg e1]
      by_cases e2 : i = t
      · subst e2
        rw [if_pos rfl, if_pos ht, if_pos (by omega)]
        congr 2; omega
      · rw [if_neg e2]
        by_cases e3 : t < i ∨ xs.length ≤ t + i
        · rw [if_pos e3, if_pos (by omega)]
        · rw [if_neg e3, if_neg (by omega)]
  · rw [List.getElem?_eq_none (by simp [revAt_len]; omega), List.getElem?_eq_none (by simp [revAt_len]; omega)]

set_option maxHeartbeats 1000000 in
theorem reverse_any (w : World) (base : Nat) (v : Value) (n : Nat) (zs : List Int) (hn : n ≤ 1000000) (hz : zs.length = n) (hO : w.ownsRow base 3 1 v n (zs.map (Value.int .i64))) :
    Calls Try.prog 32 #[v] w fun e w' => (∃ r, e = .returned r) ∧ w'.ownsRow base 3 1 v n (zs.reverse.map (Value.int .i64)) ∧ w.grownBy w' v.ownBlock := by
  have hv := hO.2
  rcases hv with ⟨rfl, rfl⟩ | ⟨g, cap, cur, rfl, _⟩
  · have hz0 : zs = [] := List.eq_nil_of_length_eq_zero hz
    subst hz0
    go_enter Try.func32, Try.ntmps32
    go_wp2
    go_loopw [2, 3] (fun a b wr => a = .int .i64 0 ∧ b = .int .i64 (-1) ∧ wr = w) (fun _ _ _ => 0)
    case atStart => exact ⟨rfl, rfl, rfl⟩
    case round =>
      obtain ⟨rfl, rfl, rfl⟩ := hrel
      go_wp2
      go_end0
      exact ⟨⟨_, rfl⟩, hO, grown_refl _ _⟩
  · obtain ⟨xs, hxs⟩ : ∃ xs, xs = zs.map (Value.int .i64) := ⟨_, rfl⟩
    have hxl : xs.length = n := by rw [hxs, List.length_map, hz]
    have HXL := Lib.hid hxl
    have hrv : zs.reverse.map (Value.int .i64) = xs.reverse := by rw [hxs, List.map_reverse]
    rw [hrv]
    rw [← hxs] at hO
    have hxg : ∀ t, t < n → ∃ z, xs.getD t undef = .int .i64 z := fun t ht => by
      rw [hxs]
      exact ⟨zs[t]'(by omega), by simp [List.getD, show t < zs.length by omega]⟩
    have HXG := Lib.hid hxg
    clear hxg hxs hrv hxl
    go_enter Try.func32, Try.ntmps32
    go_wp2
    go_loopw [2, 3] (fun a b wr => ∃ i : Nat, 2 * i ≤ n + 1 ∧ a = .int .i64 i ∧ b = .int .i64 ((n : Int) - 1 - i) ∧ wr.ownsRow base 3 1 (.slice (some ⟨g, 0, none⟩) n cap) n (revAt xs i) ∧ w.grownBy wr (some g)) (fun a _ _ => n - (intOf a).toNat)
    case atStart => exact ⟨0, by omega, rfl, by go_num, by rw [revAt_zero]; exact hO, grown_refl _ _⟩
    case round =>
      obtain ⟨i, hi, rfl, rfl, hR, hG⟩ := hrel
      by_cases hlt : (i : Int) < (n : Int) - 1 - i
      · obtain ⟨j, hj⟩ : ∃ j : Nat, (n : Int) - 1 - i = j := ⟨n - 1 - i, by omega⟩
        rw [hj] at hlt ⊢
        have hjn : j + i + 1 = n := by omega
        have ci := hR.cellAt i (by omega)
        have cj := hR.cellAt j (by omega)
        have hxl := HXL.out
        rw [revAt_get xs i i (by omega) (by omega) (by omega)] at ci
        rw [revAt_get xs i j (by omega) (by omega) (by omega)] at cj
        obtain ⟨zi, hzi⟩ := HXG.out i (by omega)
        obtain ⟨zj, hzj⟩ := HXG.out j (by omega)
        rw [hzi] at ci
        rw [hzj] at cj
        have fi := hR.frozenAt i
        have fj := hR.frozenAt j
        have i1 : (i : Int) < (n : Int) := by omega
        have i2 : (j : Int) < (n : Int) := by omega
        have hne : i ≠ j := by omega
        have hne2 : j ≠ i := by omega
        clear hxl
        have HJ := Lib.hid hj
        have HZI := Lib.hid hzi
        have HZJ := Lib.hid hzj
        clear hj hzi hzj
        go_wp2_with fail
        go_region
        obtain ⟨W, hW⟩ : ∃ W, W = ((wr.setCell ⟨g, i, none⟩ (.int .i64 zj)).setCell ⟨g, j, none⟩ (.int .i64 zi)).drew := ⟨_, rfl⟩
        have hR2 : W.ownsRow base 3 1 (.slice (some ⟨g, 0, none⟩) n cap) n (revAt xs (i + 1)) := by
          rw [hW, ← revAt_step xs i j (by omega) (by rw [HXL.out]; exact hjn), HZI.out, HZJ.out]
          exact ((hR.stored i _).1.stored j _).1
        have hG2 : w.grownBy W (some g) := by rw [hW]; exact grown_drew (grown_set (grown_set hG _ _) _ _)
        rw [← hW]
        clear hW hR hG ci cj fi fj
        go_wp2
        go_roundw
        case rel => exact ⟨i + 1, by omega, by go_num, by have := HJ.out; go_num, hR2, hG2⟩
        case measure => simp [intOf]; omega
      · go_wp2
        go_end0
        refine ⟨⟨_, rfl⟩, ?_, hG⟩
        rw [← revAt_end xs i (by have := HXL.out; omega)]
        exact hR
end Go.Proofs.Ytoibbeiieelccaa
