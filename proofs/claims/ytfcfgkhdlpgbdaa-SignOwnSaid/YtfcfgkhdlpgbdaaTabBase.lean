/- The table of a signature: copies, the comparison, the sorted row. Conditions: as named in each theorem. -/
import Derived.Test.YtfcfgkhdlpgbdaaSortStable
import Derived.Test.YtfcfgkhdlpgbdaaTabMath
import Derived.Test.YtfcfgkhdlpgbdaaShSlices
import Derived.Test.YtfcfgkhdlpgbdaaSignFacts
namespace Go.Proofs.Ytfcfgkhdlpgbdaa
open Go.RowKit
set_option linter.unusedVariables false

theorem owns_next {w w' : World} {base : Nat} {e : TypeId} {size n : Nat} {v : Value} {xs : List Value} (h : w.ownsRow base e size v n xs) (hb : Below w.heap.size w w') : w'.ownsRow base e size v n xs :=
  World.ownsRow.kept h (below_grown hb none) (by cases hv : v.ownBlock <;> simp)
theorem cloneI_any (w : World) (ao : Option Addr) (n cap : Nat) (W : List Int) (hW : Rs w ao n cap 1 W (fun x => [.int .i64 x])) (hn : n ≤ 1000000) :
    Calls Try.prog 66 #[.slice ao n cap] w fun e w' => ∃ v', e = .returned v' ∧ w'.ownsRow w.heap.size 3 1 v' n (W.map (Value.int .i64)) ∧ Below w.heap.size w w' := by
  have hl := hW.2.2.1
  cases ao with
  | none =>
    have h0 : n = 0 := by
      rcases Nat.eq_zero_or_pos n with h | h
      · exact h
      · obtain ⟨_, _, e, _⟩ := hW.2.2.2 h; cases e
    subst h0
    have hW0 : W = [] := List.eq_nil_of_length_eq_zero hl
    subst hW0
    refine (Any.slices_Clone_int_nil shCloneI 0 cap w).mono ?_
    rintro e w' ⟨rfl, rfl⟩
    exact ⟨_, rfl, World.ownsRow_nil _ _ _ _, Below.refl _ _⟩
  | some a =>
    rcases Nat.eq_zero_or_pos n with h | h
    · subst h
      have hW0 : W = [] := List.eq_nil_of_length_eq_zero hl
      subst hW0
      refine (Any.slices_Clone_int_zero shCloneI a cap w).mono ?_
      rintro e w' ⟨v', rfl, ho, -, hb⟩
      exact ⟨_, rfl, ho, hb⟩
    · obtain ⟨b, off, e, hbl, hc⟩ := hW.cell1 h
      injection e with e
      subst e
      refine (Any.slices_Clone_int shCloneI b off n cap W w (by omega) (by omega) (fun j hj => ?_)).mono ?_
      · rw [List.getD_eq_getElem?_getD, List.getElem?_eq_getElem hj]
        exact hc j hj _ rfl
      · rintro e w' ⟨v', rfl, ho, -, hb⟩
        rw [List.take_of_length_le (by omega)] at ho
        exact ⟨_, rfl, ho, hb⟩
theorem cloneS_any (w : World) (ao : Option Addr) (n cap : Nat) (W : List ByteArray) (hW : Rs w ao n cap 1 W (fun x => [.string x])) (hn : n ≤ 1000000) :
    Calls Try.prog 67 #[.slice ao n cap] w fun e w' => ∃ v', e = .returned v' ∧ w'.ownsRow w.heap.size 9 1 v' n (W.map Value.string) ∧ Below w.heap.size w w' := by
  have hl := hW.2.2.1
  cases ao with
  | none =>
    have h0 : n = 0 := by
      rcases Nat.eq_zero_or_pos n with h | h
      · exact h
      · obtain ⟨_, _, e, _⟩ := hW.2.2.2 h; cases e
    subst h0
    have hW0 : W = [] := List.eq_nil_of_length_eq_zero hl
    subst hW0
    refine (Any.slices_Clone_string_nil shCloneS 0 cap w).mono ?_
    rintro e w' ⟨rfl, rfl⟩
    exact ⟨_, rfl, World.ownsRow_nil _ _ _ _, Below.refl _ _⟩
  | some a =>
    rcases Nat.eq_zero_or_pos n with h | h
    · subst h
      have hW0 : W = [] := List.eq_nil_of_length_eq_zero hl
      subst hW0
      refine (Any.slices_Clone_string_zero shCloneS a cap w).mono ?_
      rintro e w' ⟨v', rfl, ho, -, hb⟩
      exact ⟨_, rfl, ho, hb⟩
    · obtain ⟨b, off, e, hbl, hc⟩ := hW.cell1 h
      injection e with e
      subst e
      refine (Any.slices_Clone_string shCloneS b off n cap W w (by omega) (by omega) (fun j hj => ?_)).mono ?_
      · rw [List.getD_eq_getElem?_getD, List.getElem?_eq_getElem hj]
        exact hc j hj _ rfl
      · rintro e w' ⟨v', rfl, ho, -, hb⟩
        rw [List.take_of_length_le (by omega)] at ho
        exact ⟨_, rfl, ho, hb⟩

theorem less_any (w : World) (pb : Nat) (b z : Int) (ao : Option Addr) (n cap : Nat) (v3 : Value) (W : List Int) (x y D : Int) (hg : Blk w pb [.int .i64 b, .int .i64 z, .slice ao n cap, v3] 31) (hW : Rs w ao n cap 1 W (fun x => [.int .i64 x]))
    (hbd : ∀ v ∈ W, 0 ≤ v ∧ v ≤ 4294967295) (hx : 0 ≤ x) (hx2 : x < n) (hy : 0 ≤ y) (hy2 : y < n) (hD : wtOf W x - wtOf W y = D) :
    Calls Try.prog 69 #[.int .i64 x, .int .i64 y, .pointer (some ⟨pb, 0, none⟩)] w fun e w' => e = .returned (.int .i64 D) ∧ ∃ d, w' = w.drewN d := by
  obtain ⟨X, rfl⟩ : ∃ X : Nat, x = X := ⟨x.toNat, by omega⟩
  obtain ⟨Y, rfl⟩ : ∃ Y : Nat, y = Y := ⟨y.toNat, by omega⟩
  obtain ⟨bb, off, u, rfl, hu, cu⟩ := hW.one (k := X) (by omega)
  obtain ⟨b1, o1, v, e1, hv, cv⟩ := hW.one (k := Y) (by omega)
  injection e1 with e1
  injection e1 with e1 e2
  subst e1 e2
  have hu1 : wtOf W X = u := by simp only [wtOf, Int.toNat_natCast]; rw [List.getD_eq_getElem?_getD, hu]; rfl
  have hv1 : wtOf W Y = v := by simp only [wtOf, Int.toNat_natCast]; rw [List.getD_eq_getElem?_getD, hv]; rfl
  rw [hu1, hv1] at hD
  have bu := hbd u (List.mem_of_getElem? hu)
  have bv := hbd v (List.mem_of_getElem? hv)
  have hw1 : IntKind.i64.wrap (u - v) = D := by rw [hD]; exact IntWalk.i64_in _ (by omega)
  have d1 : -4294967295 ≤ D := by omega
  have d2 : D ≤ 4294967295 := by omega
  have c2 := hg.cell (i := 2) rfl
  clear hu hv hu1 hv1 hg hW hbd bu bv
  go_enter Try.func69, Try.ntmps69
  go_wp2_with fail
  go_quiet (fail)
  go_wp2
  go_ret
  exact ⟨rfl, _, rfl⟩

/-- a row of our own as a row that the sort turns -/
theorem own_rw {w : World} {base g n cap : Nat} {f : Nat → Int} (h : w.ownsRow base 3 1 (.slice (some ⟨g, 0, none⟩) n cap) n (rowL n f)) : ∃ R, Rw R w g n f ∧ n + R.length = cap ∧ base ≤ g ∧ cap ≤ maxLen := by
  obtain ⟨hl, ⟨h1, -⟩ | ⟨g', cap', cur, h1, h2, h3, h4, h5, h6, h7⟩⟩ := h
  · cases h1
  · injection h1 with h1 _ hc
    injection h1 with h1
    injection h1 with h1
    subst h1 hc
    refine ⟨cur.toList.drop n, ?_, ?_, h2, h5⟩
    · unfold Rw Blk
      rw [h3, ← h7, Nat.mul_one, List.take_append_drop, Array.toArray_toList]
    · rw [List.length_drop, Array.length_toList]; omega
theorem rw_own {R : List Value} {w : World} {base g n cap : Nat} {f : Nat → Int} (h : Rw R w g n f) (hc : n + R.length = cap) (hb : base ≤ g) (hm : cap ≤ maxLen) : w.ownsRow base 3 1 (.slice (some ⟨g, 0, none⟩) n cap) n (rowL n f) := by
  refine ⟨by rw [rowL_len, Nat.mul_one], .inr ⟨g, cap, _, rfl, hb, h, by omega, hm, ?_, ?_⟩⟩
  · simp [rowL_len]; omega
  · rw [Nat.mul_one, List.toList_toArray, List.take_append_of_le_length (by rw [rowL_len]; exact Nat.le_refl _), List.take_of_length_le (by rw [rowL_len]; exact Nat.le_refl _)]
theorem sortStable_nil (w : World) (vc : Value) : Calls Try.prog 68 #[.slice none 0 0, vc] w fun e w' => (∃ r, e = .returned r) ∧ w' = w := by
  have hi : Calls Try.prog 97 #[.slice none 0 0, .int .i64 0, .int .i64 0, vc] w fun e w' => (∃ r, e = .returned r) ∧ w' = w := by
    go_enter Try.func97, Try.ntmps97
    go_wp2
    go_loopw [8] (fun x wr => x = .int .i64 1 ∧ wr = w) (fun _ _ => 0)
    case atStart => exact ⟨rfl, rfl⟩
    case round =>
      obtain ⟨rfl, rfl⟩ := hrel
      go_wp2
      go_end0
      exact ⟨⟨_, rfl⟩, rfl⟩
  have hs : Calls Try.prog 88 #[.slice none 0 0, .int .i64 0, vc] w fun e w' => (∃ r, e = .returned r) ∧ w' = w := by
    go_enter Try.func88, Try.ntmps88
    go_wp2
    go_loopw [7, 8] (fun x y wr => x = .int .i64 0 ∧ y = .int .i64 20 ∧ wr = w) (fun _ _ _ => 0)
    case atStart => exact ⟨rfl, rfl, rfl⟩
    case round =>
      obtain ⟨rfl, rfl, rfl⟩ := hrel
      go_wp2_with (first | (go_at_call 97; refine hi.mono ?_; rintro e w' ⟨⟨r, rfl⟩, rfl⟩))
      go_loopw [6] (fun x wr => x = .int .i64 20 ∧ wr = w') (fun _ _ => 0)
      case atStart => exact ⟨rfl, rfl⟩
      case round =>
        obtain ⟨rfl, rfl⟩ := hrel
        go_wp2
        go_end0
        exact ⟨⟨_, rfl⟩, rfl⟩
  go_enter Try.func68, Try.ntmps68
  go_wp2_with (first | (go_at_call 88; refine hs.mono ?_; rintro e w' ⟨⟨r, rfl⟩, rfl⟩))
  go_end0
  exact ⟨⟨_, rfl⟩, rfl⟩
end Go.Proofs.Ytfcfgkhdlpgbdaa
