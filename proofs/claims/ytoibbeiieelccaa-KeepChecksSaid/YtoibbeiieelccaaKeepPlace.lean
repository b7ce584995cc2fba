/- place: the search by halves. Conditions: as named in each theorem. -/
import Derived.Test.YtoibbeiieelccaaKeepBase
namespace Go.Proofs.Ytoibbeiieelccaa
open Go.RowKit
set_option linter.unusedVariables false

/-- how many are below a number -/
def below (l : List Int) (n : Int) (i : Nat) : Prop := (∀ j, (hj : j < l.length) → j < i → l[j] < n) 
def above (l : List Int) (n : Int) (i : Nat) : Prop := (∀ j, (hj : j < l.length) → i ≤ j → n ≤ l[j])

set_option maxHeartbeats 1000000 in
theorem search_any (w : World) (ao : Option Addr) (len cap : Nat) (gs : List G) (n : Int) (hR : Rs w ao len cap 4 gs G.c) (hn : len ≤ 1000000) (hU : Up (gs.map G.gen)) :
    Calls Try.prog 34 #[.slice ao len cap, .int .i64 n, .func (.func 35) #[] #[]] w fun e w' =>
      ∃ (i : Nat) (b : Bool), e = .returned (.tuple #[.int .i64 i, .bool b]) ∧ atZ (gs.map G.gen) n = (if b then (i : Int) else -1) ∧ Below w.heap.size w w' := by
  obtain ⟨l, hl⟩ : ∃ l, l = gs.map G.gen := ⟨_, rfl⟩
  rw [← hl] at hU
  rw [← hl]
  have hll : l.length = len := by rw [hl, List.length_map]; exact hR.2.2.1
  have HLL := Lib.hid hll
  have HL := Lib.hid hR.2.2.1
  have HM := Lib.hid hl
  clear hl hll
  go_enter Try.func34, Try.ntmps34
  go_wp2
  go_loopw [9, 10] (fun u v wr => ∃ i j : Nat, i ≤ j ∧ j ≤ len ∧ u = .int .i64 i ∧ v = .int .i64 j ∧ below l n i ∧ above l n j ∧ Below w.heap.size w wr) (fun u v _ => (intOf v).toNat - (intOf u).toNat)
  case atStart => exact ⟨0, len, by omega, by omega, rfl, rfl, fun _ _ h => by omega, fun j hj h => by have := HLL.out; omega, Below.refl _ _⟩
  case round =>
    obtain ⟨i, j, hij, hj, rfl, rfl, hb, ha, hB⟩ := hrel
    have HB := Lib.hid hb
    have HA := Lib.hid ha
    clear hb ha
    by_cases hlt : i < j
    · obtain ⟨b, off, rfl, hbw, hc⟩ := rs_g hR (by omega)
      have hk : (i + j) / 2 < len := by omega
      have hks : (i + j) / 2 < gs.length := by rw [HL.out]; exact hk
      obtain ⟨c0, c1, c2, c3⟩ := hc ((i + j) / 2) hks
      have hkl : (i + j) / 2 < l.length := by rw [HLL.out]; exact hk
      have hx : l[(i + j) / 2] = (gs[(i + j) / 2]).gen := by simp [HM.out]
      obtain ⟨x, hxe⟩ : ∃ x, x = gs[(i + j) / 2] := ⟨_, rfl⟩
      rw [← hxe] at c0 c1 c2 c3 hx
      have HX := Lib.hid hx
      have HU := Lib.hid hU
      clear hx hxe hc hR hks hU
      have d0 := (hB.cell (p := ⟨b, off + (i + j) / 2 * 4, none⟩) hbw).trans c0
      have d1 := (hB.cell (p := ⟨b, off + (i + j) / 2 * 4 + 1, none⟩) hbw).trans c1
      have d2 := (hB.cell (p := ⟨b, off + (i + j) / 2 * 4 + 2, none⟩) hbw).trans c2
      have d3 := (hB.cell (p := ⟨b, off + (i + j) / 2 * 4 + 3, none⟩) hbw).trans c3
      clear c0 c1 c2 c3
      by_cases h1 : x.gen < n
      · have H1 := Lib.hid h1
        go_wp2_with fail
        refine (cmp_any _ x n (-1) (by rw [if_pos H1.out])).mono ?_
        rintro e w2 ⟨rfl, hb2⟩
        have hB2 := hB.trans (hb2.mono hB.size)
        clear d0 d1 d2 d3 hB hb2 h1
        go_wp2
        go_roundw
        case rel =>
          refine ⟨(i + j) / 2 + 1, j, by omega, by omega, by go_num, by go_num, fun t ht hti => ?_, HA.out, hB2⟩
          by_cases e : t = (i + j) / 2
          · subst e; rw [HX.out]; exact H1.out
          · have h2 := HU.out t ((i + j) / 2) ht hkl (by omega)
            rw [HX.out] at h2
            have h3 := H1.out
            omega
        case measure => simp [intOf]; omega
      · have H1 := Lib.hid h1
        obtain ⟨r, hr⟩ : ∃ r : Int, r = if x.gen < n then -1 else if n < x.gen then 1 else 0 := ⟨_, rfl⟩
        have hr0 : 0 ≤ r := by rw [hr, if_neg h1]; split <;> omega
        have HR := Lib.hid hr
        clear hr
        go_wp2_with fail
        refine (cmp_any _ x n r HR.out).mono ?_
        rintro e w2 ⟨rfl, hb2⟩
        have hB2 := hB.trans (hb2.mono hB.size)
        clear d0 d1 d2 d3 hB hb2 h1
        go_wp2
        go_roundw
        case rel =>
          refine ⟨i, (i + j) / 2, by omega, by omega, by go_num, by go_num, HB.out, fun t ht hti => ?_, hB2⟩
          have h3 := H1.out
          by_cases e : t = (i + j) / 2
          · subst e; rw [HX.out]; omega
          · have h2 := HU.out ((i + j) / 2) t hkl ht (by omega)
            rw [HX.out] at h2
            omega
        case measure => simp [intOf]; omega
    · have hji : j = i := by omega
      subst hji
      by_cases h1 : j < len
      · obtain ⟨b, off, rfl, hbw, hc⟩ := rs_g hR (by omega)
        have hks : j < gs.length := by rw [HL.out]; exact h1
        obtain ⟨c0, c1, c2, c3⟩ := hc j hks
        have hkl : j < l.length := by rw [HLL.out]; exact h1
        have hx : l[j] = (gs[j]).gen := by simp [HM.out]
        obtain ⟨x, hxe⟩ : ∃ x, x = gs[j] := ⟨_, rfl⟩
        rw [← hxe] at c0 c1 c2 c3 hx
        have HX := Lib.hid hx
        have HU := Lib.hid hU
        clear hx hxe hc hR hks hU
        have d0 := (hB.cell (p := ⟨b, off + j * 4, none⟩) hbw).trans c0
        have d1 := (hB.cell (p := ⟨b, off + j * 4 + 1, none⟩) hbw).trans c1
        have d2 := (hB.cell (p := ⟨b, off + j * 4 + 2, none⟩) hbw).trans c2
        have d3 := (hB.cell (p := ⟨b, off + j * 4 + 3, none⟩) hbw).trans c3
        clear c0 c1 c2 c3
        by_cases h2 : x.gen = n
        · have H2 := Lib.hid h2
          clear h2
          go_wp2_with fail
          refine (cmp_any _ x n 0 (by have := H2.out; rw [if_neg (by omega), if_neg (by omega)])).mono ?_
          rintro e w2 ⟨rfl, hb2⟩
          have hB2 := hB.trans (hb2.mono hB.size)
          clear d0 d1 d2 d3 hB hb2
          go_wp2
          go_ret2
          refine ⟨j, true, rfl, ?_, hB2⟩
          rw [← H2.out, ← HX.out, HU.out.at hkl]; rfl
        · have H2 := Lib.hid h2
          clear h2
          obtain ⟨r, hr⟩ : ∃ r : Int, r = if x.gen < n then -1 else if n < x.gen then 1 else 0 := ⟨_, rfl⟩
          have hr0 : r ≠ 0 := by
            have h3 := H2.out
            rcases Int.lt_trichotomy x.gen n with h4 | h4 | h4
            · rw [hr, if_pos h4]; omega
            · exact absurd h4 h3
            · rw [hr, if_neg (by omega), if_pos h4]; omega
          have HR := Lib.hid hr
          clear hr
          go_wp2_with fail
          refine (cmp_any _ x n r HR.out).mono ?_
          rintro e w2 ⟨rfl, hb2⟩
          have hB2 := hB.trans (hb2.mono hB.size)
          clear d0 d1 d2 d3 hB hb2
          go_wp2
          go_ret2
          refine ⟨j, (r == 0), rfl, ?_, hB2⟩
          rw [show (r == 0) = false by simpa using hr0, atZ_none]; rfl
          intro hin
          obtain ⟨t, ht, he⟩ := List.getElem_of_mem hin
          by_cases e : t = j
          · subst e; exact H2.out (by rw [← HX.out]; exact he)
          · rcases Nat.lt_or_gt_of_ne e with e | e
            · have := HB.out t ht e; omega
            · have := HU.out j t hkl ht e
              have := HA.out j hkl (Nat.le_refl _)
              omega
      · go_wp2
        go_ret2
        refine ⟨j, false, rfl, ?_, hB⟩
        rw [atZ_none]; rfl
        intro hin
        obtain ⟨t, ht, he⟩ := List.getElem_of_mem hin
        have := HLL.out
        have := HB.out t ht (by omega)
        omega

theorem place_any (w : World) (ao : Option Addr) (len cap : Nat) (gs : List G) (n : Int) (hR : Rs w ao len cap 4 gs G.c) (hn : len ≤ 1000000) (hU : Up (gs.map G.gen)) :
    Calls Try.prog 30 #[.slice ao len cap, .int .i64 n] w fun e w' => e = .returned (.int .i64 (atZ (gs.map G.gen) n)) ∧ Below w.heap.size w w' := by
  have HU := Lib.hid hU
  clear hU
  obtain ⟨z, hz⟩ : ∃ z, z = atZ (gs.map G.gen) n := ⟨_, rfl⟩
  rw [← hz]
  have HZ := Lib.hid hz
  clear hz
  go_enter Try.func30, Try.ntmps30
  go_wp2_with fail
  refine (search_any _ _ _ _ _ _ hR hn HU.out).mono ?_
  rintro e w2 ⟨i, b, rfl, ha, hb2⟩
  have ha2 := HZ.out.trans ha
  clear ha HZ
  cases b
  all_goals
    simp at ha2
    subst ha2
    go_wp2
    go_ret
    exact ⟨rfl, hb2⟩
end Go.Proofs.Ytoibbeiieelccaa
