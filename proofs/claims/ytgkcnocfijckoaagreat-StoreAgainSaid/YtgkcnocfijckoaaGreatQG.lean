/- Generations: their cells, places, the small functions of the reference. Conditions: as named in each theorem. -/
import Derived.Test.YtgkcnocfijckoaaGreatDlCore
import Derived.Test.YtgkcnocfijckoaaGreatQC
import Derived.Test.YtgkcnocfijckoaaGreatChecked
import Derived.Test.YtgkcnocfijckoaaGreatQA
import Derived.Deep.LoopGhost
import Derived.OpenShut
namespace Go.Proofs.YtgkcnocfijckoaaGreat
open Go.RowKit
set_option linter.unusedVariables false
structure G where
  gen : Int
  basis : Int
  bytes : Int
  mark : ByteArray
  deriving Inhabited, DecidableEq
def G.c (g : G) : List Value := [.int .i64 g.gen, .int .i64 g.basis, .int .i64 g.bytes, .string g.mark]
def G.ok (g : G) : Prop := (Lit.int .i64 g.gen).wf = true ∧ (Lit.int .i64 g.basis).wf = true ∧ (Lit.int .i64 g.bytes).wf = true ∧ g.mark.size ≤ maxLen
def gK : Kd := .agg [.int .i64, .int .i64, .int .i64, .str]
theorem gens_of {w : World} {ao : Option Addr} {len cap : Nat} (h : (Kd.sl gK).ok w [.slice ao len cap]) : ∃ gs : List G, Rs w ao len cap 4 gs G.c ∧ ∀ g ∈ gs, g.ok :=
  Kd.rows (k := gK) G.c G.ok (fun es h => by
    simp only [gK, Kd.ok, Kd.okL, Kd.cells] at h
    obtain ⟨a, b, rfl, _, ⟨k, rfl, hk⟩, a2, b2, rfl, _, ⟨n, rfl, hn⟩, a3, b3, rfl, _, ⟨s, rfl, hs⟩, a4, b4, rfl, _, ⟨t, rfl, ht⟩, rfl⟩ := h
    exact ⟨⟨k, n, s, t⟩, rfl, hk, hn, hs, ht⟩) h
theorem rs_g {w : World} {ao : Option Addr} {len cap : Nat} {gs : List G} (h : Rs w ao len cap 4 gs G.c) (h0 : 0 < len) :
    ∃ b off, ao = some ⟨b, off, none⟩ ∧ b < w.heap.size ∧ ∀ k, (hk : k < gs.length) → w.cell? ⟨b, off + k * 4, none⟩ = some (.int .i64 gs[k].gen) ∧ w.cell? ⟨b, off + k * 4 + 1, none⟩ = some (.int .i64 gs[k].basis) ∧ w.cell? ⟨b, off + k * 4 + 2, none⟩ = some (.int .i64 gs[k].bytes) ∧ w.cell? ⟨b, off + k * 4 + 3, none⟩ = some (.string gs[k].mark) := by
  obtain ⟨_, _, _, h4⟩ := h
  obtain ⟨b, off, e, hb, hc⟩ := h4 h0
  refine ⟨b, off, e, hb, fun k hk => ⟨?_, ?_, ?_, ?_⟩⟩
  · simpa using hc k hk 0 _ rfl
  · simpa [Nat.add_assoc] using hc k hk 1 _ rfl
  · simpa [Nat.add_assoc] using hc k hk 2 _ rfl
  · simpa [Nat.add_assoc] using hc k hk 3 _ rfl
/-- the place of a number in a list; -1: it is not there -/
def atZ (l : List Int) (g : Int) : Int := if g ∈ l then (l.idxOf g : Int) else -1
theorem atZ_none {l : List Int} {g : Int} (h : g ∉ l) : atZ l g = -1 := by simp [atZ, h]
theorem idx_first {l : List Int} {g : Int} {k : Nat} (hk : k < l.length) (h : l[k] = g) (hn : g ∉ l.take k) : l.idxOf g = k := by
  have e1 : l = l.take (k + 1) ++ l.drop (k + 1) := (List.take_append_drop _ _).symm
  rw [e1, List.take_succ_eq_append_getElem hk, h, List.idxOf_append, if_pos (by simp), List.idxOf_append, if_neg hn]
  simp
  omega
theorem atZ_found {l : List Int} {g : Int} {k : Nat} (hk : k < l.length) (h : l[k] = g) (hn : g ∉ l.take k) : atZ l g = k := by
  have : g ∈ l := by rw [← h]; exact List.getElem_mem hk
  rw [atZ, if_pos this, idx_first hk h hn]
theorem atZ_neg (l : List Int) (g : Int) : atZ l g < 0 ↔ g ∉ l := by
  unfold atZ
  split <;> rename_i h <;> simp [h]
/-- strictly rising -/
def Up (l : List Int) : Prop := ∀ i j, (hi : i < l.length) → (hj : j < l.length) → i < j → l[i] < l[j]
theorem Up.notin {l : List Int} (h : Up l) {k : Nat} (hk : k < l.length) : l[k] ∉ l.take k := by
  intro hin
  obtain ⟨i, hi, he⟩ := List.getElem_of_mem hin
  rw [List.getElem_take] at he
  have := h i k (by simp at hi; omega) hk (by simp at hi; omega)
  omega
theorem Up.at {l : List Int} (h : Up l) {k : Nat} (hk : k < l.length) : atZ l l[k] = k := atZ_found hk rfl (h.notin hk)
theorem Up.take {l : List Int} (h : Up l) (n : Nat) : Up (l.take n) := fun i j hi hj hij => by
  rw [List.getElem_take, List.getElem_take]
  exact h i j (by simp at hi; omega) (by simp at hj; omega) hij
theorem at_any (w : World) (ao : Option Addr) (len cap : Nat) (gs : List G) (g : Int) (hR : Rs w ao len cap 4 gs G.c) (hn : len ≤ 1000000) :
    Calls Tryz.prog 52 #[.slice ao len cap, .int .i64 g] w fun e w' => e = .returned (.int .i64 (atZ (gs.map G.gen) g)) ∧ w = w' := by
  have HL := Lib.hid hR.2.2.1
  go_enter Tryz.func52, Tryz.ntmps52
  go_wp2
  go_loopw [5] (fun i wr => ∃ k : Nat, k ≤ len ∧ i = .int .i64 k ∧ g ∉ (gs.map G.gen).take k ∧ w = wr) (fun i _ => len - (intOf i).toNat)
  case atStart => exact ⟨0, by omega, rfl, by simp, rfl⟩
  case round =>
    obtain ⟨k, hk, rfl, hni, rfl⟩ := hrel
    have HNI := Lib.hid hni
    clear hni
    by_cases hlt : k < len
    · obtain ⟨b, off, rfl, hbw, hc⟩ := rs_g hR (by omega)
      have hks : k < gs.length := by rw [HL.out]; exact hlt
      obtain ⟨c0, _, _, _⟩ := hc k hks
      have hgk : (gs.map G.gen)[k]'(by simpa using hks) = gs[k].gen := by simp
      have hkm : k < (gs.map G.gen).length := by simpa using hks
      obtain ⟨x, hx⟩ : ∃ x, x = gs[k].gen := ⟨_, rfl⟩
      rw [← hx] at c0 hgk
      have HGK := Lib.hid hgk
      clear hgk hx hc hR
      by_cases he : x = g
      · subst he
        go_wp2
        go_ret
        exact ⟨ret_v (int_v (atZ_found hkm HGK.out HNI.out).symm), rfl⟩
      · have HE := Lib.hid he
        go_wp2
        go_roundw
        case rel => exact ⟨k + 1, by omega, by go_num, by rw [List.take_succ_eq_append_getElem hkm, HGK.out]; simp only [List.mem_append, List.mem_singleton, not_or]; exact ⟨HNI.out, fun e => HE.out e.symm⟩, by simp⟩
        case measure => simp [intOf]; omega
    · have hkk : (gs.map G.gen).take k = gs.map G.gen := List.take_of_length_le (by simp [HL.out]; omega)
      have h2 := HNI.out
      rw [hkk] at h2
      have H2 := Lib.hid h2
      clear hkk h2
      go_wp2
      go_ret
      exact ⟨ret_v (int_v (atZ_none H2.out).symm), rfl⟩
theorem compare_any (w : World) (a b : Int) (r : Int) (hr : r = if a < b then -1 else if b < a then 1 else 0) :
    Calls Tryz.prog 101 #[.int .i64 a, .int .i64 b] w fun e w' => e = .returned (.int .i64 r) ∧ w = w' := by
  by_cases h1 : a < b
  · have h : r = -1 := by rw [hr, if_pos h1]
    clear hr
    subst h
    go_enter Tryz.func101, Tryz.ntmps101
    go_wp2
    go_ret
    exact ⟨rfl, rfl⟩
  · by_cases h2 : b < a
    · have h : r = 1 := by rw [hr, if_neg h1, if_pos h2]
      clear hr
      subst h
      go_enter Tryz.func101, Tryz.ntmps101
      go_wp2
      go_ret
      exact ⟨rfl, rfl⟩
    · have h : r = 0 := by rw [hr, if_neg h1, if_neg h2]
      clear hr
      subst h
      go_enter Tryz.func101, Tryz.ntmps101
      go_wp2
      go_ret
      exact ⟨rfl, rfl⟩
theorem cmp_any (w : World) (g : G) (n : Int) (r : Int) (hr : r = if g.gen < n then -1 else if n < g.gen then 1 else 0) :
    Calls Tryz.prog 100 #[.agg #[.int .i64 g.gen, .int .i64 g.basis, .int .i64 g.bytes, .string g.mark], .int .i64 n] w fun e w' => e = .returned (.int .i64 r) ∧ Below w.heap.size w w' := by
  obtain ⟨x, b, y, m⟩ := g
  have HR := Lib.hid hr
  clear hr
  have c0 : (w.alloc (.cells #[.int .i64 x, .int .i64 b, .int .i64 y, .string m] 48)).cell? ⟨w.heap.size, 0, none⟩ = some (.int .i64 x) := (Blk.new w [.int .i64 x, .int .i64 b, .int .i64 y, .string m] 48).cell (i := 0) rfl
  have hB := below_alloc w (.cells #[.int .i64 x, .int .i64 b, .int .i64 y, .string m] 48)
  go_enter Tryz.func100, Tryz.ntmps100
  go_wp2_with fail
  refine (compare_any _ _ _ r HR.out).mono ?_
  rintro e w1 ⟨rfl, rfl⟩
  go_wp2
  go_ret
  exact ⟨rfl, hB⟩
end Go.Proofs.YtgkcnocfijckoaaGreat
namespace Go.Proofs.YtgkcnocfijckoaaGreat
open Go.RowKit
set_option linter.unusedVariables false
/-- how many are below a number -/
def below (l : List Int) (n : Int) (i : Nat) : Prop := (∀ j, (hj : j < l.length) → j < i → l[j] < n)
def above (l : List Int) (n : Int) (i : Nat) : Prop := (∀ j, (hj : j < l.length) → i ≤ j → n ≤ l[j])
set_option maxHeartbeats 1000000 in
theorem search_any (w : World) (ao : Option Addr) (len cap : Nat) (gs : List G) (n : Int) (hR : Rs w ao len cap 4 gs G.c) (hn : len ≤ 1000000) (hU : Up (gs.map G.gen)) :
    Calls Tryz.prog 99 #[.slice ao len cap, .int .i64 n, .func (.func 100) #[] #[]] w fun e w' =>
      ∃ (i : Nat) (b : Bool), e = .returned (.tuple #[.int .i64 i, .bool b]) ∧ atZ (gs.map G.gen) n = (if b then (i : Int) else -1) ∧ Below w.heap.size w w' := by
  obtain ⟨l, hl⟩ : ∃ l, l = gs.map G.gen := ⟨_, rfl⟩
  rw [← hl] at hU
  rw [← hl]
  have hll : l.length = len := by rw [hl, List.length_map]; exact hR.2.2.1
  have HLL := Lib.hid hll
  have HL := Lib.hid hR.2.2.1
  have HM := Lib.hid hl
  clear hl hll
  go_enter Tryz.func99, Tryz.ntmps99
  go_wp2
  go_loopw [9, 10] (fun u v wr => ∃ i j : Nat, i ≤ j ∧ j ≤ len ∧ u = .int .i64 i ∧ v = .int .i64 j ∧ below l n i ∧ above l n j ∧ Below w.heap.size w wr) (fun u v _ => (intOf v).toNat - (intOf u).toNat)
  case atStart => exact ⟨0, len, by omega, by omega, rfl, rfl, fun _ _ h => by omega, fun j hj h => by have := HLL.out; omega, Below.refl _ _⟩
  case round =>
    obtain ⟨i, j, hij, hj, rfl, rfl, hb, ha, hB⟩ := hrel
    have HB := Lib.hid hb
    have HA := Lib.hid ha
    clear hb ha
    by_cases hlt : i < j
    · obtain ⟨b, off, rfl, hbw, hc⟩ := rs_g hR (by omega)
      have hk : (i + j) / 2 < len := by omega
      have hks : (i + j) / 2 < gs.length := by rw [HL.out]; exact hk
      obtain ⟨c0, c1, c2, c3⟩ := hc ((i + j) / 2) hks
      have hkl : (i + j) / 2 < l.length := by rw [HLL.out]; exact hk
      have hx : l[(i + j) / 2] = (gs[(i + j) / 2]).gen := by simp [HM.out]
      obtain ⟨x, hxe⟩ : ∃ x, x = gs[(i + j) / 2] := ⟨_, rfl⟩
      rw [← hxe] at c0 c1 c2 c3 hx
      have HX := Lib.hid hx
      have HU := Lib.hid hU
      clear hx hxe hc hR hks hU
      have d0 := (hB.cell (p := ⟨b, off + (i + j) / 2 * 4, none⟩) hbw).trans c0
      have d1 := (hB.cell (p := ⟨b, off + (i + j) / 2 * 4 + 1, none⟩) hbw).trans c1
      have d2 := (hB.cell (p := ⟨b, off + (i + j) / 2 * 4 + 2, none⟩) hbw).trans c2
      have d3 := (hB.cell (p := ⟨b, off + (i + j) / 2 * 4 + 3, none⟩) hbw).trans c3
      clear c0 c1 c2 c3
      by_cases h1 : x.gen < n
      · have H1 := Lib.hid h1
        go_wp2_with fail
        refine (cmp_any _ x n (-1) (by rw [if_pos H1.out])).mono ?_
        rintro e w2 ⟨rfl, hb2⟩
        have hB2 := hB.trans (hb2.mono hB.size)
        clear d0 d1 d2 d3 hB hb2 h1
        go_wp2
        go_roundw
        case rel =>
          refine ⟨(i + j) / 2 + 1, j, by omega, by omega, by go_num, by go_num, fun t ht hti => ?_, HA.out, hB2⟩
          by_cases e : t = (i + j) / 2
          · subst e; rw [HX.out]; exact H1.out
          · have h2 := HU.out t ((i + j) / 2) ht hkl (by omega)
            rw [HX.out] at h2
            have h3 := H1.out
            omega
        case measure => simp [intOf]; omega
      · have H1 := Lib.hid h1
        obtain ⟨r, hr⟩ : ∃ r : Int, r = if x.gen < n then -1 else if n < x.gen then 1 else 0 := ⟨_, rfl⟩
        have hr0 : 0 ≤ r := by rw [hr, if_neg h1]; split <;> omega
        have HR := Lib.hid hr
        clear hr
        go_wp2_with fail
        refine (cmp_any _ x n r HR.out).mono ?_
        rintro e w2 ⟨rfl, hb2⟩
        have hB2 := hB.trans (hb2.mono hB.size)
        clear d0 d1 d2 d3 hB hb2 h1
        go_wp2
        go_roundw
        case rel =>
          refine ⟨i, (i + j) / 2, by omega, by omega, by go_num, by go_num, HB.out, fun t ht hti => ?_, hB2⟩
          have h3 := H1.out
          by_cases e : t = (i + j) / 2
          · subst e; rw [HX.out]; omega
          · have h2 := HU.out ((i + j) / 2) t hkl ht (by omega)
            rw [HX.out] at h2
            omega
        case measure => simp [intOf]; omega
    · have hji : j = i := by omega
      subst hji
      by_cases h1 : j < len
      · obtain ⟨b, off, rfl, hbw, hc⟩ := rs_g hR (by omega)
        have hks : j < gs.length := by rw [HL.out]; exact h1
        obtain ⟨c0, c1, c2, c3⟩ := hc j hks
        have hkl : j < l.length := by rw [HLL.out]; exact h1
        have hx : l[j] = (gs[j]).gen := by simp [HM.out]
        obtain ⟨x, hxe⟩ : ∃ x, x = gs[j] := ⟨_, rfl⟩
        rw [← hxe] at c0 c1 c2 c3 hx
        have HX := Lib.hid hx
        have HU := Lib.hid hU
        clear hx hxe hc hR hks hU
        have d0 := (hB.cell (p := ⟨b, off + j * 4, none⟩) hbw).trans c0
        have d1 := (hB.cell (p := ⟨b, off + j * 4 + 1, none⟩) hbw).trans c1
        have d2 := (hB.cell (p := ⟨b, off + j * 4 + 2, none⟩) hbw).trans c2
        have d3 := (hB.cell (p := ⟨b, off + j * 4 + 3, none⟩) hbw).trans c3
        clear c0 c1 c2 c3
        by_cases h2 : x.gen = n
        · have H2 := Lib.hid h2
          clear h2
          go_wp2_with fail
          refine (cmp_any _ x n 0 (by have := H2.out; rw [if_neg (by omega), if_neg (by omega)])).mono ?_
          rintro e w2 ⟨rfl, hb2⟩
          have hB2 := hB.trans (hb2.mono hB.size)
          clear d0 d1 d2 d3 hB hb2
          go_wp2
          go_ret2
          refine ⟨j, true, rfl, ?_, hB2⟩
          rw [← H2.out, ← HX.out, HU.out.at hkl]; rfl
        · have H2 := Lib.hid h2
          clear h2
          obtain ⟨r, hr⟩ : ∃ r : Int, r = if x.gen < n then -1 else if n < x.gen then 1 else 0 := ⟨_, rfl⟩
          have hr0 : r ≠ 0 := by
            have h3 := H2.out
            rcases Int.lt_trichotomy x.gen n with h4 | h4 | h4
            · rw [hr, if_pos h4]; omega
            · exact absurd h4 h3
            · rw [hr, if_neg (by omega), if_pos h4]; omega
          have HR := Lib.hid hr
          clear hr
          go_wp2_with fail
          refine (cmp_any _ x n r HR.out).mono ?_
          rintro e w2 ⟨rfl, hb2⟩
          have hB2 := hB.trans (hb2.mono hB.size)
          clear d0 d1 d2 d3 hB hb2
          go_wp2
          go_ret2
          refine ⟨j, (r == 0), rfl, ?_, hB2⟩
          rw [show (r == 0) = false by simpa using hr0, atZ_none]; rfl
          intro hin
          obtain ⟨t, ht, he⟩ := List.getElem_of_mem hin
          by_cases e : t = j
          · subst e; exact H2.out (by rw [← HX.out]; exact he)
          · rcases Nat.lt_or_gt_of_ne e with e | e
            · have := HB.out t ht e; omega
            · have := HU.out j t hkl ht e
              have := HA.out j hkl (Nat.le_refl _)
              omega
      · go_wp2
        go_ret2
        refine ⟨j, false, rfl, ?_, hB⟩
        rw [atZ_none]; rfl
        intro hin
        obtain ⟨t, ht, he⟩ := List.getElem_of_mem hin
        have := HLL.out
        have := HB.out t ht (by omega)
        omega
theorem place_any (w : World) (ao : Option Addr) (len cap : Nat) (gs : List G) (n : Int) (hR : Rs w ao len cap 4 gs G.c) (hn : len ≤ 1000000) (hU : Up (gs.map G.gen)) :
    Calls Tryz.prog 80 #[.slice ao len cap, .int .i64 n] w fun e w' => e = .returned (.int .i64 (atZ (gs.map G.gen) n)) ∧ Below w.heap.size w w' := by
  have HU := Lib.hid hU
  clear hU
  obtain ⟨z, hz⟩ : ∃ z, z = atZ (gs.map G.gen) n := ⟨_, rfl⟩
  rw [← hz]
  have HZ := Lib.hid hz
  clear hz
  go_enter Tryz.func80, Tryz.ntmps80
  go_wp2_with fail
  refine (search_any _ _ _ _ _ _ hR hn HU.out).mono ?_
  rintro e w2 ⟨i, b, rfl, ha, hb2⟩
  have ha2 := HZ.out.trans ha
  clear ha HZ
  cases b
  all_goals
    simp at ha2
    subst ha2
    go_wp2
    go_ret
    exact ⟨rfl, hb2⟩
end Go.Proofs.YtgkcnocfijckoaaGreat
