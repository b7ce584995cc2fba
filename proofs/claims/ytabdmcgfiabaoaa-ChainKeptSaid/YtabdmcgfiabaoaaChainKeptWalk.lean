/- ChainKept: the walk. No conditions. -/
import Derived.Test.YtabdmcgfiabaoaaChainFoldWalk
import Derived.Test.YtabdmcgfiabaoaaAppendRow
namespace Go.Proofs.Ytabdmcgfiabaoaa
open Go.RowKit
set_option linter.unusedVariables false

set_option maxRecDepth 100000 in
set_option maxHeartbeats 1000000 in
theorem chainKept_walk (w : World) (c0 : Array Value) (o0 : Kd.ok w (.agg [.str, .str, .int .i64, .sl (.agg [.int .i64, .int .i64, .str])]) c0.toList) (c1 : Array Value) (o1 : Kd.ok w (.agg [.str, .str, .int .i64, .sl (.agg [.int .i64, .int .i64, .str])]) c1.toList) :
    Calls Try.prog 6 #[.agg c0, .agg c1] w fun e w' => e = .returned (.bool true) ∧ Below w.heap.size w w' := by
  obtain ⟨⟨ba, ma, sa, la⟩, aa, lena, capa, rfl, hRa, oka⟩ := dl_of_arr o0
  obtain ⟨⟨bb, mb, sb, lb⟩, ab, lenb, capb, rfl, hRb, okb⟩ := dl_of_arr o1
  simp only at hRa hRb
  obtain ⟨i0, hi, hz0, hz1, hz2⟩ := info_parts infoStep
  have hdz := deltaZ_run
  have hgz := stepZ_run
  obtain ⟨W, hW⟩ : ∃ W, W = (w.alloc (Obj.cells #[.string ba, .string ma, .int .i64 sa, .slice aa lena capa] 25)).alloc (Obj.cells #[.string bb, .string mb, .int .i64 sb, .slice ab lenb capb] 25) := ⟨_, rfl⟩
  have hA : Blk W w.heap.size [.string ba, .string ma, .int .i64 sa, .slice aa lena capa] 25 := by rw [hW]; exact (Blk.new w _ _).alloc _
  have hC : Blk W (w.heap.size + 1) [.string bb, .string mb, .int .i64 sb, .slice ab lenb capb] 25 := by
    have := Blk.new (w.alloc (Obj.cells #[.string ba, .string ma, .int .i64 sa, .slice aa lena capa] 25)) [.string bb, .string mb, .int .i64 sb, .slice ab lenb capb] 25
    rw [World.size_alloc] at this
    rw [hW]; exact this
  have hB : Below w.heap.size w W := by rw [hW]; exact (below_alloc w _).alloc (by simp) _
  have q0 := hA.cell (i := 0) rfl
  have q1 := hA.cell (i := 1) rfl
  have q2 := hA.cell (i := 2) rfl
  have q3 := hA.cell (i := 3) rfl
  rw [hW] at q0 q1 q2 q3
  have hRaW := hRa.below hB (Nat.le_refl _)
  have hRbW := hRb.below hB (Nat.le_refl _)
  obtain ⟨p2, hp2⟩ : ∃ p, p = w.heap.size := ⟨_, rfl⟩
  obtain ⟨p3, hp3⟩ : ∃ p, p = w.heap.size + 1 := ⟨_, rfl⟩
  rw [← hp2] at hA
  rw [← hp3] at hC
  have HW := Lib.hid hW
  have HP2 := Lib.hid hp2
  have HP3 := Lib.hid hp3
  have OKA := Lib.hid oka
  have OKB := Lib.hid okb
  clear hW hp2 hp3 hRa hRb o0 o1 oka okb
  go_enter Try.func6, Try.ntmps6
  go_wp2_with fail
  rw [← HW.out, ← HP3.out, ← HP2.out]
  refine (small_any W _ _ _ rfl rfl rfl aa lena capa la hRaW OKA.out.2.2.2 (Nat.le_trans hRaW.1 hRaW.2.1)).mono ?_
  rintro e w1 ⟨⟨r, rfl, hT⟩, hb1⟩
  have hA1 := hA.below hb1 hA.lt
  have hC1 := hC.below hb1 hC.lt
  have hB1 := hB.trans (hb1.mono hB.size)
  have hRa1 := hRaW.below hb1 (Nat.le_refl _)
  have hRb1 := hRbW.below hb1 (Nat.le_refl _)
  clear q0 q1 q2 q3 hb1 hB hRaW hRbW hA hC
  cases r with
  | false =>
    clear hT hA1 hC1
    go_wp2_with fail
    refine (awake_any _).mono ?_
    rintro e w2 ⟨rfl, hb2⟩
    have hB2 := hB1.trans (hb2.mono hB1.size)
    go_wp2
    go_ret
    exact ⟨rfl, hB2⟩
  | true =>
    have hTA := hT rfl
    have y0 := hC1.cell (i := 0) rfl
    have y1 := hC1.cell (i := 1) rfl
    have y2 := hC1.cell (i := 2) rfl
    have y3 := hC1.cell (i := 3) rfl
    clear hT
    go_wp2_with fail
    refine (small_any w1 _ _ _ rfl rfl rfl ab lenb capb lb hRb1 OKB.out.2.2.2 (Nat.le_trans hRb1.1 hRb1.2.1)).mono ?_
    rintro e w2 ⟨⟨r, rfl, hT⟩, hb2⟩
    have hA2 := hA1.below hb2 hA1.lt
    have hC2 := hC1.below hb2 hC1.lt
    have hB2 := hB1.trans (hb2.mono hB1.size)
    have hRa2 := hRa1.below hb2 (Nat.le_refl _)
    have hRb2 := hRb1.below hb2 (Nat.le_refl _)
    clear y0 y1 y2 y3 hb2 hB1 hRa1 hRb1 hA1 hC1
    cases r with
    | false =>
      clear hT hA2 hC2
      go_wp2_with fail
      refine (awake_any _).mono ?_
      rintro e w3 ⟨rfl, hb3⟩
      have hB3 := hB2.trans (hb3.mono hB2.size)
      go_wp2
      go_ret
      exact ⟨rfl, hB3⟩
    | true =>
      have hTB := hT rfl
      clear hT
      have hla := hRa2.2.2.1
      have hlb := hRb2.2.2.1
      have hna : lena ≤ 100 := by have := hTA.1; omega
      have hnb : lenb ≤ 100 := by have := hTB.1; omega
      have hwa := Nat.le_trans (weight_sum2 la) hTA.2.1
      have hfa : (la.flatMap St.c).length = lena * 3 := by rw [flat_len, hla]
      have hfb : (lb.flatMap St.c).length = lenb * 3 := by rw [flat_len, hlb]
      have hone : ∀ l : List St, ∀ u ∈ l.flatMap St.c, u.oneCell' = true := by
        intro l u hu
        rw [List.mem_flatMap] at hu
        obtain ⟨y, _, hy⟩ := hu
        exact sc_one y u hy
      have HFA := Lib.hid hfa
      have HFB := Lib.hid hfb
      have HONE := Lib.hid hone
      have HLA := Lib.hid hla
      have HLB := Lib.hid hlb
      clear hTA hTB hfa hfb hone hla hlb
      have hE1 : (w2.alloc (Obj.cells #[] 55)).ownsRow w2.heap.size 55 3 (.slice (some ⟨w2.heap.size, 0, none⟩) 0 0) 0 [] :=
        World.ownsRow_lit (base := w2.heap.size) (e := 55) (size := 3) w2 #[] 0 (Nat.le_refl _) (by decide) rfl
      have hbV : Below w2.heap.size w2 (w2.alloc (Obj.cells #[] 55)) := below_alloc _ _
      have hRax := Rs.cellsAt st_len (by decide) (hRa2.below hbV (Nat.le_refl _))
      have x3 := (hA2.alloc (Obj.cells #[] 55)).cell (i := 3) rfl
      have HA2 := Lib.hid hA2
      have HC2 := Lib.hid hC2
      have HRA2 := Lib.hid hRa2
      have HRB2 := Lib.hid hRb2
      have HBV := Lib.hid hbV
      have hp2l : p2 < w2.heap.size := hA2.lt
      have hp3l : p3 < w2.heap.size := hC2.lt
      clear hA2 hC2 hRa2 hRb2 hbV
      go_wp2_with (first
        | (at_builtin; refine wpList_append_row rfl _ _ 22 rfl w2.heap.size 55 i0 (.agg #[.int .i64 0, .int .i64 0, .string ByteArray.empty]) 3 32 Try.underlying22 hi hz0 hz1 hz2 rfl (by decide) w2.heap.size rfl hE1 aa lena capa (la.flatMap St.c) rfl HFA.out hRax (HONE.out la) (by unfold maxLen; omega) (by omega) (by simp) ?_; intro v5 w5 hO5 hg5; have hb5 : Below w2.heap.size w2 w5 := HBV.out.grown hg5 HBV.out.size (by intro j hj; injection hj with hj; omega); have hC5 : Blk w5 p3 [.string bb, .string mb, .int .i64 sb, .slice ab lenb capb] 25 := HC2.out.below hb5 hp3l; have y3 := (hC5.alloc (Obj.cells #[] 55)).cell (i := 3) rfl; have hbW : Below w5.heap.size w5 (w5.alloc (Obj.cells #[] 55)) := below_alloc _ _; have hRbx := Rs.cellsAt st_len (by decide) ((HRB2.out.below hb5 (Nat.le_refl _)).below hbW (Nat.le_refl _)); have hE2 : (w5.alloc (Obj.cells #[] 55)).ownsRow w5.heap.size 55 3 (.slice (some ⟨w5.heap.size, 0, none⟩) 0 0) 0 [] := World.ownsRow_lit (base := w5.heap.size) (e := 55) (size := 3) w5 #[] 0 (Nat.le_refl _) (by decide) rfl)
        | (at_builtin; refine wpList_append_row rfl _ _ 22 rfl w5.heap.size 55 i0 (.agg #[.int .i64 0, .int .i64 0, .string ByteArray.empty]) 3 32 Try.underlying22 hi hz0 hz1 hz2 rfl (by decide) w5.heap.size rfl hE2 ab lenb capb (lb.flatMap St.c) rfl HFB.out hRbx (HONE.out lb) (by unfold maxLen; omega) (by omega) (by simp) ?_; intro v6 w6 hO6 hg6; have hb6 : Below w5.heap.size w5 w6 := hbW.grown hg6 hbW.size (by intro j hj; injection hj with hj; omega); have hA6 : Blk w6 p2 [.string ba, .string ma, .int .i64 sa, .slice aa lena capa] 25 := (HA2.out.below hb5 hp2l).below hb6 (Nat.lt_of_lt_of_le hp2l hb5.size); have x6 := hA6.cell (i := 3) rfl))
      obtain ⟨a5, k5, rfl⟩ := owns_slice hO5
      obtain ⟨a6, k6, rfl⟩ := owns_slice hO6
      have hb26 := hb5.trans (hb6.mono hb5.size)
      have hX6 := (Rs.of_owns st_len HLA.out hO5).below hb6 (Nat.le_refl _)
      have hY6 := Rs.of_owns st_len HLB.out hO6
      have hC6 := hC5.below hb6 hC5.lt
      have hB6 := hB2.trans (hb26.mono hB2.size)
      have hRa6 := HRA2.out.below hb26 (Nat.le_refl _)
      have hRb6 := HRB2.out.below hb26 (Nat.le_refl _)
      clear hO5 hO6 hg5 hg6 hb5 hb6 hb26 hC5 y3 x3 hbW hRax hRbx hE1 hE2 hB2
      refine (tidy_any w6 aa lena capa la hRa6 (by omega) (by omega)).mono ?_
      rintro e w7 ⟨v7, rfl, -, hb7⟩
      have hA7 := hA6.below hb7 hA6.lt
      have hC7 := hC6.below hb7 hC6.lt
      have hB7 := hB6.trans (hb7.mono hB6.size)
      have hRa7 := hRa6.below hb7 (Nat.le_refl _)
      have hRb7 := hRb6.below hb7 (Nat.le_refl _)
      have hX7 := hX6.below hb7 (Nat.le_refl _)
      have hY7 := hY6.below hb7 (Nat.le_refl _)
      have x0 := hA7.cell (i := 0) rfl
      have x1 := hA7.cell (i := 1) rfl
      have x2 := hA7.cell (i := 2) rfl
      have x3 := hA7.cell (i := 3) rfl
      have y0 := hC7.cell (i := 0) rfl
      have y1 := hC7.cell (i := 1) rfl
      have y2 := hC7.cell (i := 2) rfl
      have y3 := hC7.cell (i := 3) rfl
      clear x6 hb7 hA6 hC6 hB6 hRa6 hRb6 hX6 hY6
      go_wp2_with fail
      refine (compose_any w7 ba ma bb mb sa sb la lb aa lena capa ab lenb capb hRa7 hRb7 OKA.out OKB.out).mono ?_
      rintro e w8 ⟨E, D, v8, rfl, -, -, hb8⟩
      have hA8 := hA7.below hb8 hA7.lt
      have hC8 := hC7.below hb8 hC7.lt
      have hB8 := hB7.trans (hb8.mono hB7.size)
      have hRa8 := hRa7.below hb8 (Nat.le_refl _)
      have hRb8 := hRb7.below hb8 (Nat.le_refl _)
      have hX8 := hX7.below hb8 (Nat.le_refl _)
      have hY8 := hY7.below hb8 (Nat.le_refl _)
      have x0 := hA8.cell (i := 0) rfl
      have x1 := hA8.cell (i := 1) rfl
      have x2 := hA8.cell (i := 2) rfl
      have x3 := hA8.cell (i := 3) rfl
      have y0 := hC8.cell (i := 0) rfl
      have y1 := hC8.cell (i := 1) rfl
      have y2 := hC8.cell (i := 2) rfl
      have y3 := hC8.cell (i := 3) rfl
      obtain ⟨l2, hl2⟩ : ∃ l2 : List DV, l2 = [⟨⟨ba, ma, sa, la⟩, aa, lena, capa⟩, ⟨⟨bb, mb, sb, lb⟩, ab, lenb, capb⟩] := ⟨_, rfl⟩
      obtain ⟨U, hU⟩ : ∃ U, U = w8.alloc (Obj.cells #[.string ba, .string ma, .int .i64 sa, .slice aa lena capa, .string bb, .string mb, .int .i64 sb, .slice ab lenb capb] 25) := ⟨_, rfl⟩
      have hRU : Rs U (some ⟨w8.heap.size, 0, none⟩) 2 2 4 l2 DV.c := by
        have h1 := World.ownsRow_lit (base := w8.heap.size) (e := 25) (size := 4) w8 (l2.flatMap DV.c).toArray 2 (Nat.le_refl _) (by decide) (by rw [hl2]; rfl)
        have h2 : w8.alloc (.cells (l2.flatMap DV.c).toArray 25) = U := by rw [hU, hl2]; rfl
        rw [h2] at h1
        exact Rs.of_owns dv_len (by rw [hl2]; rfl) (by simpa using h1)
      have hbU : Below w8.heap.size w8 U := by rw [hU]; exact below_alloc _ _
      have hgU : ∀ x ∈ l2, x.good U := by
        intro x hx
        rw [hl2] at hx
        simp only [List.mem_cons, List.not_mem_nil, or_false] at hx
        rcases hx with rfl | rfl
        · exact ⟨hRa8.below hbU (Nat.le_refl _), OKA.out⟩
        · exact ⟨hRb8.below hbU (Nat.le_refl _), OKB.out⟩
      have hAU := hA8.below hbU hA8.lt
      have hCU := hC8.below hbU hC8.lt
      have hBU := hB8.trans (hbU.mono hB8.size)
      have hRaU := hRa8.below hbU (Nat.le_refl _)
      have hRbU := hRb8.below hbU (Nat.le_refl _)
      have hXU := hX8.below hbU (Nat.le_refl _)
      have hYU := hY8.below hbU (Nat.le_refl _)
      have HU := Lib.hid hU
      clear hb8 hA7 hC7 hB7 hRa7 hRb7 hX7 hY7 hA8 hC8 hB8 hRa8 hRb8 hX8 hY8 hU hl2 hbU
      go_wp2_with fail
      rw [← HU.out]
      refine (fold_any U (some ⟨w8.heap.size, 0, none⟩) 2 2 l2 hRU hgU (by omega)).mono ?_
      rintro e w9 ⟨E2, D2, v9, rfl, -, -, -, hb9⟩
      have hA9 := hAU.below hb9 hAU.lt
      have hC9 := hCU.below hb9 hCU.lt
      have hB9 := hBU.trans (hb9.mono hBU.size)
      have hRa9 := hRaU.below hb9 (Nat.le_refl _)
      have hRb9 := hRbU.below hb9 (Nat.le_refl _)
      have hX9 := hXU.below hb9 (Nat.le_refl _)
      have hY9 := hYU.below hb9 (Nat.le_refl _)
      have z3 := hA9.cell (i := 3) rfl
      clear x0 x1 x2 x3 y0 y1 y2 y3 hb9 hAU hCU hBU hRaU hRbU hXU hYU hRU hgU
      go_wp2_with fail
      refine (steps_eq w9 a5 aa lena k5 capa la (by omega) hX9 hRa9).mono ?_
      rintro e w10 ⟨rfl, hb10⟩
      have hC10 := hC9.below hb10 hC9.lt
      have hB10 := hB9.trans (hb10.mono hB9.size)
      have hRb10 := hRb9.below hb10 (Nat.le_refl _)
      have hY10 := hY9.below hb10 (Nat.le_refl _)
      have z3 := hC10.cell (i := 3) rfl
      clear hb10 hA9 hC9 hB9 hRa9 hRb9 hX9 hY9
      go_wp2_with fail
      refine (steps_eq w10 a6 ab lenb k6 capb lb (by omega) hY10 hRb10).mono ?_
      rintro e w11 ⟨rfl, hb11⟩
      have hB11 := hB10.trans (hb11.mono hB10.size)
      clear hb11 hC10 hB10 hRb10 hY10
      go_wp2_with fail
      refine (awake_any _).mono ?_
      rintro e w12 ⟨rfl, hb12⟩
      have hB12 := hB11.trans (hb12.mono hB11.size)
      go_wp2
      go_ret
      exact ⟨rfl, hB12⟩
end Go.Proofs.Ytabdmcgfiabaoaa
