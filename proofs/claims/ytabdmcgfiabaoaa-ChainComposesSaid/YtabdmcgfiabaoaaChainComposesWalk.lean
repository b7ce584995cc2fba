/- ChainComposes: the walk. No conditions. -/
import Derived.Test.YtabdmcgfiabaoaaChainDeltas
namespace Go.Proofs.Ytabdmcgfiabaoaa
open Go.RowKit
set_option linter.unusedVariables false

set_option maxRecDepth 100000 in
set_option maxHeartbeats 1000000 in
theorem chainComposes_walk (w : World) (c0 : Array Value) (o0 : Kd.ok w (.agg [.str, .str, .int .i64, .sl (.agg [.int .i64, .int .i64, .str])]) c0.toList) (c1 : Array Value) (o1 : Kd.ok w (.agg [.str, .str, .int .i64, .sl (.agg [.int .i64, .int .i64, .str])]) c1.toList) :
    Calls Try.prog 4 #[.agg c0, .agg c1] w fun e w' => e = .returned (.bool true) ∧ Below w.heap.size w w' := by
  obtain ⟨⟨ba, ma, sa, la⟩, aa, lena, capa, rfl, hRa, oka⟩ := dl_of_arr o0
  obtain ⟨⟨bb, mb, sb, lb⟩, ab, lenb, capb, rfl, hRb, okb⟩ := dl_of_arr o1
  simp only at hRa hRb
  have hdz := deltaZ_run
  obtain ⟨W, hW⟩ : ∃ W, W = (w.alloc (Obj.cells #[.string ba, .string ma, .int .i64 sa, .slice aa lena capa] 25)).alloc (Obj.cells #[.string bb, .string mb, .int .i64 sb, .slice ab lenb capb] 25) := ⟨_, rfl⟩
  have hA : Blk W w.heap.size [.string ba, .string ma, .int .i64 sa, .slice aa lena capa] 25 := by rw [hW]; exact (Blk.new w _ _).alloc _
  have hC : Blk W (w.heap.size + 1) [.string bb, .string mb, .int .i64 sb, .slice ab lenb capb] 25 := by
    have := Blk.new (w.alloc (Obj.cells #[.string ba, .string ma, .int .i64 sa, .slice aa lena capa] 25)) [.string bb, .string mb, .int .i64 sb, .slice ab lenb capb] 25
    rw [World.size_alloc] at this
    rw [hW]; exact this
  have hB : Below w.heap.size w W := by rw [hW]; exact (below_alloc w _).alloc (by simp) _
  have q0 := hA.cell (i := 0) rfl
  have q1 := hA.cell (i := 1) rfl
  have q2 := hA.cell (i := 2) rfl
  have q3 := hA.cell (i := 3) rfl
  rw [hW] at q0 q1 q2 q3
  have hRaW := hRa.below hB (Nat.le_refl _)
  have hRbW := hRb.below hB (Nat.le_refl _)
  obtain ⟨p2, hp2⟩ : ∃ p, p = w.heap.size := ⟨_, rfl⟩
  obtain ⟨p3, hp3⟩ : ∃ p, p = w.heap.size + 1 := ⟨_, rfl⟩
  rw [← hp2] at hA
  rw [← hp3] at hC
  have HW := Lib.hid hW
  have HP2 := Lib.hid hp2
  have HP3 := Lib.hid hp3
  have OKA := Lib.hid oka
  have OKB := Lib.hid okb
  clear hW hp2 hp3 hRa hRb o0 o1 oka okb
  go_enter Try.func4, Try.ntmps4
  go_wp2_with fail
  rw [← HW.out, ← HP3.out, ← HP2.out]
  refine (small_any W _ _ _ rfl rfl rfl aa lena capa la hRaW OKA.out.2.2.2 (Nat.le_trans hRaW.1 hRaW.2.1)).mono ?_
  rintro e w1 ⟨⟨r, rfl, hT⟩, hb1⟩
  have hA1 := hA.below hb1 hA.lt
  have hC1 := hC.below hb1 hC.lt
  have hB1 := hB.trans (hb1.mono hB.size)
  have hRa1 := hRaW.below hb1 (Nat.le_refl _)
  have hRb1 := hRbW.below hb1 (Nat.le_refl _)
  clear q0 q1 q2 q3 hb1 hB hRaW hRbW hA hC
  cases r with
  | false =>
    clear hT hA1 hC1
    go_wp2_with fail
    refine (awake_any _).mono ?_
    rintro e w2 ⟨rfl, hb2⟩
    have hB2 := hB1.trans (hb2.mono hB1.size)
    go_wp2
    go_ret
    exact ⟨rfl, hB2⟩
  | true =>
    have y0 := hC1.cell (i := 0) rfl
    have y1 := hC1.cell (i := 1) rfl
    have y2 := hC1.cell (i := 2) rfl
    have y3 := hC1.cell (i := 3) rfl
    clear hT
    go_wp2_with fail
    refine (small_any w1 _ _ _ rfl rfl rfl ab lenb capb lb hRb1 OKB.out.2.2.2 (Nat.le_trans hRb1.1 hRb1.2.1)).mono ?_
    rintro e w2 ⟨⟨r, rfl, hT⟩, hb2⟩
    have hA2 := hA1.below hb2 hA1.lt
    have hC2 := hC1.below hb2 hC1.lt
    have hB2 := hB1.trans (hb2.mono hB1.size)
    have hRa2 := hRa1.below hb2 (Nat.le_refl _)
    have hRb2 := hRb1.below hb2 (Nat.le_refl _)
    clear y0 y1 y2 y3 hb2 hB1 hRa1 hRb1 hA1 hC1
    cases r with
    | false =>
      clear hT hA2 hC2
      go_wp2_with fail
      refine (awake_any _).mono ?_
      rintro e w3 ⟨rfl, hb3⟩
      have hB3 := hB2.trans (hb3.mono hB2.size)
      go_wp2
      go_ret
      exact ⟨rfl, hB3⟩
    | true =>
      have x0 := hA2.cell (i := 0) rfl
      have x1 := hA2.cell (i := 1) rfl
      have x2 := hA2.cell (i := 2) rfl
      have x3 := hA2.cell (i := 3) rfl
      have y0 := hC2.cell (i := 0) rfl
      have y1 := hC2.cell (i := 1) rfl
      have y2 := hC2.cell (i := 2) rfl
      have y3 := hC2.cell (i := 3) rfl
      clear hT
      go_wp2_with fail
      refine (compose_any w2 ba ma bb mb sa sb la lb aa lena capa ab lenb capb hRa2 hRb2 OKA.out OKB.out).mono ?_
      rintro e w3 ⟨E, D, v, rfl, hcr, hO3, hb3⟩
      have hA3 := hA2.below hb3 hA2.lt
      have hC3 := hC2.below hb3 hC2.lt
      have hB3 := hB2.trans (hb3.mono hB2.size)
      have hRa3 := hRa2.below hb3 (Nat.le_refl _)
      have hRb3 := hRb2.below hb3 (Nat.le_refl _)
      have HCR := Lib.hid hcr
      obtain ⟨Db, Dm, Ds, Dl⟩ := D
      simp only at hO3
      simp only
      obtain ⟨ao3, cp3, rfl⟩ := owns_slice hO3
      obtain ⟨V, hV⟩ : ∃ V, V = w3.alloc (Obj.cells #[.string Db, .string Dm, .int .i64 Ds, .slice ao3 Dl.length cp3] 25) := ⟨_, rfl⟩
      obtain ⟨p5, hp5⟩ : ∃ p, p = w3.heap.size := ⟨_, rfl⟩
      have hDV : Blk V p5 [.string Db, .string Dm, .int .i64 Ds, .slice ao3 Dl.length cp3] 25 := by rw [hV, hp5]; exact Blk.new w3 _ _
      have hAV : Blk V p2 [.string ba, .string ma, .int .i64 sa, .slice aa lena capa] 25 := by rw [hV]; exact hA3.alloc _
      have hCV : Blk V p3 [.string bb, .string mb, .int .i64 sb, .slice ab lenb capb] 25 := by rw [hV]; exact hC3.alloc _
      have hbV : Below w3.heap.size w3 V := by rw [hV]; exact below_alloc _ _
      have hOV := hO3.below hbV
      have hBV := hB3.trans (hbV.mono hB3.size)
      have hRaV := hRa3.below hbV (Nat.le_refl _)
      have hRbV := hRb3.below hbV (Nat.le_refl _)
      have x0 := hAV.cell (i := 0) rfl
      have x1 := hAV.cell (i := 1) rfl
      have x2 := hAV.cell (i := 2) rfl
      have x3 := hAV.cell (i := 3) rfl
      have y0 := hCV.cell (i := 0) rfl
      have y1 := hCV.cell (i := 1) rfl
      have y2 := hCV.cell (i := 2) rfl
      have y3 := hCV.cell (i := 3) rfl
      rw [hV] at x0 x1 x2 x3 y0 y1 y2 y3
      have HV := Lib.hid hV
      have HP5 := Lib.hid hp5
      clear hA2 hC2 hA3 hC3 hb3 hbV hB2 hB3 hRa2 hRb2 hRa3 hRb3 hO3 hV hp5 hcr hAV hCV
      go_wp2_with fail
      rw [← HV.out, ← HP5.out]
      refine (refCompose_any V ba ma bb mb sa sb la lb aa lena capa ab lenb capb hRaV hRbV OKA.out OKB.out).mono ?_
      rintro e w4 ⟨E2, D2, v2, rfl, hcr, hO4, hb4⟩
      obtain ⟨rfl, rfl⟩ := HCR.out.one hcr
      simp only at hO4
      simp only
      have hlen := HCR.out.len
      simp only at hlen
      obtain ⟨ao4, cp4, rfl⟩ := owns_slice hO4
      have hD4 := hDV.below hb4 hDV.lt
      have hO34 := hOV.below hb4
      have hB4 := hBV.trans (hb4.mono hBV.size)
      obtain ⟨U, hU⟩ : ∃ U, U = w4.alloc (Obj.cells #[.string Db, .string Dm, .int .i64 Ds, .slice ao4 Dl.length cp4] 25) := ⟨_, rfl⟩
      have hDU : Blk U p5 [.string Db, .string Dm, .int .i64 Ds, .slice ao3 Dl.length cp3] 25 := by rw [hU]; exact hD4.alloc _
      have hEU : Blk U w4.heap.size [.string Db, .string Dm, .int .i64 Ds, .slice ao4 Dl.length cp4] 25 := by rw [hU]; exact Blk.new w4 _ _
      have hbU : Below w4.heap.size w4 U := by rw [hU]; exact below_alloc _ _
      have hOU := hO34.below hbU
      have hOU4 := hO4.below hbU
      have hBU := hB4.trans (hbU.mono hB4.size)
      have z0 := hDU.cell (i := 0) rfl
      have z1 := hDU.cell (i := 1) rfl
      have z2 := hDU.cell (i := 2) rfl
      have z3 := hDU.cell (i := 3) rfl
      have u0 := hEU.cell (i := 0) rfl
      have u1 := hEU.cell (i := 1) rfl
      have u2 := hEU.cell (i := 2) rfl
      have u3 := hEU.cell (i := 3) rfl
      rw [hU] at z0 z1 z2 z3 u0 u1 u2 u3
      have HU := Lib.hid hU
      clear x0 x1 x2 x3 y0 y1 y2 y3 hDV hD4 hOV hO34 hO4 hb4 hbU hB4 hBV hRaV hRbV hU hcr hDU hEU
      go_wp2_with fail
      rw [← HU.out]
      refine (same_true U Db Dm Ds Dl _ _ (by omega) hOU hOU4).mono ?_
      rintro e w5 ⟨rfl, hb5⟩
      have hB5 := hBU.trans (hb5.mono hBU.size)
      clear z0 z1 z2 z3 u0 u1 u2 u3 hb5 hBU hOU hOU4
      go_wp2_with fail
      refine (awake_any _).mono ?_
      rintro e w6 ⟨rfl, hb6⟩
      have hB6 := hB5.trans (hb6.mono hB5.size)
      go_wp2
      go_ret
      exact ⟨rfl, hB6⟩
end Go.Proofs.Ytabdmcgfiabaoaa
