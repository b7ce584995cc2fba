/- ChainFolds: the walk. No conditions. -/
import Derived.Test.YtabdmcgfiabaoaaChainFoldWalk
import Derived.Test.YtabdmcgfiabaoaaChainRefFold
namespace Go.Proofs.Ytabdmcgfiabaoaa
open Go.RowKit
set_option linter.unusedVariables false

set_option maxRecDepth 100000 in
set_option maxHeartbeats 1000000 in
theorem chainFolds_walk (w : World) (ao : Option Addr) (len cap : Nat) (ol : (Kd.sl (.agg [.str, .str, .int .i64, .sl (.agg [.int .i64, .int .i64, .str])])).ok w [.slice ao len cap]) :
    Calls Try.prog 5 #[.slice ao len cap] w fun e w' => e = .returned (.bool true) ∧ Below w.heap.size w w' := by
  obtain ⟨l, hR, hg⟩ := deltas_of ol
  have hdz := deltaZ_run
  have HLEN := Lib.hid hR.2.2.1
  have HG := Lib.hid hg
  have hcl : len ≤ cap := hR.1
  clear ol hg
  go_enter Try.func5, Try.ntmps5
  by_cases h8 : 8 < len
  · go_wp2_with fail
    refine (awake_any _).mono ?_
    rintro e w2 ⟨rfl, hb2⟩
    go_wp2
    go_ret
    exact ⟨rfl, hb2⟩
  · go_wp2
    go_loopw [3] (fun i wr => ∃ k : Nat, i = .int .i64 k ∧ k ≤ len ∧ Below w.heap.size w wr) (fun i _ => len - (intOf i).toNat)
    case atStart => exact ⟨0, rfl, by omega, Below.refl _ _⟩
    case round =>
      obtain ⟨k, rfl, hk, hB⟩ := hrel
      by_cases hlt : k < len
      · obtain ⟨b, off, rfl, hbw, hc⟩ := rs_d hR (by omega)
        have hks : k < l.length := by rw [HLEN.out]; exact hlt
        obtain ⟨c0, c1, c2, c3⟩ := hc k hks
        have hgx := HG.out _ (List.getElem_mem hks)
        obtain ⟨x, hx⟩ : ∃ x, x = l[k] := ⟨_, rfl⟩
        rw [← hx] at c0 c1 c2 c3 hgx
        obtain ⟨⟨bx, mx, sx, lx⟩, ax, nx, kx⟩ := x
        simp only at c0 c1 c2 c3
        have d0 := (hB.cell (p := ⟨b, off + k * 4, none⟩) hbw).trans c0
        have d1 := (hB.cell (p := ⟨b, off + k * 4 + 1, none⟩) hbw).trans c1
        have d2 := (hB.cell (p := ⟨b, off + k * 4 + 2, none⟩) hbw).trans c2
        have d3 := (hB.cell (p := ⟨b, off + k * 4 + 3, none⟩) hbw).trans c3
        have i1 : (k : Int) < (len : Int) := by omega
        have hgw := hgx.below hB
        have HGW := Lib.hid hgw
        clear c0 c1 c2 c3 hc hx hgx hgw hks
        go_wp2_with fail
        refine (small_any wr _ _ _ rfl rfl rfl ax nx kx lx HGW.out.1 HGW.out.2.2.2.2 (Nat.le_trans HGW.out.1.1 HGW.out.1.2.1)).mono ?_
        rintro e w1 ⟨⟨r, rfl, hT⟩, hb1⟩
        have hB1 := hB.trans (hb1.mono hB.size)
        clear hT d0 d1 d2 d3 hB hb1
        cases r with
        | false =>
          go_wp2_with fail
          refine (awake_any _).mono ?_
          rintro e w2 ⟨rfl, hb2⟩
          have hB2 := hB1.trans (hb2.mono hB1.size)
          go_wp2
          go_ret
          exact ⟨rfl, hB2⟩
        | true =>
          go_wp2
          go_roundw
          case rel => exact ⟨k + 1, by go_num, by omega, hB1⟩
          case measure => simp [intOf]; omega
      · have hRr := hR.below hB (Nat.le_refl _)
        have hgr : ∀ x ∈ l, x.good wr := fun x hx => (HG.out x hx).below hB
        go_wp2_with fail
        refine (fold_any wr ao len cap l hRr hgr (by omega)).mono ?_
        rintro e w3 ⟨E, D, v, rfl, hfr, hlen, hO3, hb3⟩
        have hR3 := hRr.below hb3 (Nat.le_refl _)
        have hg3 : ∀ x ∈ l, x.good w3 := fun x hx => (hgr x hx).below hb3
        have hB3 := hB.trans (hb3.mono hB.size)
        have HFR := Lib.hid hfr
        obtain ⟨Db, Dm, Ds, Dl⟩ := D
        simp only at hO3 hlen
        simp only
        obtain ⟨ao3, cp3, rfl⟩ := owns_slice hO3
        obtain ⟨V, hV⟩ : ∃ V, V = w3.alloc (Obj.cells #[.string Db, .string Dm, .int .i64 Ds, .slice ao3 Dl.length cp3] 25) := ⟨_, rfl⟩
        obtain ⟨p5, hp5⟩ : ∃ p, p = w3.heap.size := ⟨_, rfl⟩
        have hDV : Blk V p5 [.string Db, .string Dm, .int .i64 Ds, .slice ao3 Dl.length cp3] 25 := by rw [hV, hp5]; exact Blk.new w3 _ _
        have hbV : Below w3.heap.size w3 V := by rw [hV]; exact below_alloc _ _
        have hOV := hO3.below hbV
        have hBV := hB3.trans (hbV.mono hB3.size)
        have hRV := hR3.below hbV (Nat.le_refl _)
        have hgV : ∀ x ∈ l, x.good V := fun x hx => (hg3 x hx).below hbV
        have HV := Lib.hid hV
        have HP5 := Lib.hid hp5
        clear hfr hb3 hB hB3 hRr hR3 hgr hg3 hO3 hV hp5 hbV
        go_wp2_with fail
        rw [← HV.out, ← HP5.out]
        refine (refFold_any V ao len cap l hRV hgV (by omega)).mono ?_
        rintro e w4 ⟨E2, D2, v2, rfl, hfr, hlen2, hO4, hb4⟩
        obtain ⟨rfl, rfl⟩ := HFR.out.one hfr
        simp only at hO4
        simp only
        obtain ⟨ao4, cp4, rfl⟩ := owns_slice hO4
        have hD4 := hDV.below hb4 hDV.lt
        have hO34 := hOV.below hb4
        have hB4 := hBV.trans (hb4.mono hBV.size)
        obtain ⟨U, hU⟩ : ∃ U, U = w4.alloc (Obj.cells #[.string Db, .string Dm, .int .i64 Ds, .slice ao4 Dl.length cp4] 25) := ⟨_, rfl⟩
        have hDU : Blk U p5 [.string Db, .string Dm, .int .i64 Ds, .slice ao3 Dl.length cp3] 25 := by rw [hU]; exact hD4.alloc _
        have hEU : Blk U w4.heap.size [.string Db, .string Dm, .int .i64 Ds, .slice ao4 Dl.length cp4] 25 := by rw [hU]; exact Blk.new w4 _ _
        have hbU : Below w4.heap.size w4 U := by rw [hU]; exact below_alloc _ _
        have hOU := hO34.below hbU
        have hOU4 := hO4.below hbU
        have hBU := hB4.trans (hbU.mono hB4.size)
        have z0 := hDU.cell (i := 0) rfl
        have z1 := hDU.cell (i := 1) rfl
        have z2 := hDU.cell (i := 2) rfl
        have z3 := hDU.cell (i := 3) rfl
        have u0 := hEU.cell (i := 0) rfl
        have u1 := hEU.cell (i := 1) rfl
        have u2 := hEU.cell (i := 2) rfl
        have u3 := hEU.cell (i := 3) rfl
        rw [hU] at z0 z1 z2 z3 u0 u1 u2 u3
        have HU := Lib.hid hU
        clear hDV hD4 hOV hO34 hO4 hb4 hbU hB4 hBV hRV hgV hU hfr hDU hEU
        go_wp2_with fail
        rw [← HU.out]
        refine (same_true U Db Dm Ds Dl _ _ (by omega) hOU hOU4).mono ?_
        rintro e w5 ⟨rfl, hb5⟩
        have hB5 := hBU.trans (hb5.mono hBU.size)
        clear z0 z1 z2 z3 u0 u1 u2 u3 hb5 hBU hOU hOU4
        go_wp2_with fail
        refine (awake_any _).mono ?_
        rintro e w6 ⟨rfl, hb6⟩
        have hB6 := hB5.trans (hb6.mono hB5.size)
        go_wp2
        go_ret
        exact ⟨rfl, hB6⟩
end Go.Proofs.Ytabdmcgfiabaoaa
