/- Gens, KeepAfters: the walk. No conditions. -/
import Derived.Test.YtoibbeiieelccaaKeepAfter3
import Derived.Test.YtoibbeiieelccaaKeepNeedsWalk
namespace Go.Proofs.Ytoibbeiieelccaa
open Go.RowKit
set_option linter.unusedVariables false

set_option maxHeartbeats 1000000 in
theorem gens_eq (w : World) (ao bo : Option Addr) (n cap cap2 : Nat) (gs : List G) (hn : n ≤ 1000000) (ha : Rs w ao n cap 4 gs G.c) (hb : Rs w bo n cap2 4 gs G.c) :
    Calls Try.prog 29 #[.slice ao n cap, .slice bo n cap2] w fun e w' => e = .returned (.bool true) ∧ Below w.heap.size w w' := by
  have HL := Lib.hid ha.2.2.1
  go_enter Try.func29, Try.ntmps29
  go_wp2
  go_loopw [5] (fun i wr => ∃ k : Nat, k ≤ n ∧ i = .int .i64 k ∧ ∃ m, wr = w.drewN m) (fun i _ => n - (intOf i).toNat)
  case atStart => exact ⟨0, by omega, rfl, 0, rfl⟩
  case round =>
    obtain ⟨k, hk, rfl, m, rfl⟩ := hrel
    by_cases hlt : k < n
    · obtain ⟨b1, o1, rfl, -, h1⟩ := rs_g ha (by omega)
      obtain ⟨b2, o2, rfl, -, h2⟩ := rs_g hb (by omega)
      have hks : k < gs.length := by rw [HL.out]; exact hlt
      obtain ⟨c0, c1, c2, c3⟩ := h1 k hks
      obtain ⟨d0, d1, d2, d3⟩ := h2 k hks
      obtain ⟨x, hx⟩ : ∃ x, x = gs[k] := ⟨_, rfl⟩
      rw [← hx] at c0 c1 c2 c3 d0 d1 d2 d3
      have i1 : (k : Int) < (n : Int) := by omega
      clear h1 h2 hx ha hb hks
      go_wp2
      go_quiet (fail)
      go_wp2
      go_roundw
      case rel => exact ⟨k + 1, by omega, by go_num, by first | exact ⟨_, rfl⟩ | exact dn2 _ _ _⟩
      case measure => simp [intOf]; omega
    · go_wp2
      go_ret
      exact ⟨rfl, below_drewN' (Below.refl _ _) _⟩
theorem gens_true (w : World) (L : List G) (a b : Value) {base base2 : Nat} (hl : L.length ≤ 1000000) (ha : w.ownsRow base 40 4 a L.length (L.flatMap G.c)) (hb : w.ownsRow base2 40 4 b L.length (L.flatMap G.c)) :
    Calls Try.prog 29 #[a, b] w fun e w' => e = .returned (.bool true) ∧ Below w.heap.size w w' := by
  obtain ⟨ao, ca, rfl⟩ := owns_slice ha
  obtain ⟨bo, cb, rfl⟩ := owns_slice hb
  exact gens_eq w ao bo L.length ca cb L hl (rs_owns rfl ha) (rs_owns rfl hb)
set_option maxRecDepth 100000 in
theorem keepAfters_walk (w : World) (ao : Option Addr) (len cap : Nat) (ol : (Kd.sl gK).ok w [.slice ao len cap]) (aw : Option Addr) (lenw capw : Nat) (olw : (Kd.sl (.int .i64)).ok w [.slice aw lenw capw]) (ax : Option Addr) (lenx capx : Nat) (olx : (Kd.sl (.int .i64)).ok w [.slice ax lenx capx]) :
    Calls Try.prog 8 #[.slice ao len cap, .slice aw lenw capw, .slice ax lenx capx] w fun e w' => e = .returned (.bool true) ∧ Below w.heap.size w w' := by
  obtain ⟨gs0, hR0, hgs0⟩ := gens_of ol
  obtain ⟨lw0, hw0, qw0⟩ := ints_of olw
  obtain ⟨lx0, hx0, qx0⟩ := ints_of olx
  clear ol olw olx
  by_cases cw : 60 < lenw
  · by_cases cx : 60 < lenx
    · obtain ⟨bw, offw, rfl, hbww, hcw⟩ := hw0.cell1 (by omega)
      have hw := hw0.take (m := 60) (by omega)
      have qw : ∀ x ∈ lw0.take 60, (Lit.int .i64 x).wf = true := fun x hx => qw0 x (List.mem_of_mem_take hx)
      obtain ⟨lw, hlw⟩ : ∃ lw, lw = lw0.take 60 := ⟨_, rfl⟩
      rw [← hlw] at hw qw
      have uw : (60 : Int) ≤ (capw : Int) := by have := hw0.1; omega
      have vw : 60 ≤ capw := by have := hw0.1; omega
      clear hw0 qw0 hcw hlw hbww
      obtain ⟨bx, offx, rfl, hbwx, hcx⟩ := hx0.cell1 (by omega)
      have hx := hx0.take (m := 60) (by omega)
      have qx : ∀ x ∈ lx0.take 60, (Lit.int .i64 x).wf = true := fun x hx => qx0 x (List.mem_of_mem_take hx)
      obtain ⟨lx, hlx⟩ : ∃ lx, lx = lx0.take 60 := ⟨_, rfl⟩
      rw [← hlx] at hx qx
      have ux : (60 : Int) ≤ (capx : Int) := by have := hx0.1; omega
      have vx : 60 ≤ capx := by have := hx0.1; omega
      clear hx0 qx0 hcx hlx hbwx
      go_enter Try.func8, Try.ntmps8
      go_wp2_with fail
      refine (few_any _ _ _ _ _ hR0).mono ?_
      rintro e w1 ⟨len', rfl, hl60, hR, rfl⟩
      go_wp2_with fail
      have hgs := ok_take2 hgs0 len'
      obtain ⟨gs, hgse⟩ : ∃ gs, gs = gs0.take len' := ⟨_, rfl⟩
      rw [← hgse] at hR hgs
      clear hR0 hgs0 hgse
      refine (after_any _ _ _ _ _ hR hgs (by omega) _ _ _ _ hw qw (by omega) _ _ _ _ hx).mono ?_
      rintro e w1 ⟨v1, rfl, hO1, hB1⟩
      have hR1 := hR.next hB1
      have hW1 := hw.next hB1
      have hX1 := hx.next hB1
      obtain ⟨E, hE⟩ : ∃ E, E = afterE gs lw lx := ⟨_, rfl⟩
      obtain ⟨L, hL⟩ : ∃ L, L = afterR gs lw lx := ⟨_, rfl⟩
      have HE := Lib.hid hE
      have HL := Lib.hid hL
      have hlen : L.length ≤ 1000000 := by
        rw [hL]
        unfold afterR
        split
        · have := afterG_len gs lw (needG gs lw) lx
          have := hR.2.2.1
          omega
        · simp
      rw [← hE]
      rw [← hL] at hO1
      clear hE hL
      go_wp2_with fail
      refine (refAfter_any _ _ _ _ _ hR1 (by omega) _ _ _ _ hW1 (by omega) _ _ _ _ hX1).mono ?_
      rintro e w2 ⟨v2, rfl, hO2, hB2⟩
      have hO3 := owns_below hO1 hB2
      have hb2 := below_via hB1 hB2
      rw [← HE.out]
      rw [← HL.out] at hO2
      clear hO1 hR1 hW1 hX1 hB1 hB2
      go_wp2_with fail
      refine (gens_true _ L _ _ hlen hO3 hO2).mono ?_
      rintro e w3 ⟨rfl, hB3⟩
      have hb3 := below_via hb2 hB3
      clear hO3 hO2 hB3 hb2
      go_wp2_with fail
      refine (awake_any _).mono ?_
      rintro e w4 ⟨rfl, hB4⟩
      have hb4 := below_via hb3 hB4
      go_wp2
      go_ret
      exact ⟨rfl, hb4⟩
    · obtain ⟨bw, offw, rfl, hbww, hcw⟩ := hw0.cell1 (by omega)
      have hw := hw0.take (m := 60) (by omega)
      have qw : ∀ x ∈ lw0.take 60, (Lit.int .i64 x).wf = true := fun x hx => qw0 x (List.mem_of_mem_take hx)
      obtain ⟨lw, hlw⟩ : ∃ lw, lw = lw0.take 60 := ⟨_, rfl⟩
      rw [← hlw] at hw qw
      have uw : (60 : Int) ≤ (capw : Int) := by have := hw0.1; omega
      have vw : 60 ≤ capw := by have := hw0.1; omega
      clear hw0 qw0 hcw hlw hbww
      obtain ⟨lx, hlx⟩ : ∃ lx, lx = lx0 := ⟨_, rfl⟩
      rw [← hlx] at hx0 qx0
      have hx := hx0
      have qx := qx0
      clear hx0 qx0 hlx
      go_enter Try.func8, Try.ntmps8
      go_wp2_with fail
      refine (few_any _ _ _ _ _ hR0).mono ?_
      rintro e w1 ⟨len', rfl, hl60, hR, rfl⟩
      go_wp2_with fail
      have hgs := ok_take2 hgs0 len'
      obtain ⟨gs, hgse⟩ : ∃ gs, gs = gs0.take len' := ⟨_, rfl⟩
      rw [← hgse] at hR hgs
      clear hR0 hgs0 hgse
      refine (after_any _ _ _ _ _ hR hgs (by omega) _ _ _ _ hw qw (by omega) _ _ _ _ hx).mono ?_
      rintro e w1 ⟨v1, rfl, hO1, hB1⟩
      have hR1 := hR.next hB1
      have hW1 := hw.next hB1
      have hX1 := hx.next hB1
      obtain ⟨E, hE⟩ : ∃ E, E = afterE gs lw lx := ⟨_, rfl⟩
      obtain ⟨L, hL⟩ : ∃ L, L = afterR gs lw lx := ⟨_, rfl⟩
      have HE := Lib.hid hE
      have HL := Lib.hid hL
      have hlen : L.length ≤ 1000000 := by
        rw [hL]
        unfold afterR
        split
        · have := afterG_len gs lw (needG gs lw) lx
          have := hR.2.2.1
          omega
        · simp
      rw [← hE]
      rw [← hL] at hO1
      clear hE hL
      go_wp2_with fail
      refine (refAfter_any _ _ _ _ _ hR1 (by omega) _ _ _ _ hW1 (by omega) _ _ _ _ hX1).mono ?_
      rintro e w2 ⟨v2, rfl, hO2, hB2⟩
      have hO3 := owns_below hO1 hB2
      have hb2 := below_via hB1 hB2
      rw [← HE.out]
      rw [← HL.out] at hO2
      clear hO1 hR1 hW1 hX1 hB1 hB2
      go_wp2_with fail
      refine (gens_true _ L _ _ hlen hO3 hO2).mono ?_
      rintro e w3 ⟨rfl, hB3⟩
      have hb3 := below_via hb2 hB3
      clear hO3 hO2 hB3 hb2
      go_wp2_with fail
      refine (awake_any _).mono ?_
      rintro e w4 ⟨rfl, hB4⟩
      have hb4 := below_via hb3 hB4
      go_wp2
      go_ret
      exact ⟨rfl, hb4⟩
  · by_cases cx : 60 < lenx
    · obtain ⟨lw, hlw⟩ : ∃ lw, lw = lw0 := ⟨_, rfl⟩
      rw [← hlw] at hw0 qw0
      have hw := hw0
      have qw := qw0
      clear hw0 qw0 hlw
      obtain ⟨bx, offx, rfl, hbwx, hcx⟩ := hx0.cell1 (by omega)
      have hx := hx0.take (m := 60) (by omega)
      have qx : ∀ x ∈ lx0.take 60, (Lit.int .i64 x).wf = true := fun x hx => qx0 x (List.mem_of_mem_take hx)
      obtain ⟨lx, hlx⟩ : ∃ lx, lx = lx0.take 60 := ⟨_, rfl⟩
      rw [← hlx] at hx qx
      have ux : (60 : Int) ≤ (capx : Int) := by have := hx0.1; omega
      have vx : 60 ≤ capx := by have := hx0.1; omega
      clear hx0 qx0 hcx hlx hbwx
      go_enter Try.func8, Try.ntmps8
      go_wp2_with fail
      refine (few_any _ _ _ _ _ hR0).mono ?_
      rintro e w1 ⟨len', rfl, hl60, hR, rfl⟩
      go_wp2_with fail
      have hgs := ok_take2 hgs0 len'
      obtain ⟨gs, hgse⟩ : ∃ gs, gs = gs0.take len' := ⟨_, rfl⟩
      rw [← hgse] at hR hgs
      clear hR0 hgs0 hgse
      refine (after_any _ _ _ _ _ hR hgs (by omega) _ _ _ _ hw qw (by omega) _ _ _ _ hx).mono ?_
      rintro e w1 ⟨v1, rfl, hO1, hB1⟩
      have hR1 := hR.next hB1
      have hW1 := hw.next hB1
      have hX1 := hx.next hB1
      obtain ⟨E, hE⟩ : ∃ E, E = afterE gs lw lx := ⟨_, rfl⟩
      obtain ⟨L, hL⟩ : ∃ L, L = afterR gs lw lx := ⟨_, rfl⟩
      have HE := Lib.hid hE
      have HL := Lib.hid hL
      have hlen : L.length ≤ 1000000 := by
        rw [hL]
        unfold afterR
        split
        · have := afterG_len gs lw (needG gs lw) lx
          have := hR.2.2.1
          omega
        · simp
      rw [← hE]
      rw [← hL] at hO1
      clear hE hL
      go_wp2_with fail
      refine (refAfter_any _ _ _ _ _ hR1 (by omega) _ _ _ _ hW1 (by omega) _ _ _ _ hX1).mono ?_
      rintro e w2 ⟨v2, rfl, hO2, hB2⟩
      have hO3 := owns_below hO1 hB2
      have hb2 := below_via hB1 hB2
      rw [← HE.out]
      rw [← HL.out] at hO2
      clear hO1 hR1 hW1 hX1 hB1 hB2
      go_wp2_with fail
      refine (gens_true _ L _ _ hlen hO3 hO2).mono ?_
      rintro e w3 ⟨rfl, hB3⟩
      have hb3 := below_via hb2 hB3
      clear hO3 hO2 hB3 hb2
      go_wp2_with fail
      refine (awake_any _).mono ?_
      rintro e w4 ⟨rfl, hB4⟩
      have hb4 := below_via hb3 hB4
      go_wp2
      go_ret
      exact ⟨rfl, hb4⟩
    · obtain ⟨lw, hlw⟩ : ∃ lw, lw = lw0 := ⟨_, rfl⟩
      rw [← hlw] at hw0 qw0
      have hw := hw0
      have qw := qw0
      clear hw0 qw0 hlw
      obtain ⟨lx, hlx⟩ : ∃ lx, lx = lx0 := ⟨_, rfl⟩
      rw [← hlx] at hx0 qx0
      have hx := hx0
      have qx := qx0
      clear hx0 qx0 hlx
      go_enter Try.func8, Try.ntmps8
      go_wp2_with fail
      refine (few_any _ _ _ _ _ hR0).mono ?_
      rintro e w1 ⟨len', rfl, hl60, hR, rfl⟩
      go_wp2_with fail
      have hgs := ok_take2 hgs0 len'
      obtain ⟨gs, hgse⟩ : ∃ gs, gs = gs0.take len' := ⟨_, rfl⟩
      rw [← hgse] at hR hgs
      clear hR0 hgs0 hgse
      refine (after_any _ _ _ _ _ hR hgs (by omega) _ _ _ _ hw qw (by omega) _ _ _ _ hx).mono ?_
      rintro e w1 ⟨v1, rfl, hO1, hB1⟩
      have hR1 := hR.next hB1
      have hW1 := hw.next hB1
      have hX1 := hx.next hB1
      obtain ⟨E, hE⟩ : ∃ E, E = afterE gs lw lx := ⟨_, rfl⟩
      obtain ⟨L, hL⟩ : ∃ L, L = afterR gs lw lx := ⟨_, rfl⟩
      have HE := Lib.hid hE
      have HL := Lib.hid hL
      have hlen : L.length ≤ 1000000 := by
        rw [hL]
        unfold afterR
        split
        · have := afterG_len gs lw (needG gs lw) lx
          have := hR.2.2.1
          omega
        · simp
      rw [← hE]
      rw [← hL] at hO1
      clear hE hL
      go_wp2_with fail
      refine (refAfter_any _ _ _ _ _ hR1 (by omega) _ _ _ _ hW1 (by omega) _ _ _ _ hX1).mono ?_
      rintro e w2 ⟨v2, rfl, hO2, hB2⟩
      have hO3 := owns_below hO1 hB2
      have hb2 := below_via hB1 hB2
      rw [← HE.out]
      rw [← HL.out] at hO2
      clear hO1 hR1 hW1 hX1 hB1 hB2
      go_wp2_with fail
      refine (gens_true _ L _ _ hlen hO3 hO2).mono ?_
      rintro e w3 ⟨rfl, hB3⟩
      have hb3 := below_via hb2 hB3
      clear hO3 hO2 hB3 hb2
      go_wp2_with fail
      refine (awake_any _).mono ?_
      rintro e w4 ⟨rfl, hB4⟩
      have hb4 := below_via hb3 hB4
      go_wp2
      go_ret
      exact ⟨rfl, hb4⟩
end Go.Proofs.Ytoibbeiieelccaa
