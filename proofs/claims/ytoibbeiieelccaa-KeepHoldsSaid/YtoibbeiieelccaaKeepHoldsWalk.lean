/- KeepHolds: the walk. No conditions. -/
import Derived.Test.YtoibbeiieelccaaKeepHoldsMath
import Derived.Test.YtoibbeiieelccaaKeepNeedsWalk
namespace Go.Proofs.Ytoibbeiieelccaa
open Go.RowKit
set_option linter.unusedVariables false

def fillL (y : Int) (n k : Nat) : List Int := List.replicate k y ++ List.replicate (n - k) 0
theorem fillL_get (y : Int) (n k : Nat) (h : k < n) : (intV (fillL y n k))[k]? = some (.int .i64 0) := by
  unfold intV fillL
  rw [List.getElem?_map, List.getElem?_append_right (by simp), List.length_replicate, Nat.sub_self, List.getElem?_replicate, if_pos (by omega)]
  rfl
theorem fillL_set (y : Int) (n k : Nat) (h : k < n) : (intV (fillL y n k)).set k (.int .i64 y) = intV (fillL y n (k + 1)) := by
  unfold intV fillL
  rw [show n - k = (n - (k + 1)) + 1 by omega, List.replicate_succ, List.replicate_succ']
  simp

set_option maxRecDepth 100000 in
set_option maxHeartbeats 2000000 in
theorem keepHolds_walk (w : World) (ao : Option Addr) (len cap : Nat) (ol : (Kd.sl gK).ok w [.slice ao len cap]) (aw : Option Addr) (lenw capw : Nat) (olw : (Kd.sl (.int .i64)).ok w [.slice aw lenw capw]) (y : Int) (wy : (Lit.int .i64 y).wf = true) :
    Calls Try.prog 9 #[.slice ao len cap, .slice aw lenw capw, .int .i64 y] w fun e w' => e = .returned (.bool true) ∧ Below w.heap.size w w' := by
  obtain ⟨i0, hi, hz0, hz1, hz2⟩ := info_parts infoInt
  obtain ⟨gs0, hR0, hgs0⟩ := gens_of ol
  obtain ⟨lw0, hw0, qw0⟩ := ints_of olw
  clear ol olw
  by_cases cw : 60 < lenw
  · obtain ⟨b, off, rfl, hbw, hc⟩ := hw0.cell1 (by omega)
    have hw := hw0.take (m := 60) (by omega)
    have qw : ∀ x ∈ lw0.take 60, (Lit.int .i64 x).wf = true := fun x hx => qw0 x (List.mem_of_mem_take hx)
    obtain ⟨lw, hl⟩ : ∃ lw, lw = lw0.take 60 := ⟨_, rfl⟩
    rw [← hl] at hw qw
    have u1 : (60 : Int) ≤ (capw : Int) := by have := hw0.1; omega
    have u2 : 60 ≤ capw := by have := hw0.1; omega
    have hn60 : 60 ≤ 60 := Nat.le_refl _
    clear hw0 qw0 hc hl hbw
    go_enter Try.func9, Try.ntmps9
    go_wp2_with fail
    refine (few_any _ _ _ _ _ hR0).mono ?_
    rintro e w1 ⟨len', rfl, hl60, hR, rfl⟩
    go_wp2_with fail
    have hgs := ok_take2 hgs0 len'
    obtain ⟨gs, hgse⟩ : ∃ gs, gs = gs0.take len' := ⟨_, rfl⟩
    rw [← hgse] at hR hgs
    clear hR0 hgs0 hgse
    refine (need_any _ _ _ _ _ hR hgs (by omega) _ _ _ _ hw qw (by omega)).mono ?_
    rintro e w1 ⟨nv, rfl, hO1, hB1⟩
    obtain ⟨E, hE⟩ : ∃ E, E = needE gs lw := ⟨_, rfl⟩
    rw [← hE]
    by_cases hE0 : E = 0
    · by_cases hy1 : y < 0
      · subst hE0
        clear hE hO1
        go_wp2_with fail
        refine (awake_any _).mono ?_
        rintro e w4 ⟨rfl, hB4⟩
        have hb4 := below_via hB1 hB4
        go_wp2
        go_ret
        exact ⟨rfl, hb4⟩
      · by_cases hy2 : 524288 < y
        · subst hE0
          clear hE hO1
          go_wp2_with fail
          refine (awake_any _).mono ?_
          rintro e w4 ⟨rfl, hB4⟩
          have hb4 := below_via hB1 hB4
          go_wp2
          go_ret
          exact ⟨rfl, hb4⟩
        · have hnr := need_len0 (hE.symm.trans hE0)
          have hok : Ok gs := chk_all (by
            have h0 := hE.symm.trans hE0
            unfold needE at h0
            split at h0
            · rename_i h; exact absurd h0 h
            · rename_i h; simpa using h)
          have hall : ∀ x ∈ lw, x ∈ gl gs := by
            have h0 := hE.symm.trans hE0
            unfold needE at h0
            rw [if_neg (by simp [ok_chk hok])] at h0
            intro x hx
            refine Classical.byContradiction fun hn => ?_
            rw [if_pos ⟨x, hx, hn⟩] at h0
            cases h0
          obtain ⟨N, hN⟩ : ∃ N, N = needG gs lw := ⟨_, rfl⟩
          have hNl : N.length ≤ gs.length := by rw [hN]; exact needG_len gs lw
          rw [hnr, ← hN] at hO1
          obtain ⟨va, vc, rfl⟩ := owns_slice hO1
          have HOK := Lib.hid hok
          have HALL := Lib.hid hall
          have HN := Lib.hid hN
          have HE := Lib.hid hE
          obtain ⟨nl, hnl⟩ : ∃ nl, nl = N.length := ⟨_, rfl⟩
          have HNL := Lib.hid hnl
          have hnl60 : nl ≤ 60 := by have := hR.2.2.1; omega
          rw [← hnl] at hO1
          rw [← hnl]
          subst hE0
          clear hok hall hN hNl hnr hE hnl
          obtain ⟨W2, hmk, hOw, hGr⟩ := run_make_full (P := Try.prog) w1 w1.heap.size 23 3 i0 (.int .i64 0) 1 Try.underlying23 hi hz0 hz1 .i64 .i64 nl (by rw [hz2]; omega) (by unfold maxLen; omega) (Nat.le_refl _)
          have HOW := Lib.hid hOw
          have HGR := Lib.hid hGr
          have HO1 := Lib.hid hO1
          clear hOw hGr hO1
          have hf0 : W2.ownsRow w1.heap.size 3 1 (.slice (some ⟨w1.heap.size, 0, none⟩) nl nl) nl (intV (fillL y nl 0)) := by
            have := HOW.out
            rw [Nat.mul_one, show (Value.int .i64 0).cells = #[Value.int .i64 0] from rfl, toList_madeCells_one] at this
            simpa [intV, fillL] using this
          have hb0 : Below w1.heap.size w1 W2 := (Below.refl _ _).grown HGR.out (Nat.le_refl _) (by simp)
          go_wp2
          clear hmk
          go_loopw [10] (fun i wr => ∃ k : Nat, k ≤ nl ∧ i = .int .i64 k ∧ wr.ownsRow w1.heap.size 3 1 (.slice (some ⟨w1.heap.size, 0, none⟩) nl nl) nl (intV (fillL y nl k)) ∧ Below w1.heap.size w1 wr) (fun i _ => nl - (intOf i).toNat)
          case atStart => exact ⟨0, by omega, rfl, hf0, hb0⟩
          case round =>
            clear hf0 hb0
            obtain ⟨k, hk, rfl, hF, hB⟩ := hrel
            by_cases hlt : k < nl
            · have c0 : wr.cell? ⟨w1.heap.size, k, none⟩ = some (.int .i64 0) := by rw [hF.cellAt k (by omega)]; exact fillL_get y nl k hlt
              have f0 := hF.frozenAt k
              have hst := (hF.stored k (.int .i64 y)).1
              have hsg := (hF.stored k (.int .i64 y)).2
              have i1 : (k : Int) < (nl : Int) := by omega
              rw [fillL_set y nl k hlt] at hst
              have HST := Lib.hid hst
              have HSG := Lib.hid hsg
              have HB := Lib.hid hB
              clear hst hsg hF hB
              go_wp2
              go_roundw
              case rel => exact ⟨k + 1, by omega, by go_num, HST.out, HB.out.grown HSG.out HB.out.size (by intro q hq; injection hq with hq; omega)⟩
              case measure => simp [intOf]; omega
            · have hfl : fillL y nl k = List.replicate nl y := by
                have hkk : k = nl := by omega
                unfold fillL; rw [hkk]; simp
              rw [hfl] at hF
              have hX := rs_ints hF
              have hB2 := below_via hB1 hB
              have hR2 := hR.below hB2 (Nat.le_refl _)
              have hw2 := hw.below hB2 (Nat.le_refl _)
              clear hfl hF
              go_wp2_with fail
              refine (after_any _ _ _ _ _ hR2 hgs (by omega) _ _ _ _ hw2 qw (by omega) _ _ _ _ hX).mono ?_
              rintro e w3 ⟨v3, rfl, hO3, hB3⟩
              have hAE : afterE gs lw (List.replicate nl y) = 0 := by
                unfold afterE
                rw [if_neg (by rw [← HE.out]; decide), if_neg (by rw [List.length_replicate, HNL.out, HN.out]; simp)]
              have hAR : afterR gs lw (List.replicate nl y) = afterG gs lw (needG gs lw) (List.replicate nl y) := by unfold afterR; rw [if_pos hAE]
              have hwy : ∀ b ∈ List.replicate nl y, 0 ≤ b ∧ b ≤ 524288 := by intro b hb; rw [(List.mem_replicate.1 hb).2]; omega
              have hokA := after_ok HOK.out.toE lw _ hwy
              have hsh := road_shorter HOK.out.toE lw _ hwy
              have hmA := fun g => mem_after_gl (gs := gs) (ws := lw) (N := needG gs lw) (whole := List.replicate nl y) (g := g)
              rw [hAE]
              rw [hAR] at hO3
              obtain ⟨A, hA⟩ : ∃ A, A = afterG gs lw (needG gs lw) (List.replicate nl y) := ⟨_, rfl⟩
              have hAl : A.length ≤ gs.length := by rw [hA]; exact afterG_len _ _ _ _
              rw [← hA] at hO3 hokA hsh hmA
              obtain ⟨aa, ac, rfl⟩ := owns_slice hO3
              have hRA := rs_owns rfl hO3
              have HA := Lib.hid hokA.toOk
              have HSH := Lib.hid hsh
              have HMA := Lib.hid hmA
              have hb3 := below_via hB2 hB3
              have hR3 := hR2.next hB3
              have hw3 := hw2.next hB3
              have hA60 : A.length ≤ 60 := by have := hR.2.2.1; omega
              clear hO3 hokA hsh hmA hA hAR hAE hwy hX hB hB2
              go_wp2_with fail
              refine (check_any _ _ _ _ A hRA (by omega)).mono ?_
              rintro e w4 ⟨rfl, hB4⟩
              rw [ok_chk HA.out]
              have hb4 := below_via hb3 hB4
              have hRA4 := hRA.next hB4
              have hR4 := hR3.next hB4
              have hw4 := hw3.next hB4
              have hlw : lw.length ≤ 60 := by have := hw.2.2.1; omega
              have HLW := Lib.hid hw.2.2.1
              clear hRA hR3 hw3 hb3 hB4
              go_wp2
              go_loopw [13] (fun i wr => ∃ k : Nat, k ≤ lw.length ∧ i = .int .i64 k ∧ Below w4.heap.size w4 wr) (fun i _ => lw.length - (intOf i).toNat)
              case atStart => exact ⟨0, by omega, rfl, Below.refl _ _⟩
              case round =>
                obtain ⟨k, hk, rfl, hB⟩ := hrel
                by_cases hlt : k < lw.length
                · obtain ⟨b, off, hbo, hbw2, hc2⟩ := hw4.cell1 (by have := HLW.out; omega)
                  cases hbo
                  have c0 := (hB.cell (p := ⟨b, off + k, none⟩) hbw2).trans (hc2 k hlt _ rfl)
                  have hxw := List.getElem_mem hlt
                  obtain ⟨x, hx⟩ : ∃ x, x = lw[k] := ⟨_, rfl⟩
                  rw [← hx] at c0 hxw
                  have hxg := HALL.out x hxw
                  have hxA := (HMA.out x).2 ⟨hxg, hxw⟩
                  have hle := HSH.out _ x rfl hxg hxw
                  have hE1 : roadE A x = 0 := by unfold roadE; rw [if_neg (by simp [ok_chk HA.out]), if_neg (by simp [hxA])]
                  have hE2 : roadE gs x = 0 := by unfold roadE; rw [if_neg (by simp [ok_chk HOK.out]), if_neg (by simp [hxg])]
                  have hL1 : roadR A x = roadL A x := by unfold roadR; rw [if_pos ⟨ok_chk HA.out, hxA⟩]
                  have hL2 : roadR gs x = roadL gs x := by unfold roadR; rw [if_pos ⟨ok_chk HOK.out, hxg⟩]
                  have HE1 := Lib.hid hE1
                  have HE2 := Lib.hid hE2
                  have HL1 := Lib.hid hL1
                  have HL2 := Lib.hid hL2
                  have hla := roadR_len (gs := A) (g := x)
                  have hlb := roadR_len (gs := gs) (g := x)
                  have hgl := hR.2.2.1
                  rw [hL1] at hla
                  rw [hL2] at hlb
                  obtain ⟨LA, hLA⟩ : ∃ LA, LA = roadL A x := ⟨_, rfl⟩
                  obtain ⟨LB, hLB⟩ : ∃ LB, LB = roadL gs x := ⟨_, rfl⟩
                  rw [← hLA] at hle hla HL1
                  rw [← hLB] at hle hlb HL2
                  have i1 : (k : Int) < (lw.length : Int) := by omega
                  have hlw2 : (lw.length : Int) ≤ 60 := by omega
                  have hlen' : len' = gs.length := hgl.symm
                  clear hx hxw hxg hxA hE1 hE2 hL1 hL2 hLA hLB hc2 hgl
                  have hkn : k < 60 := by have := HLW.out; omega
                  have hkn1 : (k : Int) < ((60 : Nat) : Int) := by omega
                  go_wp2_with fail
                  refine (road_any _ _ _ _ A x (hRA4.below hB (Nat.le_refl _)) (by omega)).mono ?_
                  rintro e w5 ⟨v5, rfl, hO5, hB5⟩
                  rw [HE1.out]
                  rw [HL1.out] at hO5
                  obtain ⟨a5, c5, rfl⟩ := owns_slice hO5
                  have hBB5 := below_via hB hB5
                  have c5' := (hB5.cell (p := ⟨b, off + k, none⟩) (Nat.lt_of_lt_of_le hbw2 hB.size)).trans c0
                  have HLE := Lib.hid hle
                  have HLA := Lib.hid hla
                  have HLB := Lib.hid hlb
                  have HL60 := Lib.hid hA60
                  obtain ⟨ln, hln⟩ : ∃ ln, ln = LA.length := ⟨_, rfl⟩
                  rw [← hln]
                  have HLN := Lib.hid hln
                  have HLQ := Lib.hid hlen'
                  clear hO5 c0 hle hla hlb hA60 hln hlen'
                  go_wp2_with fail
                  refine (road_any _ _ _ _ gs x (hR4.below hBB5 (Nat.le_refl _)) (by omega)).mono ?_
                  rintro e w6 ⟨v6, rfl, hO6, hB6⟩
                  rw [HE2.out]
                  rw [HL2.out] at hO6
                  obtain ⟨a6, c6, rfl⟩ := owns_slice hO6
                  have hBB6 := below_via hBB5 hB6
                  obtain ⟨lm, hlm⟩ : ∃ lm, lm = LB.length := ⟨_, rfl⟩
                  rw [← hlm]
                  have hlt2 : decide ((lm : Int) < (ln : Int)) = false := by
                    have h1 := HLE.out
                    rw [← HLN.out, ← hlm] at h1
                    simp; omega
                  have hln60 : ln ≤ 60 := by have := HLA.out; have := HL60.out; rw [HLN.out]; omega
                  have hlm60 : lm ≤ 60 := by have := HLB.out; have := HLQ.out; rw [hlm]; omega
                  have hlti : ¬ ((lm : Int) < (ln : Int)) := by simpa using hlt2
                  clear hO6 c5' hlm
                  go_wp2
                  go_roundw
                  case rel => exact ⟨k + 1, by omega, by go_num, hBB6⟩
                  case measure => simp [intOf]; omega
                · have hkn : ¬ k < 60 := by have := HLW.out; omega
                  go_wp2_with fail
                  refine (awake_any _).mono ?_
                  rintro e w7 ⟨rfl, hB7⟩
                  have hb7 := below_via (below_via hb4 hB) hB7
                  go_wp2
                  go_ret
                  exact ⟨rfl, hb7⟩
    · have hne : (E != 0) = true := by simpa using hE0
      clear hE hO1
      go_wp2_with fail
      refine (awake_any _).mono ?_
      rintro e w4 ⟨rfl, hB4⟩
      have hb4 := below_via hB1 hB4
      go_wp2
      go_ret
      exact ⟨rfl, hb4⟩
  · obtain ⟨lw, hl⟩ : ∃ lw, lw = lw0 := ⟨_, rfl⟩
    rw [← hl] at hw0 qw0
    have hw := hw0
    have qw := qw0
    have hn60 : lenw ≤ 60 := by omega
    clear hw0 qw0 hl
    go_enter Try.func9, Try.ntmps9
    go_wp2_with fail
    refine (few_any _ _ _ _ _ hR0).mono ?_
    rintro e w1 ⟨len', rfl, hl60, hR, rfl⟩
    go_wp2_with fail
    have hgs := ok_take2 hgs0 len'
    obtain ⟨gs, hgse⟩ : ∃ gs, gs = gs0.take len' := ⟨_, rfl⟩
    rw [← hgse] at hR hgs
    clear hR0 hgs0 hgse
    refine (need_any _ _ _ _ _ hR hgs (by omega) _ _ _ _ hw qw (by omega)).mono ?_
    rintro e w1 ⟨nv, rfl, hO1, hB1⟩
    obtain ⟨E, hE⟩ : ∃ E, E = needE gs lw := ⟨_, rfl⟩
    rw [← hE]
    by_cases hE0 : E = 0
    · by_cases hy1 : y < 0
      · subst hE0
        clear hE hO1
        go_wp2_with fail
        refine (awake_any _).mono ?_
        rintro e w4 ⟨rfl, hB4⟩
        have hb4 := below_via hB1 hB4
        go_wp2
        go_ret
        exact ⟨rfl, hb4⟩
      · by_cases hy2 : 524288 < y
        · subst hE0
          clear hE hO1
          go_wp2_with fail
          refine (awake_any _).mono ?_
          rintro e w4 ⟨rfl, hB4⟩
          have hb4 := below_via hB1 hB4
          go_wp2
          go_ret
          exact ⟨rfl, hb4⟩
        · have hnr := need_len0 (hE.symm.trans hE0)
          have hok : Ok gs := chk_all (by
            have h0 := hE.symm.trans hE0
            unfold needE at h0
            split at h0
            · rename_i h; exact absurd h0 h
            · rename_i h; simpa using h)
          have hall : ∀ x ∈ lw, x ∈ gl gs := by
            have h0 := hE.symm.trans hE0
            unfold needE at h0
            rw [if_neg (by simp [ok_chk hok])] at h0
            intro x hx
            refine Classical.byContradiction fun hn => ?_
            rw [if_pos ⟨x, hx, hn⟩] at h0
            cases h0
          obtain ⟨N, hN⟩ : ∃ N, N = needG gs lw := ⟨_, rfl⟩
          have hNl : N.length ≤ gs.length := by rw [hN]; exact needG_len gs lw
          rw [hnr, ← hN] at hO1
          obtain ⟨va, vc, rfl⟩ := owns_slice hO1
          have HOK := Lib.hid hok
          have HALL := Lib.hid hall
          have HN := Lib.hid hN
          have HE := Lib.hid hE
          obtain ⟨nl, hnl⟩ : ∃ nl, nl = N.length := ⟨_, rfl⟩
          have HNL := Lib.hid hnl
          have hnl60 : nl ≤ 60 := by have := hR.2.2.1; omega
          rw [← hnl] at hO1
          rw [← hnl]
          subst hE0
          clear hok hall hN hNl hnr hE hnl
          obtain ⟨W2, hmk, hOw, hGr⟩ := run_make_full (P := Try.prog) w1 w1.heap.size 23 3 i0 (.int .i64 0) 1 Try.underlying23 hi hz0 hz1 .i64 .i64 nl (by rw [hz2]; omega) (by unfold maxLen; omega) (Nat.le_refl _)
          have HOW := Lib.hid hOw
          have HGR := Lib.hid hGr
          have HO1 := Lib.hid hO1
          clear hOw hGr hO1
          have hf0 : W2.ownsRow w1.heap.size 3 1 (.slice (some ⟨w1.heap.size, 0, none⟩) nl nl) nl (intV (fillL y nl 0)) := by
            have := HOW.out
            rw [Nat.mul_one, show (Value.int .i64 0).cells = #[Value.int .i64 0] from rfl, toList_madeCells_one] at this
            simpa [intV, fillL] using this
          have hb0 : Below w1.heap.size w1 W2 := (Below.refl _ _).grown HGR.out (Nat.le_refl _) (by simp)
          go_wp2
          clear hmk
          go_loopw [10] (fun i wr => ∃ k : Nat, k ≤ nl ∧ i = .int .i64 k ∧ wr.ownsRow w1.heap.size 3 1 (.slice (some ⟨w1.heap.size, 0, none⟩) nl nl) nl (intV (fillL y nl k)) ∧ Below w1.heap.size w1 wr) (fun i _ => nl - (intOf i).toNat)
          case atStart => exact ⟨0, by omega, rfl, hf0, hb0⟩
          case round =>
            clear hf0 hb0
            obtain ⟨k, hk, rfl, hF, hB⟩ := hrel
            by_cases hlt : k < nl
            · have c0 : wr.cell? ⟨w1.heap.size, k, none⟩ = some (.int .i64 0) := by rw [hF.cellAt k (by omega)]; exact fillL_get y nl k hlt
              have f0 := hF.frozenAt k
              have hst := (hF.stored k (.int .i64 y)).1
              have hsg := (hF.stored k (.int .i64 y)).2
              have i1 : (k : Int) < (nl : Int) := by omega
              rw [fillL_set y nl k hlt] at hst
              have HST := Lib.hid hst
              have HSG := Lib.hid hsg
              have HB := Lib.hid hB
              clear hst hsg hF hB
              go_wp2
              go_roundw
              case rel => exact ⟨k + 1, by omega, by go_num, HST.out, HB.out.grown HSG.out HB.out.size (by intro q hq; injection hq with hq; omega)⟩
              case measure => simp [intOf]; omega
            · have hfl : fillL y nl k = List.replicate nl y := by
                have hkk : k = nl := by omega
                unfold fillL; rw [hkk]; simp
              rw [hfl] at hF
              have hX := rs_ints hF
              have hB2 := below_via hB1 hB
              have hR2 := hR.below hB2 (Nat.le_refl _)
              have hw2 := hw.below hB2 (Nat.le_refl _)
              clear hfl hF
              go_wp2_with fail
              refine (after_any _ _ _ _ _ hR2 hgs (by omega) _ _ _ _ hw2 qw (by omega) _ _ _ _ hX).mono ?_
              rintro e w3 ⟨v3, rfl, hO3, hB3⟩
              have hAE : afterE gs lw (List.replicate nl y) = 0 := by
                unfold afterE
                rw [if_neg (by rw [← HE.out]; decide), if_neg (by rw [List.length_replicate, HNL.out, HN.out]; simp)]
              have hAR : afterR gs lw (List.replicate nl y) = afterG gs lw (needG gs lw) (List.replicate nl y) := by unfold afterR; rw [if_pos hAE]
              have hwy : ∀ b ∈ List.replicate nl y, 0 ≤ b ∧ b ≤ 524288 := by intro b hb; rw [(List.mem_replicate.1 hb).2]; omega
              have hokA := after_ok HOK.out.toE lw _ hwy
              have hsh := road_shorter HOK.out.toE lw _ hwy
              have hmA := fun g => mem_after_gl (gs := gs) (ws := lw) (N := needG gs lw) (whole := List.replicate nl y) (g := g)
              rw [hAE]
              rw [hAR] at hO3
              obtain ⟨A, hA⟩ : ∃ A, A = afterG gs lw (needG gs lw) (List.replicate nl y) := ⟨_, rfl⟩
              have hAl : A.length ≤ gs.length := by rw [hA]; exact afterG_len _ _ _ _
              rw [← hA] at hO3 hokA hsh hmA
              obtain ⟨aa, ac, rfl⟩ := owns_slice hO3
              have hRA := rs_owns rfl hO3
              have HA := Lib.hid hokA.toOk
              have HSH := Lib.hid hsh
              have HMA := Lib.hid hmA
              have hb3 := below_via hB2 hB3
              have hR3 := hR2.next hB3
              have hw3 := hw2.next hB3
              have hA60 : A.length ≤ 60 := by have := hR.2.2.1; omega
              clear hO3 hokA hsh hmA hA hAR hAE hwy hX hB hB2
              go_wp2_with fail
              refine (check_any _ _ _ _ A hRA (by omega)).mono ?_
              rintro e w4 ⟨rfl, hB4⟩
              rw [ok_chk HA.out]
              have hb4 := below_via hb3 hB4
              have hRA4 := hRA.next hB4
              have hR4 := hR3.next hB4
              have hw4 := hw3.next hB4
              have hlw : lw.length ≤ 60 := by have := hw.2.2.1; omega
              have HLW := Lib.hid hw.2.2.1
              clear hRA hR3 hw3 hb3 hB4
              go_wp2
              go_loopw [13] (fun i wr => ∃ k : Nat, k ≤ lw.length ∧ i = .int .i64 k ∧ Below w4.heap.size w4 wr) (fun i _ => lw.length - (intOf i).toNat)
              case atStart => exact ⟨0, by omega, rfl, Below.refl _ _⟩
              case round =>
                obtain ⟨k, hk, rfl, hB⟩ := hrel
                by_cases hlt : k < lw.length
                · obtain ⟨b, off, hbo, hbw2, hc2⟩ := hw4.cell1 (by have := HLW.out; omega)
                  cases hbo
                  have c0 := (hB.cell (p := ⟨b, off + k, none⟩) hbw2).trans (hc2 k hlt _ rfl)
                  have hxw := List.getElem_mem hlt
                  obtain ⟨x, hx⟩ : ∃ x, x = lw[k] := ⟨_, rfl⟩
                  rw [← hx] at c0 hxw
                  have hxg := HALL.out x hxw
                  have hxA := (HMA.out x).2 ⟨hxg, hxw⟩
                  have hle := HSH.out _ x rfl hxg hxw
                  have hE1 : roadE A x = 0 := by unfold roadE; rw [if_neg (by simp [ok_chk HA.out]), if_neg (by simp [hxA])]
                  have hE2 : roadE gs x = 0 := by unfold roadE; rw [if_neg (by simp [ok_chk HOK.out]), if_neg (by simp [hxg])]
                  have hL1 : roadR A x = roadL A x := by unfold roadR; rw [if_pos ⟨ok_chk HA.out, hxA⟩]
                  have hL2 : roadR gs x = roadL gs x := by unfold roadR; rw [if_pos ⟨ok_chk HOK.out, hxg⟩]
                  have HE1 := Lib.hid hE1
                  have HE2 := Lib.hid hE2
                  have HL1 := Lib.hid hL1
                  have HL2 := Lib.hid hL2
                  have hla := roadR_len (gs := A) (g := x)
                  have hlb := roadR_len (gs := gs) (g := x)
                  have hgl := hR.2.2.1
                  rw [hL1] at hla
                  rw [hL2] at hlb
                  obtain ⟨LA, hLA⟩ : ∃ LA, LA = roadL A x := ⟨_, rfl⟩
                  obtain ⟨LB, hLB⟩ : ∃ LB, LB = roadL gs x := ⟨_, rfl⟩
                  rw [← hLA] at hle hla HL1
                  rw [← hLB] at hle hlb HL2
                  have i1 : (k : Int) < (lw.length : Int) := by omega
                  have hlw2 : (lw.length : Int) ≤ 60 := by omega
                  have hlen' : len' = gs.length := hgl.symm
                  clear hx hxw hxg hxA hE1 hE2 hL1 hL2 hLA hLB hc2 hgl
                  have hkn : k < lenw := by have := HLW.out; omega
                  have hkn1 : (k : Int) < ((lenw : Nat) : Int) := by omega
                  go_wp2_with fail
                  refine (road_any _ _ _ _ A x (hRA4.below hB (Nat.le_refl _)) (by omega)).mono ?_
                  rintro e w5 ⟨v5, rfl, hO5, hB5⟩
                  rw [HE1.out]
                  rw [HL1.out] at hO5
                  obtain ⟨a5, c5, rfl⟩ := owns_slice hO5
                  have hBB5 := below_via hB hB5
                  have c5' := (hB5.cell (p := ⟨b, off + k, none⟩) (Nat.lt_of_lt_of_le hbw2 hB.size)).trans c0
                  have HLE := Lib.hid hle
                  have HLA := Lib.hid hla
                  have HLB := Lib.hid hlb
                  have HL60 := Lib.hid hA60
                  obtain ⟨ln, hln⟩ : ∃ ln, ln = LA.length := ⟨_, rfl⟩
                  rw [← hln]
                  have HLN := Lib.hid hln
                  have HLQ := Lib.hid hlen'
                  clear hO5 c0 hle hla hlb hA60 hln hlen'
                  go_wp2_with fail
                  refine (road_any _ _ _ _ gs x (hR4.below hBB5 (Nat.le_refl _)) (by omega)).mono ?_
                  rintro e w6 ⟨v6, rfl, hO6, hB6⟩
                  rw [HE2.out]
                  rw [HL2.out] at hO6
                  obtain ⟨a6, c6, rfl⟩ := owns_slice hO6
                  have hBB6 := below_via hBB5 hB6
                  obtain ⟨lm, hlm⟩ : ∃ lm, lm = LB.length := ⟨_, rfl⟩
                  rw [← hlm]
                  have hlt2 : decide ((lm : Int) < (ln : Int)) = false := by
                    have h1 := HLE.out
                    rw [← HLN.out, ← hlm] at h1
                    simp; omega
                  have hln60 : ln ≤ 60 := by have := HLA.out; have := HL60.out; rw [HLN.out]; omega
                  have hlm60 : lm ≤ 60 := by have := HLB.out; have := HLQ.out; rw [hlm]; omega
                  have hlti : ¬ ((lm : Int) < (ln : Int)) := by simpa using hlt2
                  clear hO6 c5' hlm
                  go_wp2
                  go_roundw
                  case rel => exact ⟨k + 1, by omega, by go_num, hBB6⟩
                  case measure => simp [intOf]; omega
                · have hkn : ¬ k < lenw := by have := HLW.out; omega
                  go_wp2_with fail
                  refine (awake_any _).mono ?_
                  rintro e w7 ⟨rfl, hB7⟩
                  have hb7 := below_via (below_via hb4 hB) hB7
                  go_wp2
                  go_ret
                  exact ⟨rfl, hb7⟩
    · have hne : (E != 0) = true := by simpa using hE0
      clear hE hO1
      go_wp2_with fail
      refine (awake_any _).mono ?_
      rintro e w4 ⟨rfl, hB4⟩
      have hb4 := below_via hB1 hB4
      go_wp2
      go_ret
      exact ⟨rfl, hb4⟩
end Go.Proofs.Ytoibbeiieelccaa
