/- KeepChecks: the walk. No conditions. -/
import Derived.Test.YtoibbeiieelccaaKeepDeep
namespace Go.Proofs.Ytoibbeiieelccaa
open Go.RowKit
set_option linter.unusedVariables false

def Upto (gs : List G) (k : Nat) (m : Int) : Prop := (∀ g ∈ gl (gs.take k), rl gs g ≤ m) ∧ (m = 0 ∨ ∃ g ∈ gl gs, m = rl gs g) ∧ 0 ≤ m ∧ m ≤ 4096
theorem Upto.start (gs : List G) : Upto gs 0 0 := ⟨by simp [gl], .inl rfl, by omega, by omega⟩
theorem Upto.more {gs : List G} {k : Nat} {m c : Int} (h : Upto gs k m) (hok : Ok gs) (hn : gs.length ≤ 4096) (hk : k < gs.length) (hc : c = rl gs gs[k].gen) (hm : m < c) : Upto gs (k + 1) c := by
  obtain ⟨hin, -⟩ := idx_k hok hk
  have hb := rl_bd hok hin
  refine ⟨fun g hg => ?_, .inr ⟨_, hin, hc⟩, by omega, by omega⟩
  rw [gl_succ hk] at hg
  rcases List.mem_append.1 hg with h1 | h1
  · have := h.1 g h1; omega
  · rw [List.mem_singleton.1 h1, ← hc]; omega
theorem Upto.stay {gs : List G} {k : Nat} {m c : Int} (h : Upto gs k m) (hk : k < gs.length) (hc : c = rl gs gs[k].gen) (hm : ¬ m < c) : Upto gs (k + 1) m := by
  refine ⟨fun g hg => ?_, h.2⟩
  rw [gl_succ hk] at hg
  rcases List.mem_append.1 hg with h1 | h1
  · exact h.1 g h1
  · rw [List.mem_singleton.1 h1, ← hc]; omega
theorem Upto.deep {gs : List G} {m : Int} (h : Upto gs gs.length m) : Deep gs m := ⟨by have := h.1; rwa [List.take_length] at this, h.2.1⟩

set_option maxRecDepth 100000 in
set_option maxHeartbeats 2000000 in
theorem keepChecks_walk (w : World) (ao0 : Option Addr) (len0 cap : Nat) (ol : (Kd.sl gK).ok w [.slice ao0 len0 cap]) :
    Calls Try.prog 7 #[.slice ao0 len0 cap] w fun e w' => e = .returned (.bool true) ∧ Below w.heap.size w w' := by
  obtain ⟨gs0, hR0, hgs0⟩ := gens_of ol
  clear ol
  go_enter Try.func7, Try.ntmps7
  go_wp2_with fail
  refine (few_any _ _ _ _ _ hR0).mono ?_
  rintro e w1 ⟨len, rfl, hl60, hR, rfl⟩
  have hgs : ∀ g ∈ gs0.take len, g.ok := fun g hg => hgs0 g (List.mem_of_mem_take hg)
  obtain ⟨gs, hgse⟩ : ∃ gs, gs = gs0.take len := ⟨_, rfl⟩
  rw [← hgse] at hR hgs
  clear hR0 hgs0 hgse
  obtain ⟨E, hE⟩ : ∃ E, E = chk gs := ⟨_, rfl⟩
  have HE := Lib.hid hE
  have HLEN := Lib.hid hR.2.2.1
  clear hE
  go_wp2_with fail
  refine (refCheck_any _ _ _ _ _ hR (by omega)).mono ?_
  rintro e w2 ⟨rfl, q, hw2⟩
  rw [← HE.out]
  have hb2 : Below w.heap.size w w2 := by rw [hw2]; exact below_drewN' (Below.refl _ _) _
  have hR2 := hR.next hb2
  clear hw2 hR
  go_wp2_with fail
  refine (deepest_any _ _ _ _ _ hR2 hgs (by omega)).mono ?_
  rintro e w3 ⟨M, rfl, hM1, hM2, hb3⟩
  rw [← HE.out] at hM1 hM2 ⊢
  have HM1 := Lib.hid hM1
  have HM2 := Lib.hid hM2
  have hR3 := hR2.next hb3
  have hB3 := below_via hb2 hb3
  clear hM1 hM2 hb2 hb3 hR2
  go_wp2_with fail
  refine (check_any _ _ _ _ _ hR3 (by omega)).mono ?_
  rintro e w4 ⟨rfl, hb4⟩
  rw [← HE.out]
  have hR4 := hR3.next hb4
  have hB4 := below_via hB3 hb4
  clear hb4 hR3 hB3
  by_cases hE0 : E = 0
  · have HOK : Hid (Ok gs) := Lib.hid (chk_all (HE.out.symm.trans hE0))
    have HD : Hid (Deep gs M) := Lib.hid (HM1.out hE0)
    have hwf : (Lit.int .i64 M).wf = true := by
      rcases HD.out.2 with h | ⟨g, hg, h⟩
      · rw [h]; rfl
      · have := rl_bd HOK.out hg
        have := HLEN.out
        exact WalkArith.wf_i64 (by omega)
    subst hE0
    clear HM1 HM2
    go_wp2
    go_loopw [6, 7] (fun v i wr => ∃ (k : Nat) (m : Int), k ≤ len ∧ i = .int .i64 k ∧ v = .int .i64 m ∧ Upto gs k m ∧ Below w4.heap.size w4 wr) (fun _ i _ => len - (intOf i).toNat)
    case atStart => exact ⟨0, 0, by omega, rfl, rfl, Upto.start gs, Below.refl _ _⟩
    case round =>
      obtain ⟨k, m, hk, rfl, rfl, hU, hB⟩ := hrel
      have HU := Lib.hid hU
      clear hU
      by_cases hlt : k < len
      · obtain ⟨b, off, rfl, hbw, hcc⟩ := rs_g hR4 (by omega)
        have hks : k < gs.length := by rw [HLEN.out]; exact hlt
        obtain ⟨c0, -, -, -⟩ := hcc k hks
        have d0 := (hB.cell (p := ⟨b, off + k * 4, none⟩) hbw).trans c0
        obtain ⟨hin, -⟩ := idx_k HOK.out hks
        have HA := Lib.hid (fun c hc hm => HU.out.more HOK.out (by rw [HLEN.out]; omega) hks (c := c) hc hm)
        have HB := Lib.hid (fun c hc hm => HU.out.stay hks (c := c) hc hm)
        obtain ⟨x, hx⟩ : ∃ x, x = gs[k].gen := ⟨_, rfl⟩
        rw [← hx] at d0 hin HA HB
        have hE1 : roadE gs x = 0 := by unfold roadE; rw [if_neg (by simp [ok_chk HOK.out]), if_neg (by simp [hin])]
        have hL1 : roadR gs x = roadL gs x := by unfold roadR; rw [if_pos ⟨ok_chk HOK.out, hin⟩]
        have hla := roadR_len (gs := gs) (g := x)
        rw [HLEN.out] at hla
        have HE1 := Lib.hid hE1
        have HLA := Lib.hid hla
        have i1 : (k : Int) < (len : Int) := by omega
        clear c0 hcc hx hin hE1 hla hks
        go_wp2_with fail
        refine (refRoad_any _ _ _ _ _ _ x (Nat.le_refl _) (hR4.below hB (Nat.le_refl _)) (by omega)).mono ?_
        rintro e w5 ⟨v5, rfl, hO5, hB5⟩
        rw [HE1.out]
        obtain ⟨a5, c5, rfl⟩ := owns_slice hO5
        have hBB := below_via hB hB5
        obtain ⟨la, hla2⟩ : ∃ la, la = (roadR gs x).length := ⟨_, rfl⟩
        rw [← hla2]
        have hrl : (la : Int) = rl gs x := by rw [hla2, hL1]; rfl
        have hl60' : la ≤ 60 := by rw [hla2]; exact Nat.le_trans HLA.out hl60
        have HRL := Lib.hid hrl
        clear hO5 hla2 hL1 hrl hB hB5 d0
        by_cases hcm : m < (la : Int)
        · have HN := Lib.hid (HA.out la HRL.out hcm)
          have hdd : decide (m < (la : Int)) = true := by simpa using hcm
          clear HA HB
          go_wp2
          go_roundw
          case rel => exact ⟨k + 1, la, by omega, by go_num, rfl, HN.out, hBB⟩
          case measure => simp [intOf]; omega
        · have HN := Lib.hid (HB.out la HRL.out (by omega))
          have hdd : decide (m < (la : Int)) = false := by simpa using hcm
          clear HA HB
          go_wp2
          go_roundw
          case rel => exact ⟨k + 1, m, by omega, by go_num, rfl, HN.out, hBB⟩
          case measure => simp [intOf]; omega
      · have hkk : k = gs.length := by rw [HLEN.out]; omega
        have hD : Deep gs m := by have := HU.out; rw [hkk] at this; exact this.deep
        have hMm : M = m := HD.out.one hD
        have hb5 := below_via hB4 hB
        subst hMm
        clear hD hkk
        go_wp2_with fail
        refine (awake_any _).mono ?_
        rintro e w7 ⟨rfl, hb7⟩
        have hB7 := below_via hb5 hb7
        go_wp2
        go_ret
        exact ⟨rfl, hB7⟩
  · have hM0 : M = 0 := HM2.out hE0
    have hne : (E == 0) = false := by simpa using hE0
    have hne2 : (E != 0) = true := by simpa using hE0
    subst hM0
    clear HM1 HM2 HE hE0
    go_wp2
    refine wp_loop_rounds 1 ?_
    rw [rounds_succ]
    by_cases hl0 : 0 < len
    · have i0 : (0 : Int) < (len : Int) := by omega
      go_wp2_with fail
      refine (awake_any _).mono ?_
      rintro e w7 ⟨rfl, hb7⟩
      have hB7 := below_via hB4 hb7
      go_wp2
      go_ret
      exact ⟨rfl, hB7⟩
    · have hl1 : len = 0 := by omega
      subst hl1
      go_wp2_with fail
      refine (awake_any _).mono ?_
      rintro e w7 ⟨rfl, hb7⟩
      have hB7 := below_via hB4 hb7
      go_wp2
      go_ret
      exact ⟨rfl, hB7⟩
end Go.Proofs.Ytoibbeiieelccaa
