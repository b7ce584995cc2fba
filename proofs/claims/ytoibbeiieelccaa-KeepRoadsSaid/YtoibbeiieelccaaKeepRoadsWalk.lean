/- KeepRoads: the walk. No conditions. -/
import Derived.Test.YtoibbeiieelccaaKeepCost
namespace Go.Proofs.Ytoibbeiieelccaa
open Go.RowKit
set_option linter.unusedVariables false

set_option maxRecDepth 100000 in
set_option maxHeartbeats 2000000 in
theorem keepRoads_walk (w : World) (ao0 : Option Addr) (len0 cap : Nat) (ol : (Kd.sl gK).ok w [.slice ao0 len0 cap]) (g : Int) (wg : (Lit.int .i64 g).wf = true) :
    Calls Try.prog 6 #[.slice ao0 len0 cap, .int .i64 g] w fun e w' => e = .returned (.bool true) ∧ Below w.heap.size w w' := by
  obtain ⟨gs0, hR0, hgs0⟩ := gens_of ol
  clear ol wg
  go_enter Try.func6, Try.ntmps6
  go_wp2_with fail
  refine (few_any _ _ _ _ _ hR0).mono ?_
  rintro e w1 ⟨len, rfl, hl60, hR, rfl⟩
  obtain ⟨gs, hgse⟩ : ∃ gs, gs = gs0.take len := ⟨_, rfl⟩
  rw [← hgse] at hR
  clear hR0 hgs0 hgse
  obtain ⟨E, hE⟩ : ∃ E, E = roadE gs g := ⟨_, rfl⟩
  obtain ⟨L, hL⟩ : ∃ L, L = roadR gs g := ⟨_, rfl⟩
  obtain ⟨C, hC⟩ : ∃ C, C = costL gs L := ⟨_, rfl⟩
  have hok : L ≠ [] → chk gs = 0 ∧ g ∈ gl gs := by
    rw [hL]; unfold roadR
    intro h
    split at h
    · assumption
    · exact absurd rfl h
  have hmem : ∀ x ∈ L, x ∈ gl gs := by rw [hL]; exact roadR_mem
  have hll : L.length ≤ gs.length := by rw [hL]; exact roadR_len
  have hlen : gs.length = len := hR.2.2.1
  have hln : L.length ≤ 60 := by omega
  have hbd : ∀ k, k ≤ L.length → 0 ≤ costL gs (L.take k) ∧ costL gs (L.take k) ≤ 524288 * k := by
    by_cases hnil : L = []
    · rw [hnil]; intro k hk; simp at hk; subst hk; simp [costL]
    · exact costL_bd (chk_all (hok hnil).1) hmem
  have HE := Lib.hid hE
  have HL := Lib.hid hL
  have HC := Lib.hid hC
  have HOK := Lib.hid hok
  have HM := Lib.hid hmem
  have HBD := Lib.hid hbd
  have HLEN := Lib.hid hlen
  clear hok hmem hbd hlen hll hE hL hC
  go_wp2_with fail
  refine (road_any _ _ _ _ _ g hR (by omega)).mono ?_
  rintro e w1 ⟨v, rfl, hO, hb1⟩
  rw [← HE.out]
  rw [← HL.out] at hO
  have hR1 := hR.next hb1
  clear hR
  go_wp2_with fail
  refine (refRoad_any _ _ _ _ _ _ g (Nat.le_refl _) hR1 (by omega)).mono ?_
  rintro e w2 ⟨v2, rfl, hO2, hb2⟩
  rw [← HE.out]
  rw [← HL.out] at hO2
  have hR2 := hR1.next hb2
  have hO1 := owns_below hO hb2
  have hB2 := below_via hb1 hb2
  clear hR1 hO hb1 hb2
  go_wp2_with fail
  refine (cost_any _ _ _ _ _ g hR2 (by omega)).mono ?_
  rintro e w3 ⟨rfl, hb3⟩
  rw [← HE.out, ← HL.out, ← HC.out]
  have hR3 := hR2.next hb3
  have hO3 := owns_below hO1 hb3
  have hO4 := owns_below hO2 hb3
  have hB3 := below_via hB2 hb3
  clear hR2 hO1 hO2 hb3 hB2
  obtain ⟨va, vc, rfl⟩ := owns_slice hO4
  have hV := rowv_ints hO4
  obtain ⟨nl, hnl⟩ : ∃ nl, nl = L.length := ⟨_, rfl⟩
  rw [← hnl] at hV hln
  rw [← hnl] at hO4 ⊢
  have HO4 := Lib.hid hO4
  have HO3 := Lib.hid hO3
  have HNL := Lib.hid hnl
  clear hnl hO4 hO3
  go_wp2
  go_loopw [11, 12] (fun a i wr => ∃ k : Nat, k ≤ nl ∧ i = .int .i64 k ∧ a = .int .i64 (costL gs (L.take k)) ∧ Below w3.heap.size w3 wr) (fun _ i _ => nl - (intOf i).toNat)
  case atStart => exact ⟨0, by omega, rfl, rfl, Below.refl _ _⟩
  case round =>
    obtain ⟨k, hk, rfl, rfl, hB⟩ := hrel
    by_cases hlt : k < nl
    · rcases hV with ⟨h0, _⟩ | ⟨vb, vo, vcc, hve, hcell⟩
      · omega
      simp only [Value.slice.injEq, true_and] at hve
      obtain ⟨rfl, rfl⟩ := hve
      have hkL : k < L.length := by rw [← HNL.out]; exact hlt
      have hchk := HOK.out (List.ne_nil_of_length_pos (by omega))
      have hoks : Ok gs := chk_all hchk.1
      have c0 : w3.cell? ⟨vb, vo + k, none⟩ = some (.int .i64 L[k]) := by have := hcell k (by omega); simpa [List.getD, hkL] using this
      have hin := HM.out _ (List.getElem_mem hkL)
      have hsu := costL_succ gs L k hkL
      have hbd := HBD.out k (by omega)
      have hbb := bytes_bd hoks hin
      obtain ⟨x, hx⟩ : ∃ x, x = L[k] := ⟨_, rfl⟩
      rw [← hx] at c0 hin hsu hbb
      have hat := atZ_in hin
      have hil := idx_lt hin
      have hby : bytesOf gs x = (gs[idx gs x]'hil).bytes := by unfold bytesOf; rw [getD_g hil]
      obtain ⟨b, off, rfl, hbw, hcc⟩ := rs_g hR3 (by have := HLEN.out; omega)
      obtain ⟨-, -, c2, -⟩ := hcc _ hil
      rw [← hby] at c2
      obtain ⟨i, hie⟩ : ∃ i, i = idx gs x := ⟨_, rfl⟩
      rw [← hie] at hat hil c2
      obtain ⟨y, hy⟩ : ∃ y, y = bytesOf gs x := ⟨_, rfl⟩
      rw [← hy] at c2 hsu hbb
      obtain ⟨S, hS⟩ : ∃ S, S = costL gs (L.take k) := ⟨_, rfl⟩
      rw [← hS] at hsu hbd
      rw [← hS]
      have HAT := Lib.hid hat
      have HSU := Lib.hid hsu
      have hil2 : i < len := by rw [← HLEN.out]; exact hil
      have i1 : (i : Int) < (len : Int) := by omega
      have hvb : vb < w3.heap.size := World.block_lt_of_cell? _ _ c0
      have d0 := (hB.cell (p := ⟨vb, vo + k, none⟩) hvb).trans c0
      have d2 := (hB.cell (p := ⟨b, off + i * 4 + 2, none⟩) hbw).trans c2
      clear hat hby hcc hie hy hS hil hx hsu hin hcell hkL hchk hoks c0 c2
      go_wp2_with fail
      refine (at_z _ _ _ _ _ _ _ (hR3.below hB (Nat.le_refl _)) (by omega) HAT.out.symm).mono ?_
      rintro e w2 ⟨rfl, rfl⟩
      go_wp2
      go_roundw
      case rel => exact ⟨k + 1, by omega, by go_num, by rw [HSU.out], hB⟩
      case measure => simp [intOf]; omega
    · have hkk : L.take k = L := List.take_of_length_le (by rw [← HNL.out]; omega)
      have hC2 : costL gs (L.take k) = C := by rw [hkk, HC.out]
      have hO5 := owns_below HO4.out hB
      have hO6 := owns_below HO3.out hB
      have hB5 := below_via hB3 hB
      rw [HNL.out] at hO5
      rw [hC2]
      rw [HNL.out] at hln
      clear hkk hC2 hV
      go_wp2_with fail
      rw [HNL.out]
      refine (ints_true _ L _ _ (by omega) hO6 hO5).mono ?_
      rintro e w6 ⟨rfl, hb6⟩
      have hB6 := below_via hB5 hb6
      clear hO5 hO6 hB5 hB hb6
      go_wp2_with fail
      refine (awake_any _).mono ?_
      rintro e w7 ⟨rfl, hb7⟩
      have hB7 := below_via hB6 hb7
      go_wp2
      go_ret
      exact ⟨rfl, hB7⟩
end Go.Proofs.Ytoibbeiieelccaa
