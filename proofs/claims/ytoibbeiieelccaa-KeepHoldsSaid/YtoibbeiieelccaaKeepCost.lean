/- Cost. Conditions: as named in each theorem. -/
import Derived.Test.YtoibbeiieelccaaKeepRoad2
namespace Go.Proofs.Ytoibbeiieelccaa
open Go.RowKit
set_option linter.unusedVariables false

def bytesOf (gs : List G) (g : Int) : Int := (gs.getD (idx gs g) default).bytes
def costL (gs : List G) (L : List Int) : Int := (L.map (bytesOf gs)).sum
theorem costL_succ (gs : List G) (L : List Int) (k : Nat) (hk : k < L.length) : costL gs (L.take (k + 1)) = costL gs (L.take k) + bytesOf gs L[k] := by
  unfold costL
  rw [List.take_succ_eq_append_getElem hk, List.map_append, List.sum_append]
  simp
theorem bytes_bd {gs : List G} (h : Ok gs) {g : Int} (hg : g ∈ gl gs) : 0 ≤ bytesOf gs g ∧ bytesOf gs g ≤ 524288 := by
  have := (chk_facts (h _ (idx_lt hg))).1
  unfold bytesOf
  omega
theorem costL_bd {gs : List G} (h : Ok gs) {L : List Int} (hL : ∀ x ∈ L, x ∈ gl gs) : ∀ k, k ≤ L.length → 0 ≤ costL gs (L.take k) ∧ costL gs (L.take k) ≤ 524288 * k := by
  intro k
  induction k with
  | zero => intro _; simp [costL]
  | succ k ih =>
    intro hk
    have h1 := ih (by omega)
    have h2 := bytes_bd h (hL _ (List.getElem_mem (show k < L.length by omega)))
    rw [costL_succ gs L k (by omega)]
    omega

set_option maxHeartbeats 1000000 in
theorem cost_any (w : World) (ao : Option Addr) (len cap : Nat) (gs : List G) (g : Int) (hR : Rs w ao len cap 4 gs G.c) (hn : len ≤ 4096) :
    Calls Try.prog 22 #[.slice ao len cap, .int .i64 g] w fun e w' => e = .returned (.tuple #[.int .i64 (costL gs (roadR gs g)), .int .i64 (roadE gs g)]) ∧ Below w.heap.size w w' := by
  obtain ⟨E, hE⟩ : ∃ E, E = roadE gs g := ⟨_, rfl⟩
  obtain ⟨L, hL⟩ : ∃ L, L = roadR gs g := ⟨_, rfl⟩
  obtain ⟨C, hC⟩ : ∃ C, C = costL gs L := ⟨_, rfl⟩
  rw [← hL, ← hE, ← hC]
  have HE := Lib.hid hE
  have HL := Lib.hid hL
  have HC := Lib.hid hC
  by_cases h0 : E = 0
  · have hok := roadE_ok (hE.symm.trans h0)
    have HOK : Hid (Ok gs) := Lib.hid (chk_all hok.1)
    have hmem : ∀ x ∈ L, x ∈ gl gs := by rw [hL]; exact roadR_mem
    have hll : L.length ≤ gs.length := by rw [hL]; exact roadR_len
    have hbd := costL_bd HOK.out hmem
    have HM := Lib.hid hmem
    have HBD := Lib.hid hbd
    have hlen : gs.length = len := hR.2.2.1
    have HLEN := Lib.hid hlen
    have hln : L.length ≤ 4096 := by omega
    subst h0
    clear hok hmem hbd hlen hll hE hL hC
    go_enter Try.func22, Try.ntmps22
    go_wp2_with fail
    refine (road_any _ _ _ _ _ _ hR hn).mono ?_
    rintro e w1 ⟨v, rfl, hO, hb1⟩
    rw [← HE.out]
    rw [← HL.out] at hO
    obtain ⟨va, vc, rfl⟩ := owns_slice hO
    have hV := rowv_ints hO
    have hR1 := hR.next hb1
    clear hO
    obtain ⟨nl, hnl⟩ : ∃ nl, nl = L.length := ⟨_, rfl⟩
    rw [← hnl] at hV hln
    rw [← hnl]
    have HNL := Lib.hid hnl
    clear hnl
    go_wp2
    go_loopw [8, 22] (fun a i wr => ∃ k : Nat, k ≤ nl ∧ i = .int .i64 k ∧ a = .int .i64 (costL gs (L.take k)) ∧ Below w1.heap.size w1 wr) (fun _ i _ => nl - (intOf i).toNat)
    case atStart => exact ⟨0, by omega, rfl, rfl, Below.refl _ _⟩
    case round =>
      obtain ⟨k, hk, rfl, rfl, hB⟩ := hrel
      by_cases hlt : k < nl
      · rcases hV with ⟨h0, _⟩ | ⟨vb, vo, vcc, hve, hcell⟩
        · omega
        simp only [Value.slice.injEq, true_and] at hve
        obtain ⟨rfl, rfl⟩ := hve
        have hkL : k < L.length := by rw [← HNL.out]; exact hlt
        have c0 : w1.cell? ⟨vb, vo + k, none⟩ = some (.int .i64 L[k]) := by have := hcell k (by omega); simpa [List.getD, hkL] using this
        have hin := HM.out _ (List.getElem_mem hkL)
        have hsu := costL_succ gs L k hkL
        have hbd := HBD.out k (by omega)
        have hbb := bytes_bd HOK.out hin
        obtain ⟨x, hx⟩ : ∃ x, x = L[k] := ⟨_, rfl⟩
        rw [← hx] at c0 hin hsu hbb
        have hat := atZ_in hin
        have hil := idx_lt hin
        have hby : bytesOf gs x = (gs[idx gs x]'hil).bytes := by unfold bytesOf; rw [getD_g hil]
        obtain ⟨b, off, rfl, hbw, hcc⟩ := rs_g hR1 (by have := HLEN.out; omega)
        obtain ⟨-, -, c2, -⟩ := hcc _ hil
        rw [← hby] at c2
        obtain ⟨i, hie⟩ : ∃ i, i = idx gs x := ⟨_, rfl⟩
        rw [← hie] at hat hil c2
        obtain ⟨y, hy⟩ : ∃ y, y = bytesOf gs x := ⟨_, rfl⟩
        rw [← hy] at c2 hsu hbb
        obtain ⟨S, hS⟩ : ∃ S, S = costL gs (L.take k) := ⟨_, rfl⟩
        rw [← hS] at hsu hbd
        rw [← hS]
        have HAT := Lib.hid hat
        have HSU := Lib.hid hsu
        have hil2 : i < len := by rw [← HLEN.out]; exact hil
        have i1 : (i : Int) < (len : Int) := by omega
        have hvb : vb < w1.heap.size := World.block_lt_of_cell? _ _ c0
        have d0 := (hB.cell (p := ⟨vb, vo + k, none⟩) hvb).trans c0
        have hup := ok_up HOK.out
        have HUP := Lib.hid hup
        clear hat hby hcc hie hy hS hil hx hsu hin hcell hkL hup
        go_wp2_with fail
        refine (place_z _ _ _ _ _ _ _ (hR1.below hB (Nat.le_refl _)) (by omega) HUP.out HAT.out.symm).mono ?_
        rintro e w2 ⟨rfl, hb2⟩
        have hB2 := below_via hB hb2
        have d2 := (hB2.cell (p := ⟨b, off + i * 4 + 2, none⟩) hbw).trans c2
        clear hB hb2 d0 c0 c2
        go_wp2
        go_roundw
        case rel => exact ⟨k + 1, by omega, by go_num, by rw [HSU.out], hB2⟩
        case measure => simp [intOf]; omega
      · have hkk : L.take k = L := List.take_of_length_le (by rw [← HNL.out]; omega)
        have hC2 : costL gs (L.take k) = C := by rw [hkk, HC.out]
        rw [hC2]
        clear hkk hC2
        go_wp2
        go_ret2
        exact ⟨rfl, below_via hb1 hB⟩
  · have hL0 : L = [] := by
      rw [hL]; unfold roadR
      rw [if_neg]
      rintro ⟨h1, h2⟩
      apply h0
      rw [hE]; unfold roadE
      rw [if_neg (by simp [h1]), if_neg (by simp [h2])]
    have hC0 : C = 0 := by rw [hC, hL0]; rfl
    subst hC0
    have hne : (E != 0) = true := by simpa using h0
    clear hE hL hC hL0 h0
    go_enter Try.func22, Try.ntmps22
    go_wp2_with fail
    refine (road_any _ _ _ _ _ _ hR hn).mono ?_
    rintro e w1 ⟨v, rfl, hO, hb1⟩
    rw [← HE.out]
    clear hO
    go_wp2
    go_ret2
    exact ⟨rfl, hb1⟩
end Go.Proofs.Ytoibbeiieelccaa
