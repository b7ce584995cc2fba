/- ChainGroups: the walk. Conditions: none. -/
import Derived.Test.YtabdmcgfiabaoaaChUse
import Derived.Test.YtabdmcgfiabaoaaChRun
import Derived.Test.YtabdmcgfiabaoaaDlLaw
import Derived.Deep.RegionHeld3
namespace Go.Proofs.Ytabdmcgfiabaoaa
open Go.RowKit Sg
set_option linter.unusedVariables false
set_option linter.unusedSimpArgs false
set_option maxRecDepth 100000 in
set_option maxHeartbeats 4000000 in
theorem chainGroups_walk (w : World) (ao0 : Option Addr) (len0 cap0 : Nat) (ol : (Kd.sl .str).ok w [.slice ao0 len0 cap0]) (block : Int) (wb : (Lit.int .i64 block).wf = true) :
    Calls Try.prog 8 #[.slice ao0 len0 cap0, .int .i64 block] w fun e w' => e = .returned (.bool true) ∧ Below w.heap.size w w' := by
  have hdz := dlZ_run
  obtain ⟨ss, hR0, hss⟩ := strs_of ol
  have HFW := Lib.hid (few_any w ao0 len0 cap0 ss hR0 hss)
  clear ol hR0 hss
  go_enter Try.func8, Try.ntmps8
  go_wp2_with fail
  refine HFW.out.mono ?_
  rintro e w1 ⟨v1, rfl, hT, hB1⟩
  obtain ⟨a1, k1, rfl⟩ := slice_of hT
  have htl := fewL_len ss
  have HTS := Lib.hid (fewL_size ss)
  obtain ⟨ts, hts⟩ : ∃ ts, ts = fewL ss := ⟨_, rfl⟩
  rw [← hts] at hT htl HTS
  rw [← hts]
  have HT := Lib.hid hT
  have HB1 := Lib.hid hB1
  clear hts hT HFW hB1
  have FIN : Hid (∀ W, Below w.heap.size w W → Calls Try.prog 12 #[] W fun e w' => e = .returned (.bool true) ∧ Below w.heap.size w w') := Lib.hid (fun W hW => (chAwake_any W).mono (fun e w' ⟨h1, h2⟩ => ⟨h1, bl_nx hW h2⟩))
  by_cases h4 : ts.length < 4
  · go_wp2_with fail
    refine (FIN.out w1 HB1.out).mono ?_
    rintro e w2 ⟨rfl, hb2⟩
    go_wp2
    go_ret
    exact ⟨rfl, hb2⟩
  · by_cases h16 : block < 16
    · go_wp2_with fail
      refine (FIN.out w1 HB1.out).mono ?_
      rintro e w2 ⟨rfl, hb2⟩
      go_wp2
      go_ret
      exact ⟨rfl, hb2⟩
    · by_cases h1024 : 1024 < block
      · go_wp2_with fail
        refine (FIN.out w1 HB1.out).mono ?_
        rintro e w2 ⟨rfl, hb2⟩
        go_wp2
        go_ret
        exact ⟨rfl, hb2⟩
      · obtain ⟨B, rfl⟩ : ∃ B : Nat, block = B := ⟨block.toNat, by omega⟩
        have hRt : Rs w1 a1 ts.length k1 1 ts (fun x => [.string x]) := RowS.rs HT.out rfl
        obtain ⟨g, off, rfl, hbw, hc⟩ := hRt.cell1 (by omega)
        have hR4 : Rs w1 (some ⟨g, off, none⟩) 4 k1 1 (ts.take 4) (fun x => [.string x]) := hRt.take (m := 4) (by omega)
        have hcap : 4 ≤ k1 := hR4.1
        have hcap2 : (4 : Int) ≤ (k1 : Int) := by omega
        have hB1 : 16 ≤ B := by omega
        have hB2 : B ≤ 1024 := by omega
        have HROW : Hid (∀ W, BookI W (w1.drew.heap.size + 1) w1.drew.heap.size [] → Below w1.drew.heap.size w1.drew W → Calls Try.prog 24 #[.pointer (some ⟨w1.drew.heap.size + 1, 0, none⟩), .slice (some ⟨g, off, none⟩) 4 k1, .int .i64 B] W fun e w' => ∃ v, e = .returned v ∧ RowQ W w' (w1.drew.heap.size + 1) w1.drew.heap.size [] (ts.take 4) B v 3) := Lib.hid (fun W hI hW =>
          row_any W (w1.drew.heap.size + 1) w1.drew.heap.size [] (some ⟨g, off, none⟩) 4 k1 (ts.take 4) B hI (by simp) (Rs.next (w := w1.drew) hR4 hW) (by omega) (fun x hx => HTS.out x (List.mem_of_mem_take hx)) hB1 hB2 (fun b o e => by injection e with e; injection e with e1 e2; subst e1; exact Nat.ne_of_lt hbw))
        clear hRt hc hR4 hbw hcap
        go_upto_region 4 with fail
        go_region_held3 (fun w' => True) (exact trivial)
          (first
            | (go_at_call 23; refine (ideal_any _).mono ?_; rintro e w2 ⟨rfl, hI2, hBd2⟩)
            | (go_at_call 24; refine (HROW.out _ hI2 hBd2).mono ?_; rintro e w3 ⟨v3, rfl, hQ3⟩))
        -- GENERATED
        obtain ⟨l, S, hl, hdl, hD, hI, hE, hlen, hmem, hK⟩ := hQ3
        obtain ⟨x0, x1, x2, rfl⟩ : ∃ x0 x1 x2, l = [x0, x1, x2] := by
          match l, hl with
          | [a, b, c], _ => exact ⟨a, b, c, rfl⟩
        have e3 : [x0.d, x1.d, x2.d] = [dAt S (ts.take 4) B 0, dAt S (ts.take 4) B 1, dAt S (ts.take 4) B 2] := hdl
        injection e3 with h0 e3
        injection e3 with h1 e3
        injection e3 with h2 e3
        have hts4 : ∀ x ∈ ts.take 4, x.size ≤ 1000 := fun x hx => HTS.out x (List.mem_of_mem_take hx)
        have K0 := dAt_mks S (ts.take 4) B 0 (by omega) hts4
        have K1 := dAt_mks S (ts.take 4) B 1 (by omega) hts4
        have K2 := dAt_mks S (ts.take 4) B 2 (by omega) hts4
        have P01 : x0.d.mark = x1.d.basis := by rw [h0, h1]; rfl
        have P12 : x1.d.mark = x2.d.basis := by rw [h1, h2]; rfl
        rw [← h0] at K0
        rw [← h1] at K1
        rw [← h2] at K2
        have T0 := getD_size hts4 0
        have T1 := getD_size hts4 1
        have O0 := (hD.2 x0 (by simp)).2.2
        have O1 := (hD.2 x1 (by simp)).2.2
        have O2 := (hD.2 x2 (by simp)).2.2
        obtain ⟨a3, k3, rfl⟩ := owns_slice hD.1
        obtain ⟨g3, off3, hal, hg3, _, hc⟩ := hD.cells rfl (by show 0 < 3; omega)
        have r := hc 0 (by show 0 < 3; omega)
        have s := hc 1 (by show 1 < 3; omega)
        have t := hc 2 (by show 2 < 3; omega)
        have G0 := hD.good x0 (by simp)
        have G1 := hD.good x1 (by simp)
        have G2 := hD.good x2 (by simp)
        simp only [List.getElem_cons_zero, List.getElem_cons_succ, Nat.zero_mul, Nat.add_zero, Nat.one_mul, show 2 * 4 = 8 from rfl] at r s t
        subst hal
        clear hc hl hdl hmem hlen hE hI e3 h0 h1 h2
        obtain ⟨⟨b0, m0, z0, l0⟩, a0, n0, k0⟩ := x0
        obtain ⟨⟨b1, m1, z1, l1⟩, a1, n1, k1x⟩ := x1
        obtain ⟨⟨b2, m2, z2, l2⟩, a2, n2, k2⟩ := x2
        simp only at r s t K0 K1 K2 P01 P12 O0 O1 O2
        obtain ⟨r0, r1, r2, r3⟩ := r
        obtain ⟨r4, r5, r6, r7⟩ := s
        obtain ⟨r8, r9, r10, r11⟩ := t
        have C01 := cmp_ok K0 K1 P01 (by omega) O0 O1
        have C12 := cmp_ok K1 K2 P12 (by omega) O1 O2
        have C012 := cmp_ok C01.2.1 K2 P12 (by omega) C01.1 O2
        have C012b := cmp_ok K0 C12.2.1 P01 (by omega) O0 C12.1
        have EQ := mk_assoc K0 K1 K2 (by omega)
        obtain ⟨L01, hL01⟩ : ∃ L, L = (cmpD ⟨b0, m0, z0, l0⟩ ⟨b1, m1, z1, l1⟩).steps := ⟨_, rfl⟩
        obtain ⟨L12, hL12⟩ : ∃ L, L = (cmpD ⟨b1, m1, z1, l1⟩ ⟨b2, m2, z2, l2⟩).steps := ⟨_, rfl⟩
        have HK7 : Hid (∀ Y aa na ca ab nb cb, Rs Y aa na ca 3 l0 St.c → Rs Y ab nb cb 3 l1 St.c → Calls Try.prog 17 #[.agg #[.string b0, .string m0, .int .i64 z0, .slice aa na ca], .agg #[.string b1, .string m1, .int .i64 z1, .slice ab nb cb]] Y (CmpQ b0 m1 z1 L01 Y)) := Lib.hid (fun Y aa na ca ab nb cb r1 r2 => cmp_q (compose_mks Y K0 K1 P01 (by omega) aa na ca ab nb cb r1 r2 O0 O1) hL01)
        have HK8 : Hid (∀ Y aa na ca ab nb cb, Rs Y aa na ca 3 l1 St.c → Rs Y ab nb cb 3 l2 St.c → Calls Try.prog 17 #[.agg #[.string b1, .string m1, .int .i64 z1, .slice aa na ca], .agg #[.string b2, .string m2, .int .i64 z2, .slice ab nb cb]] Y (CmpQ b1 m2 z2 L12 Y)) := Lib.hid (fun Y aa na ca ab nb cb r1 r2 => cmp_q (compose_mks Y K1 K2 P12 (by omega) aa na ca ab nb cb r1 r2 O1 O2) hL12)
        have D01 : (⟨b0, m1, z1, L01⟩ : Dl) = cmpD ⟨b0, m0, z0, l0⟩ ⟨b1, m1, z1, l1⟩ := by rw [hL01]; rfl
        have D12 : (⟨b1, m2, z2, L12⟩ : Dl) = cmpD ⟨b1, m1, z1, l1⟩ ⟨b2, m2, z2, l2⟩ := by rw [hL12]; rfl
        rw [← D01] at C01 C012
        rw [← D12] at C12 C012b
        obtain ⟨L012, hL012⟩ : ∃ L, L = (cmpD ⟨b0, m1, z1, L01⟩ ⟨b2, m2, z2, l2⟩).steps := ⟨_, rfl⟩
        have hL012b : L012 = (cmpD ⟨b0, m0, z0, l0⟩ ⟨b1, m2, z2, L12⟩).steps := by
          rw [hL012]
          show stepsB (compB L01 l2) = stepsB (compB l0 L12)
          rw [hL01, hL12]; exact EQ
        have HK9 : Hid (∀ Y aa na ca ab nb cb, Rs Y aa na ca 3 L01 St.c → Rs Y ab nb cb 3 l2 St.c → Calls Try.prog 17 #[.agg #[.string b0, .string m1, .int .i64 z1, .slice aa na ca], .agg #[.string b2, .string m2, .int .i64 z2, .slice ab nb cb]] Y (CmpQ b0 m2 z2 L012 Y)) := Lib.hid (fun Y aa na ca ab nb cb r1 r2 => cmp_q (compose_mks Y C01.2.1 K2 P12 (by omega) aa na ca ab nb cb r1 r2 C01.1 O2) hL012)
        have HK10 : Hid (∀ Y aa na ca ab nb cb, Rs Y aa na ca 3 l0 St.c → Rs Y ab nb cb 3 L12 St.c → Calls Try.prog 17 #[.agg #[.string b0, .string m0, .int .i64 z0, .slice aa na ca], .agg #[.string b1, .string m2, .int .i64 z2, .slice ab nb cb]] Y (CmpQ b0 m2 z2 L012 Y)) := Lib.hid (fun Y aa na ca ab nb cb r1 r2 => cmp_q (compose_mks Y K0 C12.2.1 P01 (by omega) aa na ca ab nb cb r1 r2 O0 C12.1) hL012b)
        have HLN : Hid (L012.length ≤ 1000000) := Lib.hid (by rw [hL012]; exact C012.2.2)
        have HRS0 := Lib.hid G0.1
        have HRS1 := Lib.hid G1.1
        have HRS2 := Lib.hid G2.1
        have HB3 : Hid (Below w.heap.size w w3) := Lib.hid (below_kept (bl_nx HB1.out.drew hBd2) HB1.out.size hK)
        have hw23 : w2.heap.size ≤ w3.heap.size := hK.size
        have hg3w := hg3
        have HR0 := Lib.hid r0
        have HR1 := Lib.hid r1
        have HR2 := Lib.hid r2
        have HR3 := Lib.hid r3
        have HR4 := Lib.hid r4
        have HR5 := Lib.hid r5
        have HR6 := Lib.hid r6
        have HR7 := Lib.hid r7
        have HR8 := Lib.hid r8
        have HR9 := Lib.hid r9
        have HR10 := Lib.hid r10
        have HR11 := Lib.hid r11
        clear K0 K1 K2 P01 P12 T0 T1 O0 O1 O2 G0 G1 G2 C01 C12 C012 C012b EQ hL01 hL12 hL012 hL012b D01 D12 hK hD hBd2 hI2 hg3 hts4
        have c0 : w3.cell? ⟨g3, off3, none⟩ = some (.string b0) := r0
        have c1 : w3.cell? ⟨g3, off3 + 1, none⟩ = some (.string m0) := r1
        have c2 : w3.cell? ⟨g3, off3 + 2, none⟩ = some (.int .i64 z0) := r2
        have c3 : w3.cell? ⟨g3, off3 + 3, none⟩ = some (.slice a0 n0 k0) := r3
        have c4 : w3.cell? ⟨g3, off3 + 4, none⟩ = some (.string b1) := r4
        have c5 : w3.cell? ⟨g3, off3 + 4 + 1, none⟩ = some (.string m1) := r5
        have c6 : w3.cell? ⟨g3, off3 + 4 + 2, none⟩ = some (.int .i64 z1) := r6
        have c7 : w3.cell? ⟨g3, off3 + 4 + 3, none⟩ = some (.slice a1 n1 k1x) := r7
        have HC01 : Hid (∀ Y, Below w3.heap.size w3 Y → Calls Try.prog 17 #[.agg #[.string b0, .string m0, .int .i64 z0, .slice a0 n0 k0], .agg #[.string b1, .string m1, .int .i64 z1, .slice a1 n1 k1x]] Y (CmpQ b0 m1 z1 L01 Y)) := Lib.hid (fun Y HW3 => HK7.out Y a0 n0 k0 a1 n1 k1x ((HRS0.out).next HW3) ((HRS1.out).next HW3))
        go_upto_region 7 with fail
        go_cut [6, 7] (fun v6 e7 wy => VarD w2 wy v6 ⟨b0, m1, z1, L01⟩ ∧ e7 = .int .i64 0 ∧ Below w3.heap.size w3 wy)
        case first =>
          have ALLOC : ∀ x : Obj, Below w3.heap.size w3 (w3.drew.alloc x) := fun x => (Below.refl _ _).drew.trans ((below_alloc w3.drew x).mono (Nat.le_refl _))
          have HAL := Lib.hid ALLOC
          clear ALLOC
          have nqg3 : w3.heap.size ≠ g3 := fun e => Nat.lt_irrefl _ (e ▸ (World.block_lt_of_cell? _ _ c0))
          go_region_held3 (fun w' => w'.cell? ⟨g3, off3, none⟩ = some (.string b0) ∧ w'.cell? ⟨g3, off3 + 1, none⟩ = some (.string m0) ∧ w'.cell? ⟨g3, off3 + 2, none⟩ = some (.int .i64 z0) ∧ w'.cell? ⟨g3, off3 + 3, none⟩ = some (.slice a0 n0 k0) ∧ w'.cell? ⟨g3, off3 + 4, none⟩ = some (.string b1) ∧ w'.cell? ⟨g3, off3 + 4 + 1, none⟩ = some (.string m1) ∧ w'.cell? ⟨g3, off3 + 4 + 2, none⟩ = some (.int .i64 z1) ∧ w'.cell? ⟨g3, off3 + 4 + 3, none⟩ = some (.slice a1 n1 k1x))
            (first | exact ⟨c0, c1, c2, c3, c4, c5, c6, c7⟩ | go_keep)
            (first
              | (go_at_call 17; refine (HC01.out w3.drew (bl_drew (Below.refl _ _))).mono ?_; rintro e w5 ⟨a5, k5, rfl, hO5, hb5⟩; replace c0 := (hb5.cell (p := ⟨g3, off3, none⟩) (by exact World.block_lt_of_cell? _ _ c0)).trans c0; replace c1 := (hb5.cell (p := ⟨g3, off3 + 1, none⟩) (by exact World.block_lt_of_cell? _ _ c1)).trans c1; replace c2 := (hb5.cell (p := ⟨g3, off3 + 2, none⟩) (by exact World.block_lt_of_cell? _ _ c2)).trans c2; replace c3 := (hb5.cell (p := ⟨g3, off3 + 3, none⟩) (by exact World.block_lt_of_cell? _ _ c3)).trans c3; replace c4 := (hb5.cell (p := ⟨g3, off3 + 4, none⟩) (by exact World.block_lt_of_cell? _ _ c4)).trans c4; replace c5 := (hb5.cell (p := ⟨g3, off3 + 4 + 1, none⟩) (by exact World.block_lt_of_cell? _ _ c5)).trans c5; replace c6 := (hb5.cell (p := ⟨g3, off3 + 4 + 2, none⟩) (by exact World.block_lt_of_cell? _ _ c6)).trans c6; replace c7 := (hb5.cell (p := ⟨g3, off3 + 4 + 3, none⟩) (by exact World.block_lt_of_cell? _ _ c7)).trans c7)
              | (go_at_call 17; refine (HC01.out (w3.drew.alloc _) (HAL.out _)).mono ?_; rintro e w5 ⟨a5, k5, rfl, hO5, hb5⟩; replace c0 := (hb5.cell (p := ⟨g3, off3, none⟩) (by exact Nat.lt_of_lt_of_le (World.block_lt_of_cell? _ _ c0) (HAL.out _).size)).trans (((HAL.out _).cell (p := ⟨g3, off3, none⟩) (World.block_lt_of_cell? _ _ c0)).trans c0); replace c1 := (hb5.cell (p := ⟨g3, off3 + 1, none⟩) (by exact Nat.lt_of_lt_of_le (World.block_lt_of_cell? _ _ c1) (HAL.out _).size)).trans (((HAL.out _).cell (p := ⟨g3, off3 + 1, none⟩) (World.block_lt_of_cell? _ _ c1)).trans c1); replace c2 := (hb5.cell (p := ⟨g3, off3 + 2, none⟩) (by exact Nat.lt_of_lt_of_le (World.block_lt_of_cell? _ _ c2) (HAL.out _).size)).trans (((HAL.out _).cell (p := ⟨g3, off3 + 2, none⟩) (World.block_lt_of_cell? _ _ c2)).trans c2); replace c3 := (hb5.cell (p := ⟨g3, off3 + 3, none⟩) (by exact Nat.lt_of_lt_of_le (World.block_lt_of_cell? _ _ c3) (HAL.out _).size)).trans (((HAL.out _).cell (p := ⟨g3, off3 + 3, none⟩) (World.block_lt_of_cell? _ _ c3)).trans c3); replace c4 := (hb5.cell (p := ⟨g3, off3 + 4, none⟩) (by exact Nat.lt_of_lt_of_le (World.block_lt_of_cell? _ _ c4) (HAL.out _).size)).trans (((HAL.out _).cell (p := ⟨g3, off3 + 4, none⟩) (World.block_lt_of_cell? _ _ c4)).trans c4); replace c5 := (hb5.cell (p := ⟨g3, off3 + 4 + 1, none⟩) (by exact Nat.lt_of_lt_of_le (World.block_lt_of_cell? _ _ c5) (HAL.out _).size)).trans (((HAL.out _).cell (p := ⟨g3, off3 + 4 + 1, none⟩) (World.block_lt_of_cell? _ _ c5)).trans c5); replace c6 := (hb5.cell (p := ⟨g3, off3 + 4 + 2, none⟩) (by exact Nat.lt_of_lt_of_le (World.block_lt_of_cell? _ _ c6) (HAL.out _).size)).trans (((HAL.out _).cell (p := ⟨g3, off3 + 4 + 2, none⟩) (World.block_lt_of_cell? _ _ c6)).trans c6); replace c7 := (hb5.cell (p := ⟨g3, off3 + 4 + 3, none⟩) (by exact Nat.lt_of_lt_of_le (World.block_lt_of_cell? _ _ c7) (HAL.out _).size)).trans (((HAL.out _).cell (p := ⟨g3, off3 + 4 + 3, none⟩) (World.block_lt_of_cell? _ _ c7)).trans c7); have hQ5 : Blk w5 w3.heap.size [.string ByteArray.empty, .string ByteArray.empty, .int .i64 0, .slice none 0 0] 25 := (Blk.new w3.drew [.string ByteArray.empty, .string ByteArray.empty, .int .i64 0, .slice none 0 0] 25).below hb5 (Blk.lt (Blk.new w3.drew [.string ByteArray.empty, .string ByteArray.empty, .int .i64 0, .slice none 0 0] 25)); have u0 := hQ5.cell (i := 0) rfl; have u1 := hQ5.cell (i := 1) rfl; have u2 := hQ5.cell (i := 2) rfl; have u3 := hQ5.cell (i := 3) rfl; have v0 := hQ5.frozen 0; have v1 := hQ5.frozen 1; have v2 := hQ5.frozen 2; have v3 := hQ5.frozen 3))
          · obtain ⟨Y, hY⟩ : ∃ Y, Y = w5.alloc (Obj.cells #[.string b0, .string m1, .int .i64 z1, .slice a5 L01.length k5] 25) := ⟨_, rfl⟩
            obtain ⟨qn, hq⟩ : ∃ q, q = w5.heap.size := ⟨_, rfl⟩
            have hbY : Below w3.heap.size w3 Y := by rw [hY]; exact bl_nx (bl_nx (bl_drew (Below.refl _ w3)) hb5) (below_alloc _ _)
            have hvY : VarD w2 Y (.pointer (some ⟨qn, 0, none⟩)) ⟨b0, m1, z1, L01⟩ := by rw [hY, hq]; exact VarD.new (d := ⟨b0, m1, z1, L01⟩) (owns_mono hO5 (hw23))
            rw [← hY, ← hq]
            have HF : Hid (VarD w2 Y (.pointer (some ⟨qn, 0, none⟩)) ⟨b0, m1, z1, L01⟩ ∧ Below w3.heap.size w3 Y) := Lib.hid ⟨hvY, hbY⟩
            clear c0 c1 c2 c3 c4 c5 c6 c7 hY hq hbY hvY hO5 hb5
            go_wp2
            go_meet
            exact ⟨HF.out.1, rfl, HF.out.2⟩
          · obtain ⟨Y, hY⟩ : ∃ Y, Y = (((w5.setCell ⟨w3.heap.size, 0, none⟩ (.string b0)).setCell ⟨w3.heap.size, 1, none⟩ (.string m1)).setCell ⟨w3.heap.size, 2, none⟩ (.int .i64 z1)).setCell ⟨w3.heap.size, 3, none⟩ (.slice a5 L01.length k5) := ⟨_, rfl⟩
            obtain ⟨qn, hq⟩ : ∃ q, q = w3.heap.size := ⟨_, rfl⟩
            have hbY : Below w3.heap.size w3 Y := by rw [hY]; exact below_set4 (bl_nx (HAL.out _) hb5) (Nat.le_refl _) _ _ _ _
            have hvY : VarD w2 Y (.pointer (some ⟨qn, 0, none⟩)) ⟨b0, m1, z1, L01⟩ := by rw [hY, hq]; exact VarD.store (d := ⟨b0, m1, z1, L01⟩) hQ5 hO5 (by simp) (Nat.le_trans (hw23) (by simp))
            rw [← hY, ← hq]
            have HF : Hid (VarD w2 Y (.pointer (some ⟨qn, 0, none⟩)) ⟨b0, m1, z1, L01⟩ ∧ Below w3.heap.size w3 Y) := Lib.hid ⟨hvY, hbY⟩
            clear c0 c1 c2 c3 c4 c5 c6 c7 u0 u1 u2 u3 v0 v1 v2 v3 hQ5 hY hq hbY hvY hO5 hb5
            go_wp2
            go_meet
            exact ⟨HF.out.1, rfl, HF.out.2⟩
        case rest =>
          obtain ⟨hv6, rfl, hbx⟩ := hcut
          obtain ⟨q6, a6, k6, rfl, hG6, hO6⟩ := hv6
          obtain ⟨wx, rfl⟩ : ∃ x : World, x = wc := ⟨_, rfl⟩
          have HV6 : Hid (VarD w2 wx (.pointer (some ⟨q6, 0, none⟩)) ⟨b0, m1, z1, L01⟩) := Lib.hid ⟨q6, a6, k6, rfl, hG6, hO6⟩
          have HX : Hid (True ∧ Below w3.heap.size w3 wx) := Lib.hid ⟨trivial, hbx⟩
          have c0 : wx.cell? ⟨g3, off3 + 4, none⟩ = some (.string b1) := ((hbx.cell (p := ⟨g3, off3 + 4, none⟩) hg3w).trans HR4.out)
          have c1 : wx.cell? ⟨g3, off3 + 4 + 1, none⟩ = some (.string m1) := ((hbx.cell (p := ⟨g3, off3 + 4 + 1, none⟩) hg3w).trans HR5.out)
          have c2 : wx.cell? ⟨g3, off3 + 4 + 2, none⟩ = some (.int .i64 z1) := ((hbx.cell (p := ⟨g3, off3 + 4 + 2, none⟩) hg3w).trans HR6.out)
          have c3 : wx.cell? ⟨g3, off3 + 4 + 3, none⟩ = some (.slice a1 n1 k1x) := ((hbx.cell (p := ⟨g3, off3 + 4 + 3, none⟩) hg3w).trans HR7.out)
          have c4 : wx.cell? ⟨g3, off3 + 8, none⟩ = some (.string b2) := ((hbx.cell (p := ⟨g3, off3 + 8, none⟩) hg3w).trans HR8.out)
          have c5 : wx.cell? ⟨g3, off3 + 8 + 1, none⟩ = some (.string m2) := ((hbx.cell (p := ⟨g3, off3 + 8 + 1, none⟩) hg3w).trans HR9.out)
          have c6 : wx.cell? ⟨g3, off3 + 8 + 2, none⟩ = some (.int .i64 z2) := ((hbx.cell (p := ⟨g3, off3 + 8 + 2, none⟩) hg3w).trans HR10.out)
          have c7 : wx.cell? ⟨g3, off3 + 8 + 3, none⟩ = some (.slice a2 n2 k2) := ((hbx.cell (p := ⟨g3, off3 + 8 + 3, none⟩) hg3w).trans HR11.out)
          have HC12 : Hid (∀ Y, Below wx.heap.size wx Y → Calls Try.prog 17 #[.agg #[.string b1, .string m1, .int .i64 z1, .slice a1 n1 k1x], .agg #[.string b2, .string m2, .int .i64 z2, .slice a2 n2 k2]] Y (CmpQ b1 m2 z2 L12 Y)) := Lib.hid (fun Y HW3 => HK8.out Y a1 n1 k1x a2 n2 k2 ((HRS1.out).next (bl_nx hbx HW3)) ((HRS2.out).next (bl_nx hbx HW3)))
          clear hbx  hG6 hO6
          go_upto_region 8 with fail
          go_cut [8, 9] (fun v8 e9 wy => VarD w2 wy (.pointer (some ⟨q6, 0, none⟩)) ⟨b0, m1, z1, L01⟩ ∧ VarD w2 wy v8 ⟨b1, m2, z2, L12⟩ ∧ e9 = .int .i64 0 ∧ Below w3.heap.size w3 wy)
          case first =>
            have ALLOC : ∀ x : Obj, Below wx.heap.size wx (wx.drew.alloc x) := fun x => (Below.refl _ _).drew.trans ((below_alloc wx.drew x).mono (Nat.le_refl _))
            have HAL := Lib.hid ALLOC
            clear ALLOC
            have nqg3 : wx.heap.size ≠ g3 := fun e => Nat.lt_irrefl _ (e ▸ (World.block_lt_of_cell? _ _ c0))
            go_region_held3 (fun w' => w'.cell? ⟨g3, off3 + 4, none⟩ = some (.string b1) ∧ w'.cell? ⟨g3, off3 + 4 + 1, none⟩ = some (.string m1) ∧ w'.cell? ⟨g3, off3 + 4 + 2, none⟩ = some (.int .i64 z1) ∧ w'.cell? ⟨g3, off3 + 4 + 3, none⟩ = some (.slice a1 n1 k1x) ∧ w'.cell? ⟨g3, off3 + 8, none⟩ = some (.string b2) ∧ w'.cell? ⟨g3, off3 + 8 + 1, none⟩ = some (.string m2) ∧ w'.cell? ⟨g3, off3 + 8 + 2, none⟩ = some (.int .i64 z2) ∧ w'.cell? ⟨g3, off3 + 8 + 3, none⟩ = some (.slice a2 n2 k2))
              (first | exact ⟨c0, c1, c2, c3, c4, c5, c6, c7⟩ | go_keep)
              (first
                | (go_at_call 17; refine (HC12.out wx.drew (bl_drew (Below.refl _ _))).mono ?_; rintro e w5 ⟨a5, k5, rfl, hO5, hb5⟩; replace c0 := (hb5.cell (p := ⟨g3, off3 + 4, none⟩) (by exact World.block_lt_of_cell? _ _ c0)).trans c0; replace c1 := (hb5.cell (p := ⟨g3, off3 + 4 + 1, none⟩) (by exact World.block_lt_of_cell? _ _ c1)).trans c1; replace c2 := (hb5.cell (p := ⟨g3, off3 + 4 + 2, none⟩) (by exact World.block_lt_of_cell? _ _ c2)).trans c2; replace c3 := (hb5.cell (p := ⟨g3, off3 + 4 + 3, none⟩) (by exact World.block_lt_of_cell? _ _ c3)).trans c3; replace c4 := (hb5.cell (p := ⟨g3, off3 + 8, none⟩) (by exact World.block_lt_of_cell? _ _ c4)).trans c4; replace c5 := (hb5.cell (p := ⟨g3, off3 + 8 + 1, none⟩) (by exact World.block_lt_of_cell? _ _ c5)).trans c5; replace c6 := (hb5.cell (p := ⟨g3, off3 + 8 + 2, none⟩) (by exact World.block_lt_of_cell? _ _ c6)).trans c6; replace c7 := (hb5.cell (p := ⟨g3, off3 + 8 + 3, none⟩) (by exact World.block_lt_of_cell? _ _ c7)).trans c7)
                | (go_at_call 17; refine (HC12.out (wx.drew.alloc _) (HAL.out _)).mono ?_; rintro e w5 ⟨a5, k5, rfl, hO5, hb5⟩; replace c0 := (hb5.cell (p := ⟨g3, off3 + 4, none⟩) (by exact Nat.lt_of_lt_of_le (World.block_lt_of_cell? _ _ c0) (HAL.out _).size)).trans (((HAL.out _).cell (p := ⟨g3, off3 + 4, none⟩) (World.block_lt_of_cell? _ _ c0)).trans c0); replace c1 := (hb5.cell (p := ⟨g3, off3 + 4 + 1, none⟩) (by exact Nat.lt_of_lt_of_le (World.block_lt_of_cell? _ _ c1) (HAL.out _).size)).trans (((HAL.out _).cell (p := ⟨g3, off3 + 4 + 1, none⟩) (World.block_lt_of_cell? _ _ c1)).trans c1); replace c2 := (hb5.cell (p := ⟨g3, off3 + 4 + 2, none⟩) (by exact Nat.lt_of_lt_of_le (World.block_lt_of_cell? _ _ c2) (HAL.out _).size)).trans (((HAL.out _).cell (p := ⟨g3, off3 + 4 + 2, none⟩) (World.block_lt_of_cell? _ _ c2)).trans c2); replace c3 := (hb5.cell (p := ⟨g3, off3 + 4 + 3, none⟩) (by exact Nat.lt_of_lt_of_le (World.block_lt_of_cell? _ _ c3) (HAL.out _).size)).trans (((HAL.out _).cell (p := ⟨g3, off3 + 4 + 3, none⟩) (World.block_lt_of_cell? _ _ c3)).trans c3); replace c4 := (hb5.cell (p := ⟨g3, off3 + 8, none⟩) (by exact Nat.lt_of_lt_of_le (World.block_lt_of_cell? _ _ c4) (HAL.out _).size)).trans (((HAL.out _).cell (p := ⟨g3, off3 + 8, none⟩) (World.block_lt_of_cell? _ _ c4)).trans c4); replace c5 := (hb5.cell (p := ⟨g3, off3 + 8 + 1, none⟩) (by exact Nat.lt_of_lt_of_le (World.block_lt_of_cell? _ _ c5) (HAL.out _).size)).trans (((HAL.out _).cell (p := ⟨g3, off3 + 8 + 1, none⟩) (World.block_lt_of_cell? _ _ c5)).trans c5); replace c6 := (hb5.cell (p := ⟨g3, off3 + 8 + 2, none⟩) (by exact Nat.lt_of_lt_of_le (World.block_lt_of_cell? _ _ c6) (HAL.out _).size)).trans (((HAL.out _).cell (p := ⟨g3, off3 + 8 + 2, none⟩) (World.block_lt_of_cell? _ _ c6)).trans c6); replace c7 := (hb5.cell (p := ⟨g3, off3 + 8 + 3, none⟩) (by exact Nat.lt_of_lt_of_le (World.block_lt_of_cell? _ _ c7) (HAL.out _).size)).trans (((HAL.out _).cell (p := ⟨g3, off3 + 8 + 3, none⟩) (World.block_lt_of_cell? _ _ c7)).trans c7); have hQ5 : Blk w5 wx.heap.size [.string ByteArray.empty, .string ByteArray.empty, .int .i64 0, .slice none 0 0] 25 := (Blk.new wx.drew [.string ByteArray.empty, .string ByteArray.empty, .int .i64 0, .slice none 0 0] 25).below hb5 (Blk.lt (Blk.new wx.drew [.string ByteArray.empty, .string ByteArray.empty, .int .i64 0, .slice none 0 0] 25)); have u0 := hQ5.cell (i := 0) rfl; have u1 := hQ5.cell (i := 1) rfl; have u2 := hQ5.cell (i := 2) rfl; have u3 := hQ5.cell (i := 3) rfl; have v0 := hQ5.frozen 0; have v1 := hQ5.frozen 1; have v2 := hQ5.frozen 2; have v3 := hQ5.frozen 3))
            · obtain ⟨Y, hY⟩ : ∃ Y, Y = w5.alloc (Obj.cells #[.string b1, .string m2, .int .i64 z2, .slice a5 L12.length k5] 25) := ⟨_, rfl⟩
              obtain ⟨qn, hq⟩ : ∃ q, q = w5.heap.size := ⟨_, rfl⟩
              have hbY : Below wx.heap.size wx Y := by rw [hY]; exact bl_nx (bl_nx (bl_drew (Below.refl _ wx)) hb5) (below_alloc _ _)
              have hvY : VarD w2 Y (.pointer (some ⟨qn, 0, none⟩)) ⟨b1, m2, z2, L12⟩ := by rw [hY, hq]; exact VarD.new (d := ⟨b1, m2, z2, L12⟩) (owns_mono hO5 (Nat.le_trans hw23 HX.out.2.size))
              rw [← hY, ← hq]
              have HF : Hid (VarD w2 Y (.pointer (some ⟨q6, 0, none⟩)) ⟨b0, m1, z1, L01⟩ ∧ VarD w2 Y (.pointer (some ⟨qn, 0, none⟩)) ⟨b1, m2, z2, L12⟩ ∧ Below w3.heap.size w3 Y) := Lib.hid ⟨HV6.out.below hbY, hvY, bl_nx HX.out.2 hbY⟩
              clear c0 c1 c2 c3 c4 c5 c6 c7 hY hq hbY hvY hO5 hb5
              go_wp2
              go_meet
              exact ⟨HF.out.1, HF.out.2.1, rfl, HF.out.2.2⟩
            · obtain ⟨Y, hY⟩ : ∃ Y, Y = (((w5.setCell ⟨wx.heap.size, 0, none⟩ (.string b1)).setCell ⟨wx.heap.size, 1, none⟩ (.string m2)).setCell ⟨wx.heap.size, 2, none⟩ (.int .i64 z2)).setCell ⟨wx.heap.size, 3, none⟩ (.slice a5 L12.length k5) := ⟨_, rfl⟩
              obtain ⟨qn, hq⟩ : ∃ q, q = wx.heap.size := ⟨_, rfl⟩
              have hbY : Below wx.heap.size wx Y := by rw [hY]; exact below_set4 (bl_nx (HAL.out _) hb5) (Nat.le_refl _) _ _ _ _
              have hvY : VarD w2 Y (.pointer (some ⟨qn, 0, none⟩)) ⟨b1, m2, z2, L12⟩ := by rw [hY, hq]; exact VarD.store (d := ⟨b1, m2, z2, L12⟩) hQ5 hO5 (by simp) (Nat.le_trans (Nat.le_trans hw23 HX.out.2.size) (by simp))
              rw [← hY, ← hq]
              have HF : Hid (VarD w2 Y (.pointer (some ⟨q6, 0, none⟩)) ⟨b0, m1, z1, L01⟩ ∧ VarD w2 Y (.pointer (some ⟨qn, 0, none⟩)) ⟨b1, m2, z2, L12⟩ ∧ Below w3.heap.size w3 Y) := Lib.hid ⟨HV6.out.below hbY, hvY, bl_nx HX.out.2 hbY⟩
              clear c0 c1 c2 c3 c4 c5 c6 c7 u0 u1 u2 u3 v0 v1 v2 v3 hQ5 hY hq hbY hvY hO5 hb5
              go_wp2
              go_meet
              exact ⟨HF.out.1, HF.out.2.1, rfl, HF.out.2.2⟩
          case rest =>
            obtain ⟨hv6, hv8, rfl, hbx⟩ := hcut
            obtain ⟨q8, a8, k8, rfl, hG8, hO8⟩ := hv8
            obtain ⟨wx, rfl⟩ : ∃ x : World, x = wc := ⟨_, rfl⟩
            have HV6 := Lib.hid hv6
            have HV8 : Hid (VarD w2 wx (.pointer (some ⟨q8, 0, none⟩)) ⟨b1, m2, z2, L12⟩) := Lib.hid ⟨q8, a8, k8, rfl, hG8, hO8⟩
            obtain ⟨q6x, a6, k6, hqe, hG6, hO6⟩ := HV6.out
            injection hqe with hqe; injection hqe with hqe; injection hqe with hqe; subst hqe
            have HX : Hid (True ∧ Below w3.heap.size w3 wx) := Lib.hid ⟨trivial, hbx⟩
            have c0 : wx.cell? ⟨q6, 0, none⟩ = some (.string b0) := hG6.cell (i := 0) rfl
            have c1 : wx.cell? ⟨q6, 1, none⟩ = some (.string m1) := hG6.cell (i := 1) rfl
            have c2 : wx.cell? ⟨q6, 2, none⟩ = some (.int .i64 z1) := hG6.cell (i := 2) rfl
            have c3 : wx.cell? ⟨q6, 3, none⟩ = some (.slice a6 L01.length k6) := hG6.cell (i := 3) rfl
            have c4 : wx.cell? ⟨g3, off3 + 8, none⟩ = some (.string b2) := ((hbx.cell (p := ⟨g3, off3 + 8, none⟩) hg3w).trans HR8.out)
            have c5 : wx.cell? ⟨g3, off3 + 8 + 1, none⟩ = some (.string m2) := ((hbx.cell (p := ⟨g3, off3 + 8 + 1, none⟩) hg3w).trans HR9.out)
            have c6 : wx.cell? ⟨g3, off3 + 8 + 2, none⟩ = some (.int .i64 z2) := ((hbx.cell (p := ⟨g3, off3 + 8 + 2, none⟩) hg3w).trans HR10.out)
            have c7 : wx.cell? ⟨g3, off3 + 8 + 3, none⟩ = some (.slice a2 n2 k2) := ((hbx.cell (p := ⟨g3, off3 + 8 + 3, none⟩) hg3w).trans HR11.out)
            have HC012 : Hid (∀ Y, Below wx.heap.size wx Y → Calls Try.prog 17 #[.agg #[.string b0, .string m1, .int .i64 z1, .slice a6 L01.length k6], .agg #[.string b2, .string m2, .int .i64 z2, .slice a2 n2 k2]] Y (CmpQ b0 m2 z2 L012 Y)) := Lib.hid (fun Y HW3 => HK9.out Y a6 L01.length k6 a2 n2 k2 ((Own.rs rfl hO6).next HW3) ((HRS2.out).next (bl_nx hbx HW3)))
            clear hbx hv6 hG8 hO8 hG6 hO6
            go_upto_region 9 with fail
            go_cut [10, 11] (fun v10 e11 wy => VarD w2 wy (.pointer (some ⟨q6, 0, none⟩)) ⟨b0, m1, z1, L01⟩ ∧ VarD w2 wy (.pointer (some ⟨q8, 0, none⟩)) ⟨b1, m2, z2, L12⟩ ∧ VarD w2 wy v10 ⟨b0, m2, z2, L012⟩ ∧ e11 = .int .i64 0 ∧ Below w3.heap.size w3 wy)
            case first =>
              have ALLOC : ∀ x : Obj, Below wx.heap.size wx (wx.drew.alloc x) := fun x => (Below.refl _ _).drew.trans ((below_alloc wx.drew x).mono (Nat.le_refl _))
              have HAL := Lib.hid ALLOC
              clear ALLOC
              have nqq6 : wx.heap.size ≠ q6 := fun e => Nat.lt_irrefl _ (e ▸ (World.block_lt_of_cell? _ _ c0))
              have nqg3 : wx.heap.size ≠ g3 := fun e => Nat.lt_irrefl _ (e ▸ (World.block_lt_of_cell? _ _ c4))
              go_region_held3 (fun w' => w'.cell? ⟨q6, 0, none⟩ = some (.string b0) ∧ w'.cell? ⟨q6, 1, none⟩ = some (.string m1) ∧ w'.cell? ⟨q6, 2, none⟩ = some (.int .i64 z1) ∧ w'.cell? ⟨q6, 3, none⟩ = some (.slice a6 L01.length k6) ∧ w'.cell? ⟨g3, off3 + 8, none⟩ = some (.string b2) ∧ w'.cell? ⟨g3, off3 + 8 + 1, none⟩ = some (.string m2) ∧ w'.cell? ⟨g3, off3 + 8 + 2, none⟩ = some (.int .i64 z2) ∧ w'.cell? ⟨g3, off3 + 8 + 3, none⟩ = some (.slice a2 n2 k2))
                (first | exact ⟨c0, c1, c2, c3, c4, c5, c6, c7⟩ | go_keep)
                (first
                  | (go_at_call 17; refine (HC012.out wx.drew (bl_drew (Below.refl _ _))).mono ?_; rintro e w5 ⟨a5, k5, rfl, hO5, hb5⟩; replace c0 := (hb5.cell (p := ⟨q6, 0, none⟩) (by exact World.block_lt_of_cell? _ _ c0)).trans c0; replace c1 := (hb5.cell (p := ⟨q6, 1, none⟩) (by exact World.block_lt_of_cell? _ _ c1)).trans c1; replace c2 := (hb5.cell (p := ⟨q6, 2, none⟩) (by exact World.block_lt_of_cell? _ _ c2)).trans c2; replace c3 := (hb5.cell (p := ⟨q6, 3, none⟩) (by exact World.block_lt_of_cell? _ _ c3)).trans c3; replace c4 := (hb5.cell (p := ⟨g3, off3 + 8, none⟩) (by exact World.block_lt_of_cell? _ _ c4)).trans c4; replace c5 := (hb5.cell (p := ⟨g3, off3 + 8 + 1, none⟩) (by exact World.block_lt_of_cell? _ _ c5)).trans c5; replace c6 := (hb5.cell (p := ⟨g3, off3 + 8 + 2, none⟩) (by exact World.block_lt_of_cell? _ _ c6)).trans c6; replace c7 := (hb5.cell (p := ⟨g3, off3 + 8 + 3, none⟩) (by exact World.block_lt_of_cell? _ _ c7)).trans c7)
                  | (go_at_call 17; refine (HC012.out (wx.drew.alloc _) (HAL.out _)).mono ?_; rintro e w5 ⟨a5, k5, rfl, hO5, hb5⟩; replace c0 := (hb5.cell (p := ⟨q6, 0, none⟩) (by exact Nat.lt_of_lt_of_le (World.block_lt_of_cell? _ _ c0) (HAL.out _).size)).trans (((HAL.out _).cell (p := ⟨q6, 0, none⟩) (World.block_lt_of_cell? _ _ c0)).trans c0); replace c1 := (hb5.cell (p := ⟨q6, 1, none⟩) (by exact Nat.lt_of_lt_of_le (World.block_lt_of_cell? _ _ c1) (HAL.out _).size)).trans (((HAL.out _).cell (p := ⟨q6, 1, none⟩) (World.block_lt_of_cell? _ _ c1)).trans c1); replace c2 := (hb5.cell (p := ⟨q6, 2, none⟩) (by exact Nat.lt_of_lt_of_le (World.block_lt_of_cell? _ _ c2) (HAL.out _).size)).trans (((HAL.out _).cell (p := ⟨q6, 2, none⟩) (World.block_lt_of_cell? _ _ c2)).trans c2); replace c3 := (hb5.cell (p := ⟨q6, 3, none⟩) (by exact Nat.lt_of_lt_of_le (World.block_lt_of_cell? _ _ c3) (HAL.out _).size)).trans (((HAL.out _).cell (p := ⟨q6, 3, none⟩) (World.block_lt_of_cell? _ _ c3)).trans c3); replace c4 := (hb5.cell (p := ⟨g3, off3 + 8, none⟩) (by exact Nat.lt_of_lt_of_le (World.block_lt_of_cell? _ _ c4) (HAL.out _).size)).trans (((HAL.out _).cell (p := ⟨g3, off3 + 8, none⟩) (World.block_lt_of_cell? _ _ c4)).trans c4); replace c5 := (hb5.cell (p := ⟨g3, off3 + 8 + 1, none⟩) (by exact Nat.lt_of_lt_of_le (World.block_lt_of_cell? _ _ c5) (HAL.out _).size)).trans (((HAL.out _).cell (p := ⟨g3, off3 + 8 + 1, none⟩) (World.block_lt_of_cell? _ _ c5)).trans c5); replace c6 := (hb5.cell (p := ⟨g3, off3 + 8 + 2, none⟩) (by exact Nat.lt_of_lt_of_le (World.block_lt_of_cell? _ _ c6) (HAL.out _).size)).trans (((HAL.out _).cell (p := ⟨g3, off3 + 8 + 2, none⟩) (World.block_lt_of_cell? _ _ c6)).trans c6); replace c7 := (hb5.cell (p := ⟨g3, off3 + 8 + 3, none⟩) (by exact Nat.lt_of_lt_of_le (World.block_lt_of_cell? _ _ c7) (HAL.out _).size)).trans (((HAL.out _).cell (p := ⟨g3, off3 + 8 + 3, none⟩) (World.block_lt_of_cell? _ _ c7)).trans c7); have hQ5 : Blk w5 wx.heap.size [.string ByteArray.empty, .string ByteArray.empty, .int .i64 0, .slice none 0 0] 25 := (Blk.new wx.drew [.string ByteArray.empty, .string ByteArray.empty, .int .i64 0, .slice none 0 0] 25).below hb5 (Blk.lt (Blk.new wx.drew [.string ByteArray.empty, .string ByteArray.empty, .int .i64 0, .slice none 0 0] 25)); have u0 := hQ5.cell (i := 0) rfl; have u1 := hQ5.cell (i := 1) rfl; have u2 := hQ5.cell (i := 2) rfl; have u3 := hQ5.cell (i := 3) rfl; have v0 := hQ5.frozen 0; have v1 := hQ5.frozen 1; have v2 := hQ5.frozen 2; have v3 := hQ5.frozen 3))
              · obtain ⟨Y, hY⟩ : ∃ Y, Y = w5.alloc (Obj.cells #[.string b0, .string m2, .int .i64 z2, .slice a5 L012.length k5] 25) := ⟨_, rfl⟩
                obtain ⟨qn, hq⟩ : ∃ q, q = w5.heap.size := ⟨_, rfl⟩
                have hbY : Below wx.heap.size wx Y := by rw [hY]; exact bl_nx (bl_nx (bl_drew (Below.refl _ wx)) hb5) (below_alloc _ _)
                have hvY : VarD w2 Y (.pointer (some ⟨qn, 0, none⟩)) ⟨b0, m2, z2, L012⟩ := by rw [hY, hq]; exact VarD.new (d := ⟨b0, m2, z2, L012⟩) (owns_mono hO5 (Nat.le_trans hw23 HX.out.2.size))
                rw [← hY, ← hq]
                have HF : Hid (VarD w2 Y (.pointer (some ⟨q6, 0, none⟩)) ⟨b0, m1, z1, L01⟩ ∧ VarD w2 Y (.pointer (some ⟨q8, 0, none⟩)) ⟨b1, m2, z2, L12⟩ ∧ VarD w2 Y (.pointer (some ⟨qn, 0, none⟩)) ⟨b0, m2, z2, L012⟩ ∧ Below w3.heap.size w3 Y) := Lib.hid ⟨HV6.out.below hbY, HV8.out.below hbY, hvY, bl_nx HX.out.2 hbY⟩
                clear c0 c1 c2 c3 c4 c5 c6 c7 hY hq hbY hvY hO5 hb5
                go_wp2
                go_meet
                exact ⟨HF.out.1, HF.out.2.1, HF.out.2.2.1, rfl, HF.out.2.2.2⟩
              · obtain ⟨Y, hY⟩ : ∃ Y, Y = (((w5.setCell ⟨wx.heap.size, 0, none⟩ (.string b0)).setCell ⟨wx.heap.size, 1, none⟩ (.string m2)).setCell ⟨wx.heap.size, 2, none⟩ (.int .i64 z2)).setCell ⟨wx.heap.size, 3, none⟩ (.slice a5 L012.length k5) := ⟨_, rfl⟩
                obtain ⟨qn, hq⟩ : ∃ q, q = wx.heap.size := ⟨_, rfl⟩
                have hbY : Below wx.heap.size wx Y := by rw [hY]; exact below_set4 (bl_nx (HAL.out _) hb5) (Nat.le_refl _) _ _ _ _
                have hvY : VarD w2 Y (.pointer (some ⟨qn, 0, none⟩)) ⟨b0, m2, z2, L012⟩ := by rw [hY, hq]; exact VarD.store (d := ⟨b0, m2, z2, L012⟩) hQ5 hO5 (by simp) (Nat.le_trans (Nat.le_trans hw23 HX.out.2.size) (by simp))
                rw [← hY, ← hq]
                have HF : Hid (VarD w2 Y (.pointer (some ⟨q6, 0, none⟩)) ⟨b0, m1, z1, L01⟩ ∧ VarD w2 Y (.pointer (some ⟨q8, 0, none⟩)) ⟨b1, m2, z2, L12⟩ ∧ VarD w2 Y (.pointer (some ⟨qn, 0, none⟩)) ⟨b0, m2, z2, L012⟩ ∧ Below w3.heap.size w3 Y) := Lib.hid ⟨HV6.out.below hbY, HV8.out.below hbY, hvY, bl_nx HX.out.2 hbY⟩
                clear c0 c1 c2 c3 c4 c5 c6 c7 u0 u1 u2 u3 v0 v1 v2 v3 hQ5 hY hq hbY hvY hO5 hb5
                go_wp2
                go_meet
                exact ⟨HF.out.1, HF.out.2.1, HF.out.2.2.1, rfl, HF.out.2.2.2⟩
            case rest =>
              obtain ⟨hv6, hv8, hv10, rfl, hbx⟩ := hcut
              obtain ⟨q10, a10, k10, rfl, hG10, hO10⟩ := hv10
              obtain ⟨wx, rfl⟩ : ∃ x : World, x = wc := ⟨_, rfl⟩
              have HV6 := Lib.hid hv6
              have HV8 := Lib.hid hv8
              have HV10 : Hid (VarD w2 wx (.pointer (some ⟨q10, 0, none⟩)) ⟨b0, m2, z2, L012⟩) := Lib.hid ⟨q10, a10, k10, rfl, hG10, hO10⟩
              obtain ⟨q8x, a8, k8, hqe, hG8, hO8⟩ := HV8.out
              injection hqe with hqe; injection hqe with hqe; injection hqe with hqe; subst hqe
              have HX : Hid (True ∧ Below w3.heap.size w3 wx) := Lib.hid ⟨trivial, hbx⟩
              have c0 : wx.cell? ⟨g3, off3, none⟩ = some (.string b0) := ((hbx.cell (p := ⟨g3, off3, none⟩) hg3w).trans HR0.out)
              have c1 : wx.cell? ⟨g3, off3 + 1, none⟩ = some (.string m0) := ((hbx.cell (p := ⟨g3, off3 + 1, none⟩) hg3w).trans HR1.out)
              have c2 : wx.cell? ⟨g3, off3 + 2, none⟩ = some (.int .i64 z0) := ((hbx.cell (p := ⟨g3, off3 + 2, none⟩) hg3w).trans HR2.out)
              have c3 : wx.cell? ⟨g3, off3 + 3, none⟩ = some (.slice a0 n0 k0) := ((hbx.cell (p := ⟨g3, off3 + 3, none⟩) hg3w).trans HR3.out)
              have c4 : wx.cell? ⟨q8, 0, none⟩ = some (.string b1) := hG8.cell (i := 0) rfl
              have c5 : wx.cell? ⟨q8, 1, none⟩ = some (.string m2) := hG8.cell (i := 1) rfl
              have c6 : wx.cell? ⟨q8, 2, none⟩ = some (.int .i64 z2) := hG8.cell (i := 2) rfl
              have c7 : wx.cell? ⟨q8, 3, none⟩ = some (.slice a8 L12.length k8) := hG8.cell (i := 3) rfl
              have HC012b : Hid (∀ Y, Below wx.heap.size wx Y → Calls Try.prog 17 #[.agg #[.string b0, .string m0, .int .i64 z0, .slice a0 n0 k0], .agg #[.string b1, .string m2, .int .i64 z2, .slice a8 L12.length k8]] Y (CmpQ b0 m2 z2 L012 Y)) := Lib.hid (fun Y HW3 => HK10.out Y a0 n0 k0 a8 L12.length k8 ((HRS0.out).next (bl_nx hbx HW3)) ((Own.rs rfl hO8).next HW3))
              clear hbx hv6 hv8 hG10 hO10 hG8 hO8
              go_upto_region 10 with fail
              go_cut [12, 13] (fun v12 e13 wy => VarD w2 wy (.pointer (some ⟨q6, 0, none⟩)) ⟨b0, m1, z1, L01⟩ ∧ VarD w2 wy (.pointer (some ⟨q8, 0, none⟩)) ⟨b1, m2, z2, L12⟩ ∧ VarD w2 wy (.pointer (some ⟨q10, 0, none⟩)) ⟨b0, m2, z2, L012⟩ ∧ VarD w2 wy v12 ⟨b0, m2, z2, L012⟩ ∧ e13 = .int .i64 0 ∧ Below w3.heap.size w3 wy)
              case first =>
                have ALLOC : ∀ x : Obj, Below wx.heap.size wx (wx.drew.alloc x) := fun x => (Below.refl _ _).drew.trans ((below_alloc wx.drew x).mono (Nat.le_refl _))
                have HAL := Lib.hid ALLOC
                clear ALLOC
                have nqg3 : wx.heap.size ≠ g3 := fun e => Nat.lt_irrefl _ (e ▸ (World.block_lt_of_cell? _ _ c0))
                have nqq8 : wx.heap.size ≠ q8 := fun e => Nat.lt_irrefl _ (e ▸ (World.block_lt_of_cell? _ _ c4))
                go_region_held3 (fun w' => w'.cell? ⟨g3, off3, none⟩ = some (.string b0) ∧ w'.cell? ⟨g3, off3 + 1, none⟩ = some (.string m0) ∧ w'.cell? ⟨g3, off3 + 2, none⟩ = some (.int .i64 z0) ∧ w'.cell? ⟨g3, off3 + 3, none⟩ = some (.slice a0 n0 k0) ∧ w'.cell? ⟨q8, 0, none⟩ = some (.string b1) ∧ w'.cell? ⟨q8, 1, none⟩ = some (.string m2) ∧ w'.cell? ⟨q8, 2, none⟩ = some (.int .i64 z2) ∧ w'.cell? ⟨q8, 3, none⟩ = some (.slice a8 L12.length k8))
                  (first | exact ⟨c0, c1, c2, c3, c4, c5, c6, c7⟩ | go_keep)
                  (first
                    | (go_at_call 17; refine (HC012b.out wx.drew (bl_drew (Below.refl _ _))).mono ?_; rintro e w5 ⟨a5, k5, rfl, hO5, hb5⟩; replace c0 := (hb5.cell (p := ⟨g3, off3, none⟩) (by exact World.block_lt_of_cell? _ _ c0)).trans c0; replace c1 := (hb5.cell (p := ⟨g3, off3 + 1, none⟩) (by exact World.block_lt_of_cell? _ _ c1)).trans c1; replace c2 := (hb5.cell (p := ⟨g3, off3 + 2, none⟩) (by exact World.block_lt_of_cell? _ _ c2)).trans c2; replace c3 := (hb5.cell (p := ⟨g3, off3 + 3, none⟩) (by exact World.block_lt_of_cell? _ _ c3)).trans c3; replace c4 := (hb5.cell (p := ⟨q8, 0, none⟩) (by exact World.block_lt_of_cell? _ _ c4)).trans c4; replace c5 := (hb5.cell (p := ⟨q8, 1, none⟩) (by exact World.block_lt_of_cell? _ _ c5)).trans c5; replace c6 := (hb5.cell (p := ⟨q8, 2, none⟩) (by exact World.block_lt_of_cell? _ _ c6)).trans c6; replace c7 := (hb5.cell (p := ⟨q8, 3, none⟩) (by exact World.block_lt_of_cell? _ _ c7)).trans c7)
                    | (go_at_call 17; refine (HC012b.out (wx.drew.alloc _) (HAL.out _)).mono ?_; rintro e w5 ⟨a5, k5, rfl, hO5, hb5⟩; replace c0 := (hb5.cell (p := ⟨g3, off3, none⟩) (by exact Nat.lt_of_lt_of_le (World.block_lt_of_cell? _ _ c0) (HAL.out _).size)).trans (((HAL.out _).cell (p := ⟨g3, off3, none⟩) (World.block_lt_of_cell? _ _ c0)).trans c0); replace c1 := (hb5.cell (p := ⟨g3, off3 + 1, none⟩) (by exact Nat.lt_of_lt_of_le (World.block_lt_of_cell? _ _ c1) (HAL.out _).size)).trans (((HAL.out _).cell (p := ⟨g3, off3 + 1, none⟩) (World.block_lt_of_cell? _ _ c1)).trans c1); replace c2 := (hb5.cell (p := ⟨g3, off3 + 2, none⟩) (by exact Nat.lt_of_lt_of_le (World.block_lt_of_cell? _ _ c2) (HAL.out _).size)).trans (((HAL.out _).cell (p := ⟨g3, off3 + 2, none⟩) (World.block_lt_of_cell? _ _ c2)).trans c2); replace c3 := (hb5.cell (p := ⟨g3, off3 + 3, none⟩) (by exact Nat.lt_of_lt_of_le (World.block_lt_of_cell? _ _ c3) (HAL.out _).size)).trans (((HAL.out _).cell (p := ⟨g3, off3 + 3, none⟩) (World.block_lt_of_cell? _ _ c3)).trans c3); replace c4 := (hb5.cell (p := ⟨q8, 0, none⟩) (by exact Nat.lt_of_lt_of_le (World.block_lt_of_cell? _ _ c4) (HAL.out _).size)).trans (((HAL.out _).cell (p := ⟨q8, 0, none⟩) (World.block_lt_of_cell? _ _ c4)).trans c4); replace c5 := (hb5.cell (p := ⟨q8, 1, none⟩) (by exact Nat.lt_of_lt_of_le (World.block_lt_of_cell? _ _ c5) (HAL.out _).size)).trans (((HAL.out _).cell (p := ⟨q8, 1, none⟩) (World.block_lt_of_cell? _ _ c5)).trans c5); replace c6 := (hb5.cell (p := ⟨q8, 2, none⟩) (by exact Nat.lt_of_lt_of_le (World.block_lt_of_cell? _ _ c6) (HAL.out _).size)).trans (((HAL.out _).cell (p := ⟨q8, 2, none⟩) (World.block_lt_of_cell? _ _ c6)).trans c6); replace c7 := (hb5.cell (p := ⟨q8, 3, none⟩) (by exact Nat.lt_of_lt_of_le (World.block_lt_of_cell? _ _ c7) (HAL.out _).size)).trans (((HAL.out _).cell (p := ⟨q8, 3, none⟩) (World.block_lt_of_cell? _ _ c7)).trans c7); have hQ5 : Blk w5 wx.heap.size [.string ByteArray.empty, .string ByteArray.empty, .int .i64 0, .slice none 0 0] 25 := (Blk.new wx.drew [.string ByteArray.empty, .string ByteArray.empty, .int .i64 0, .slice none 0 0] 25).below hb5 (Blk.lt (Blk.new wx.drew [.string ByteArray.empty, .string ByteArray.empty, .int .i64 0, .slice none 0 0] 25)); have u0 := hQ5.cell (i := 0) rfl; have u1 := hQ5.cell (i := 1) rfl; have u2 := hQ5.cell (i := 2) rfl; have u3 := hQ5.cell (i := 3) rfl; have v0 := hQ5.frozen 0; have v1 := hQ5.frozen 1; have v2 := hQ5.frozen 2; have v3 := hQ5.frozen 3))
                · obtain ⟨Y, hY⟩ : ∃ Y, Y = w5.alloc (Obj.cells #[.string b0, .string m2, .int .i64 z2, .slice a5 L012.length k5] 25) := ⟨_, rfl⟩
                  obtain ⟨qn, hq⟩ : ∃ q, q = w5.heap.size := ⟨_, rfl⟩
                  have hbY : Below wx.heap.size wx Y := by rw [hY]; exact bl_nx (bl_nx (bl_drew (Below.refl _ wx)) hb5) (below_alloc _ _)
                  have hvY : VarD w2 Y (.pointer (some ⟨qn, 0, none⟩)) ⟨b0, m2, z2, L012⟩ := by rw [hY, hq]; exact VarD.new (d := ⟨b0, m2, z2, L012⟩) (owns_mono hO5 (Nat.le_trans hw23 HX.out.2.size))
                  rw [← hY, ← hq]
                  have HF : Hid (VarD w2 Y (.pointer (some ⟨q6, 0, none⟩)) ⟨b0, m1, z1, L01⟩ ∧ VarD w2 Y (.pointer (some ⟨q8, 0, none⟩)) ⟨b1, m2, z2, L12⟩ ∧ VarD w2 Y (.pointer (some ⟨q10, 0, none⟩)) ⟨b0, m2, z2, L012⟩ ∧ VarD w2 Y (.pointer (some ⟨qn, 0, none⟩)) ⟨b0, m2, z2, L012⟩ ∧ Below w3.heap.size w3 Y) := Lib.hid ⟨HV6.out.below hbY, HV8.out.below hbY, HV10.out.below hbY, hvY, bl_nx HX.out.2 hbY⟩
                  clear c0 c1 c2 c3 c4 c5 c6 c7 hY hq hbY hvY hO5 hb5
                  go_wp2
                  go_meet
                  exact ⟨HF.out.1, HF.out.2.1, HF.out.2.2.1, HF.out.2.2.2.1, rfl, HF.out.2.2.2.2⟩
                · obtain ⟨Y, hY⟩ : ∃ Y, Y = (((w5.setCell ⟨wx.heap.size, 0, none⟩ (.string b0)).setCell ⟨wx.heap.size, 1, none⟩ (.string m2)).setCell ⟨wx.heap.size, 2, none⟩ (.int .i64 z2)).setCell ⟨wx.heap.size, 3, none⟩ (.slice a5 L012.length k5) := ⟨_, rfl⟩
                  obtain ⟨qn, hq⟩ : ∃ q, q = wx.heap.size := ⟨_, rfl⟩
                  have hbY : Below wx.heap.size wx Y := by rw [hY]; exact below_set4 (bl_nx (HAL.out _) hb5) (Nat.le_refl _) _ _ _ _
                  have hvY : VarD w2 Y (.pointer (some ⟨qn, 0, none⟩)) ⟨b0, m2, z2, L012⟩ := by rw [hY, hq]; exact VarD.store (d := ⟨b0, m2, z2, L012⟩) hQ5 hO5 (by simp) (Nat.le_trans (Nat.le_trans hw23 HX.out.2.size) (by simp))
                  rw [← hY, ← hq]
                  have HF : Hid (VarD w2 Y (.pointer (some ⟨q6, 0, none⟩)) ⟨b0, m1, z1, L01⟩ ∧ VarD w2 Y (.pointer (some ⟨q8, 0, none⟩)) ⟨b1, m2, z2, L12⟩ ∧ VarD w2 Y (.pointer (some ⟨q10, 0, none⟩)) ⟨b0, m2, z2, L012⟩ ∧ VarD w2 Y (.pointer (some ⟨qn, 0, none⟩)) ⟨b0, m2, z2, L012⟩ ∧ Below w3.heap.size w3 Y) := Lib.hid ⟨HV6.out.below hbY, HV8.out.below hbY, HV10.out.below hbY, hvY, bl_nx HX.out.2 hbY⟩
                  clear c0 c1 c2 c3 c4 c5 c6 c7 u0 u1 u2 u3 v0 v1 v2 v3 hQ5 hY hq hbY hvY hO5 hb5
                  go_wp2
                  go_meet
                  exact ⟨HF.out.1, HF.out.2.1, HF.out.2.2.1, HF.out.2.2.2.1, rfl, HF.out.2.2.2.2⟩
              case rest =>
                obtain ⟨hv6, hv8, hv10, hv12, rfl, hbx⟩ := hcut
                obtain ⟨q12, a12, k12, rfl, hG12, hO12⟩ := hv12
                obtain ⟨wx, rfl⟩ : ∃ x : World, x = wc := ⟨_, rfl⟩
                have HV6 := Lib.hid hv6
                have HV8 := Lib.hid hv8
                have HV10 := Lib.hid hv10
                have HV12 : Hid (VarD w2 wx (.pointer (some ⟨q12, 0, none⟩)) ⟨b0, m2, z2, L012⟩) := Lib.hid ⟨q12, a12, k12, rfl, hG12, hO12⟩
                obtain ⟨q10x, a10, k10, hqe, hG10, hO10⟩ := HV10.out
                injection hqe with hqe; injection hqe with hqe; injection hqe with hqe; subst hqe
                have HBX := Lib.hid (bl_nx HB3.out hbx)
                have HSE := Lib.hid (same_true wx b0 m2 z2 L012 _ _ (by have := HLN.out; omega) hO10 hO12)
                have c0 := hG10.cell (i := 0) rfl
                have c1 := hG10.cell (i := 1) rfl
                have c2 := hG10.cell (i := 2) rfl
                have c3 := hG10.cell (i := 3) rfl
                have c4 := hG12.cell (i := 0) rfl
                have c5 := hG12.cell (i := 1) rfl
                have c6 := hG12.cell (i := 2) rfl
                have c7 := hG12.cell (i := 3) rfl
                clear hG10 hG12 hO10 hO12 hbx hv6 hv8 hv10
                go_wp2_with fail
                refine HSE.out.mono ?_
                rintro e w6 ⟨rfl, hb6⟩
                have HB6 := Lib.hid (bl_nx HBX.out hb6)
                clear hb6 c0 c1 c2 c3 c4 c5 c6 c7 HSE
                go_wp2_with fail
                refine (FIN.out _ HB6.out).mono ?_
                rintro e w7 ⟨rfl, hb7⟩
                go_wp2
                go_ret
                exact ⟨rfl, hb7⟩
end Go.Proofs.Ytabdmcgfiabaoaa
