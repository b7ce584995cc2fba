/- keep's Check. Conditions: as named in each theorem. -/
import Derived.Test.YtoibbeiieelccaaKeepCheck
import Derived.Deep.RegionHeld3
namespace Go.Proofs.Ytoibbeiieelccaa
open Go.RowKit
set_option linter.unusedVariables false

theorem genZ_run (w : World) : (zeroValue 40).run Try.prog w = .ok (.agg #[.int .i64 0, .int .i64 0, .int .i64 0, .string ByteArray.empty]) w := by kernel_rfl
theorem place_z (w : World) (ao : Option Addr) (len cap : Nat) (gs : List G) (n z : Int) (hR : Rs w ao len cap 4 gs G.c) (hn : len ≤ 1000000) (hU : Up (gs.map G.gen)) (hz : z = atZ (gs.map G.gen) n) :
    Calls Try.prog 30 #[.slice ao len cap, .int .i64 n] w fun e w' => e = .returned (.int .i64 z) ∧ Below w.heap.size w w' := by
  rw [hz]; exact place_any w ao len cap gs n hR hn hU
theorem below_via {a w w' : World} (h : Below a.heap.size a w) (h2 : Below w.heap.size w w') : Below a.heap.size a w' := h.trans (h2.mono h.size)

set_option maxHeartbeats 4000000 in
set_option maxRecDepth 100000 in
theorem check_any (w : World) (ao : Option Addr) (len cap : Nat) (gs : List G) (hR : Rs w ao len cap 4 gs G.c) (hn : len ≤ 4096) :
    Calls Try.prog 26 #[.slice ao len cap] w fun e w' => e = .returned (.int .i64 (chk gs)) ∧ Below w.heap.size w w' := by
  have HL := Lib.hid hR.2.2.1
  have HCAP := Lib.hid hR.1
  have hz := genZ_run
  go_enter Try.func26, Try.ntmps26
  go_wp2
  go_loopw [10] (fun i wr => ∃ k : Nat, k ≤ len ∧ i = .int .i64 k ∧ chkTo gs k ∧ Below w.heap.size w wr) (fun i _ => len - (intOf i).toNat)
  case atStart => exact ⟨0, by omega, rfl, fun j hj => by omega, Below.refl _ _⟩
  case round =>
    obtain ⟨k, hk, rfl, hcc, hB⟩ := hrel
    have HC := Lib.hid hcc
    clear hcc
    by_cases hlt : k < len
    · obtain ⟨b, off, rfl, hbw, hc⟩ := rs_g hR (by omega)
      rcases k with _ | j
      · have hks : 0 < gs.length := by rw [HL.out]; exact hlt
        obtain ⟨c0, c1, c2, c3⟩ := hc (0) hks
        have hgk : gs.getD (0) default = gs[0] := getD_g hks
        obtain ⟨x, hx⟩ : ∃ x, x = gs[0] := ⟨_, rfl⟩
        rw [← hx] at c0 c1 c2 c3 hgk
        have d0 := (hB.cell (p := ⟨b, off + (0) * 4, none⟩) hbw).trans c0
        have d1 := (hB.cell (p := ⟨b, off + (0) * 4 + 1, none⟩) hbw).trans c1
        have d2 := (hB.cell (p := ⟨b, off + (0) * 4 + 2, none⟩) hbw).trans c2
        have d3 := (hB.cell (p := ⟨b, off + (0) * 4 + 3, none⟩) hbw).trans c3
        have HGK := Lib.hid hgk
        have HKS := Lib.hid hks
        have HBLK := Lib.hid (Blk.new wr [.int .i64 x.gen, .int .i64 x.basis, .int .i64 x.bytes, .string x.mark] 40)
        have HBW : Hid (Below w.heap.size w (wr.alloc (Obj.cells #[.int .i64 x.gen, .int .i64 x.basis, .int .i64 x.bytes, .string x.mark] 40))) := Lib.hid (hB.alloc hB.size _)
        have HWS : Hid (wr.heap.size < (wr.alloc (Obj.cells #[.int .i64 x.gen, .int .i64 x.basis, .int .i64 x.bytes, .string x.mark] 40)).heap.size) := Lib.hid (by simp)
        have i1 : ((0 : Nat) : Int) < (len : Int) := by omega
        have i2 : ((0 : Nat) : Int) ≤ (cap : Int) := by have := HCAP.out; omega
        have i3 : 0 ≤ cap := by have := HCAP.out; omega
        clear hgk hx hks c0 c1 c2 c3
        clear hc
        simp only [Nat.zero_mul, Nat.add_zero] at d0 d1 d2 d3
        by_cases hA : x.gen < 0
        · have q : ((2 : Int)) = chk gs := (chk_at HKS.out HC.out (chkAt_rng HGK.out (.inl hA)) (by decide)).symm
          have HQ := Lib.hid q
          clear q
          go_wp2
          go_ret
          exact ⟨ret_v (int_v HQ.out), HBW.out⟩
        · by_cases hB' : x.bytes < 0
          · have q : ((2 : Int)) = chk gs := (chk_at HKS.out HC.out (chkAt_rng HGK.out (.inr (.inl hB'))) (by decide)).symm
            have HQ := Lib.hid q
            clear q
            go_wp2
            go_ret
            exact ⟨ret_v (int_v HQ.out), HBW.out⟩
          · by_cases hC : 524288 < x.bytes
            · have q : ((2 : Int)) = chk gs := (chk_at HKS.out HC.out (chkAt_rng HGK.out (.inr (.inr hC))) (by decide)).symm
              have HQ := Lib.hid q
              clear q
              go_wp2
              go_ret
              exact ⟨ret_v (int_v HQ.out), HBW.out⟩
            · have nrng : ¬ Rng x := by unfold Rng; omega
              have NRNG := Lib.hid nrng
              clear nrng
              have nord : ¬ (0 < 0 ∧ x.gen ≤ (gs.getD (0 - 1) default).gen) := by omega
              have NORD := Lib.hid nord
              clear nord
              by_cases he : x.basis = x.gen
              · have hz : chkAt gs 0 = 0 := chkAt_zero HGK.out NRNG.out NORD.out (.inl he)
                have HZ := Lib.hid hz
                have HE := Lib.hid he
                clear hz he
                go_wp2
                obtain ⟨W, hW⟩ : ∃ W, W = (wr.alloc (Obj.cells #[.int .i64 x.gen, .int .i64 x.basis, .int .i64 x.bytes, .string x.mark] 40)) := ⟨_, rfl⟩
                rw [← hW] at HBW HBLK HWS
                rw [← hW]
                have e0 := HBLK.out.cell (i := 0) rfl
                have e1 := HBLK.out.cell (i := 1) rfl
                clear hW d0 d1 d2 d3
                go_quiet (fail)
                obtain ⟨V, hV⟩ : ∃ V, V = W.drewN nq := ⟨_, rfl⟩
                have HBV : Hid (Below w.heap.size w V) := by rw [hV]; exact Lib.hid (below_drewN' HBW.out _)
                have x0 : V.cell? ⟨wr.heap.size, 0, none⟩ = some (.int .i64 x.gen) := by rw [hV]; exact e0
                have x1 : V.cell? ⟨wr.heap.size, 1, none⟩ = some (.int .i64 x.basis) := by rw [hV]; exact e1
                have HVS : Hid (wr.heap.size < V.heap.size) := by rw [hV]; exact HWS
                rw [← hV]
                clear hV e0 e1 HBW HBLK HWS
                have he := HE.out
                go_wp2
                go_quiet (fail)
                go_wp2
                go_roundw
                case rel => exact ⟨0 + 1, by omega, by go_num, chkTo_succ HC.out HZ.out, below_drewN' HBV.out _⟩
                case measure => simp [intOf]; omega
              · by_cases hin : x.basis ∈ (gs.take 0).map G.gen
                · exact absurd hin (by simp)
                · have hz : chk gs = 13 := chk_at HKS.out HC.out (chkAt_bas HGK.out NRNG.out NORD.out he hin) (by decide)
                  have HZ := Lib.hid hz
                  have hat : atZ ((gs.take 0).map G.gen) x.basis < 0 := by rw [atZ_neg]; exact hin
                  obtain ⟨z, hzz⟩ : ∃ z, z = atZ ((gs.take 0).map G.gen) x.basis := ⟨_, rfl⟩
                  rw [← hzz] at hat
                  have HZZ := Lib.hid hzz
                  clear hz hin hzz
                  have hbn : (x.basis != x.gen) = true := by simp; exact he
                  clear he
                  go_wp2
                  obtain ⟨W, hW⟩ : ∃ W, W = (wr.alloc (Obj.cells #[.int .i64 x.gen, .int .i64 x.basis, .int .i64 x.bytes, .string x.mark] 40)) := ⟨_, rfl⟩
                  rw [← hW] at HBW HBLK HWS
                  rw [← hW]
                  have e0 := HBLK.out.cell (i := 0) rfl
                  have e1 := HBLK.out.cell (i := 1) rfl
                  clear hW d0 d1 d2 d3
                  go_quiet (fail)
                  obtain ⟨V, hV⟩ : ∃ V, V = W.drewN nq := ⟨_, rfl⟩
                  have HBV : Hid (Below w.heap.size w V) := by rw [hV]; exact Lib.hid (below_drewN' HBW.out _)
                  have x0 : V.cell? ⟨wr.heap.size, 0, none⟩ = some (.int .i64 x.gen) := by rw [hV]; exact e0
                  have x1 : V.cell? ⟨wr.heap.size, 1, none⟩ = some (.int .i64 x.basis) := by rw [hV]; exact e1
                  have HVS : Hid (wr.heap.size < V.heap.size) := by rw [hV]; exact HWS
                  rw [← hV]
                  clear hV e0 e1 HBW HBLK HWS
                  have H : ∀ w1 w2 : World, Below w1.heap.size w1 w2 → (w1.cell? ⟨wr.heap.size, 0, none⟩ = some (.int .i64 x.gen) ∧ w1.cell? ⟨wr.heap.size, 1, none⟩ = some (.int .i64 x.basis) ∧ Below V.heap.size V w1) → (w2.cell? ⟨wr.heap.size, 0, none⟩ = some (.int .i64 x.gen) ∧ w2.cell? ⟨wr.heap.size, 1, none⟩ = some (.int .i64 x.basis) ∧ Below V.heap.size V w2) :=
                    fun w1 w2 hb h => ⟨(hb.cell (p := ⟨wr.heap.size, 0, none⟩) (Nat.lt_of_lt_of_le HVS.out h.2.2.size)).trans h.1, (hb.cell (p := ⟨wr.heap.size, 1, none⟩) (Nat.lt_of_lt_of_le HVS.out h.2.2.size)).trans h.2.1, below_via h.2.2 hb⟩
                  have hS0 : V.drew.cell? ⟨wr.heap.size, 0, none⟩ = some (.int .i64 x.gen) ∧ V.drew.cell? ⟨wr.heap.size, 1, none⟩ = some (.int .i64 x.basis) ∧ Below V.heap.size V V.drew := ⟨x0, x1, (Below.refl _ _).drew⟩
                  have HRT := Lib.hid ((hR.take (m := 0) (by omega)).next HBV.out)
                  have HUP := Lib.hid (chkTo_up (Nat.le_of_lt HKS.out) HC.out)
                  clear x0 x1 hR
                  go_wp2
                  go_region_held3 (fun w' => w'.cell? ⟨wr.heap.size, 0, none⟩ = some (.int .i64 x.gen) ∧ w'.cell? ⟨wr.heap.size, 1, none⟩ = some (.int .i64 x.basis) ∧ Below V.heap.size V w')
                    (first | assumption | go_keep)
                    (first | (go_at_call 30; refine (place_z _ _ _ _ _ _ _ (HRT.out.next (And.right (And.right (by assumption : _ ∧ _ ∧ Below V.heap.size V _)))) (by omega) HUP.out HZZ.out).mono ?_; rintro e w4 ⟨rfl, hb4⟩; have hS2 := H _ _ hb4 (by assumption)))
                  obtain ⟨_, _, hBV⟩ := hS2
                  go_wp2
                  go_ret
                  exact ⟨ret_v (int_v HZ.out.symm), below_via HBV.out hBV⟩
      · have hks : j + 1 < gs.length := by rw [HL.out]; exact hlt
        obtain ⟨c0, c1, c2, c3⟩ := hc (j + 1) hks
        have hgk : gs.getD (j + 1) default = gs[j + 1] := getD_g hks
        obtain ⟨x, hx⟩ : ∃ x, x = gs[j + 1] := ⟨_, rfl⟩
        rw [← hx] at c0 c1 c2 c3 hgk
        have d0 := (hB.cell (p := ⟨b, off + (j + 1) * 4, none⟩) hbw).trans c0
        have d1 := (hB.cell (p := ⟨b, off + (j + 1) * 4 + 1, none⟩) hbw).trans c1
        have d2 := (hB.cell (p := ⟨b, off + (j + 1) * 4 + 2, none⟩) hbw).trans c2
        have d3 := (hB.cell (p := ⟨b, off + (j + 1) * 4 + 3, none⟩) hbw).trans c3
        have HGK := Lib.hid hgk
        have HKS := Lib.hid hks
        have HBLK := Lib.hid (Blk.new wr [.int .i64 x.gen, .int .i64 x.basis, .int .i64 x.bytes, .string x.mark] 40)
        have HBW : Hid (Below w.heap.size w (wr.alloc (Obj.cells #[.int .i64 x.gen, .int .i64 x.basis, .int .i64 x.bytes, .string x.mark] 40))) := Lib.hid (hB.alloc hB.size _)
        have HWS : Hid (wr.heap.size < (wr.alloc (Obj.cells #[.int .i64 x.gen, .int .i64 x.basis, .int .i64 x.bytes, .string x.mark] 40)).heap.size) := Lib.hid (by simp)
        have i1 : ((j + 1 : Nat) : Int) < (len : Int) := by omega
        have i2 : ((j + 1 : Nat) : Int) ≤ (cap : Int) := by have := HCAP.out; omega
        have i3 : j + 1 ≤ cap := by have := HCAP.out; omega
        clear hgk hx hks c0 c1 c2 c3
        have hj : j < gs.length := by rw [HL.out]; omega
        obtain ⟨f0', -, -, -⟩ := hc j hj
        have hgj : gs.getD j default = gs[j] := getD_g hj
        obtain ⟨y, hy⟩ : ∃ y, y = gs[j] := ⟨_, rfl⟩
        rw [← hy] at f0' hgj
        have HGJ := Lib.hid hgj
        have f0 := (hB.cell (p := ⟨b, off + j * 4, none⟩) hbw).trans f0'
        have F0 : Hid ((wr.alloc (Obj.cells #[.int .i64 x.gen, .int .i64 x.basis, .int .i64 x.bytes, .string x.mark] 40)).cell? ⟨b, off + j * 4, none⟩ = some (.int .i64 y.gen)) := Lib.hid ((World.cell?_alloc_some _ _ _ (by rw [f0]; rfl)).trans f0)
        have i4 : (j : Int) < (len : Int) := by omega
        have i6 : (j : Int) + 1 < (len : Int) := by omega
        have i7 : (j : Int) + 1 ≤ (cap : Int) := by have := HCAP.out; omega
        have i8 : (0 : Int) ≤ (j : Int) + 1 := by omega
        have i9 : ((j : Int) + 1).toNat = j + 1 := by omega
        have i5 : IntKind.i64.wrap ((j : Int) + 1 - 1) = (j : Int) := by rw [IntWalk.i64_in _ (by omega)]; omega
        clear hy hgj hj hc f0' f0
        by_cases hA : x.gen < 0
        · have q : ((2 : Int)) = chk gs := (chk_at HKS.out HC.out (chkAt_rng HGK.out (.inl hA)) (by decide)).symm
          have HQ := Lib.hid q
          clear q
          go_wp2
          go_ret
          exact ⟨ret_v (int_v HQ.out), HBW.out⟩
        · by_cases hB' : x.bytes < 0
          · have q : ((2 : Int)) = chk gs := (chk_at HKS.out HC.out (chkAt_rng HGK.out (.inr (.inl hB'))) (by decide)).symm
            have HQ := Lib.hid q
            clear q
            go_wp2
            go_ret
            exact ⟨ret_v (int_v HQ.out), HBW.out⟩
          · by_cases hC : 524288 < x.bytes
            · have q : ((2 : Int)) = chk gs := (chk_at HKS.out HC.out (chkAt_rng HGK.out (.inr (.inr hC))) (by decide)).symm
              have HQ := Lib.hid q
              clear q
              go_wp2
              go_ret
              exact ⟨ret_v (int_v HQ.out), HBW.out⟩
            · have nrng : ¬ Rng x := by unfold Rng; omega
              have NRNG := Lib.hid nrng
              clear nrng
              by_cases hD : x.gen ≤ y.gen
              · have hz : chk gs = 12 := chk_at HKS.out HC.out (chkAt_ord HGK.out NRNG.out ⟨by omega, by rw [Nat.add_sub_cancel, HGJ.out]; exact hD⟩) (by decide)
                have HZ := Lib.hid hz
                clear hz
                go_wp2
                obtain ⟨W, hW⟩ : ∃ W, W = (wr.alloc (Obj.cells #[.int .i64 x.gen, .int .i64 x.basis, .int .i64 x.bytes, .string x.mark] 40)) := ⟨_, rfl⟩
                rw [← hW] at HBW HBLK HWS F0
                rw [← hW]
                have e0 := HBLK.out.cell (i := 0) rfl
                have e1 := HBLK.out.cell (i := 1) rfl
                clear hW d0 d1 d2 d3
                have f0 := F0.out
                go_quiet (fail)
                go_wp2
                go_ret
                exact ⟨ret_v (int_v HZ.out.symm), below_drewN' HBW.out _⟩
              · have hDd : decide (x.gen ≤ y.gen) = false := by simp; omega
                have nord : ¬ (0 < (j + 1) ∧ x.gen ≤ (gs.getD ((j + 1) - 1) default).gen) := by rw [Nat.add_sub_cancel, HGJ.out]; omega
                have NORD := Lib.hid nord
                clear nord
                by_cases he : x.basis = x.gen
                · have hz : chkAt gs (j + 1) = 0 := chkAt_zero HGK.out NRNG.out NORD.out (.inl he)
                  have HZ := Lib.hid hz
                  have HE := Lib.hid he
                  clear hz he
                  go_wp2
                  obtain ⟨W, hW⟩ : ∃ W, W = (wr.alloc (Obj.cells #[.int .i64 x.gen, .int .i64 x.basis, .int .i64 x.bytes, .string x.mark] 40)) := ⟨_, rfl⟩
                  rw [← hW] at HBW HBLK HWS F0
                  rw [← hW]
                  have e0 := HBLK.out.cell (i := 0) rfl
                  have e1 := HBLK.out.cell (i := 1) rfl
                  clear hW d0 d1 d2 d3
                  have f0 := F0.out
                  go_quiet (fail)
                  obtain ⟨V, hV⟩ : ∃ V, V = W.drewN nq := ⟨_, rfl⟩
                  have HBV : Hid (Below w.heap.size w V) := by rw [hV]; exact Lib.hid (below_drewN' HBW.out _)
                  have x0 : V.cell? ⟨wr.heap.size, 0, none⟩ = some (.int .i64 x.gen) := by rw [hV]; exact e0
                  have x1 : V.cell? ⟨wr.heap.size, 1, none⟩ = some (.int .i64 x.basis) := by rw [hV]; exact e1
                  have HVS : Hid (wr.heap.size < V.heap.size) := by rw [hV]; exact HWS
                  rw [← hV]
                  clear hV e0 e1 HBW HBLK HWS
                  have he := HE.out
                  go_wp2
                  go_quiet (fail)
                  go_wp2
                  go_roundw
                  case rel => exact ⟨(j + 1) + 1, by omega, by go_num, chkTo_succ HC.out HZ.out, below_drewN' HBV.out _⟩
                  case measure => simp [intOf]; omega
                · by_cases hin : x.basis ∈ (gs.take (j + 1)).map G.gen
                  · have hz : chkAt gs (j + 1) = 0 := chkAt_zero HGK.out NRNG.out NORD.out (.inr hin)
                    have HZ := Lib.hid hz
                    have hat : ¬ atZ ((gs.take (j + 1)).map G.gen) x.basis < 0 := by rw [atZ_neg]; exact fun h => h hin
                    obtain ⟨z, hzz⟩ : ∃ z, z = atZ ((gs.take (j + 1)).map G.gen) x.basis := ⟨_, rfl⟩
                    rw [← hzz] at hat
                    have HZZ := Lib.hid hzz
                    clear hz hin hzz
                    have hbn : (x.basis != x.gen) = true := by simp; exact he
                    clear he
                    go_wp2
                    obtain ⟨W, hW⟩ : ∃ W, W = (wr.alloc (Obj.cells #[.int .i64 x.gen, .int .i64 x.basis, .int .i64 x.bytes, .string x.mark] 40)) := ⟨_, rfl⟩
                    rw [← hW] at HBW HBLK HWS F0
                    rw [← hW]
                    have e0 := HBLK.out.cell (i := 0) rfl
                    have e1 := HBLK.out.cell (i := 1) rfl
                    clear hW d0 d1 d2 d3
                    have f0 := F0.out
                    go_quiet (fail)
                    obtain ⟨V, hV⟩ : ∃ V, V = W.drewN nq := ⟨_, rfl⟩
                    have HBV : Hid (Below w.heap.size w V) := by rw [hV]; exact Lib.hid (below_drewN' HBW.out _)
                    have x0 : V.cell? ⟨wr.heap.size, 0, none⟩ = some (.int .i64 x.gen) := by rw [hV]; exact e0
                    have x1 : V.cell? ⟨wr.heap.size, 1, none⟩ = some (.int .i64 x.basis) := by rw [hV]; exact e1
                    have HVS : Hid (wr.heap.size < V.heap.size) := by rw [hV]; exact HWS
                    rw [← hV]
                    clear hV e0 e1 HBW HBLK HWS
                    have H : ∀ w1 w2 : World, Below w1.heap.size w1 w2 → (w1.cell? ⟨wr.heap.size, 0, none⟩ = some (.int .i64 x.gen) ∧ w1.cell? ⟨wr.heap.size, 1, none⟩ = some (.int .i64 x.basis) ∧ Below V.heap.size V w1) → (w2.cell? ⟨wr.heap.size, 0, none⟩ = some (.int .i64 x.gen) ∧ w2.cell? ⟨wr.heap.size, 1, none⟩ = some (.int .i64 x.basis) ∧ Below V.heap.size V w2) :=
                      fun w1 w2 hb h => ⟨(hb.cell (p := ⟨wr.heap.size, 0, none⟩) (Nat.lt_of_lt_of_le HVS.out h.2.2.size)).trans h.1, (hb.cell (p := ⟨wr.heap.size, 1, none⟩) (Nat.lt_of_lt_of_le HVS.out h.2.2.size)).trans h.2.1, below_via h.2.2 hb⟩
                    have hS0 : V.drew.cell? ⟨wr.heap.size, 0, none⟩ = some (.int .i64 x.gen) ∧ V.drew.cell? ⟨wr.heap.size, 1, none⟩ = some (.int .i64 x.basis) ∧ Below V.heap.size V V.drew := ⟨x0, x1, (Below.refl _ _).drew⟩
                    have HRT := Lib.hid ((hR.take (m := (j + 1)) (by omega)).next HBV.out)
                    have HUP := Lib.hid (chkTo_up (Nat.le_of_lt HKS.out) HC.out)
                    clear x0 x1 hR
                    go_wp2
                    go_region_held3 (fun w' => w'.cell? ⟨wr.heap.size, 0, none⟩ = some (.int .i64 x.gen) ∧ w'.cell? ⟨wr.heap.size, 1, none⟩ = some (.int .i64 x.basis) ∧ Below V.heap.size V w')
                      (first | assumption | go_keep)
                      (first | (go_at_call 30; refine (place_z _ _ _ _ _ _ _ (HRT.out.next (And.right (And.right (by assumption : _ ∧ _ ∧ Below V.heap.size V _)))) (by omega) HUP.out HZZ.out).mono ?_; rintro e w4 ⟨rfl, hb4⟩; have hS2 := H _ _ hb4 (by assumption)))
                    obtain ⟨_, _, hBV⟩ := hS2
                    go_wp2
                    go_roundw
                    case rel => exact ⟨(j + 1) + 1, by omega, by go_num, chkTo_succ HC.out HZ.out, below_via HBV.out hBV⟩
                    case measure => simp [intOf]; omega
                  · have hz : chk gs = 13 := chk_at HKS.out HC.out (chkAt_bas HGK.out NRNG.out NORD.out he hin) (by decide)
                    have HZ := Lib.hid hz
                    have hat : atZ ((gs.take (j + 1)).map G.gen) x.basis < 0 := by rw [atZ_neg]; exact hin
                    obtain ⟨z, hzz⟩ : ∃ z, z = atZ ((gs.take (j + 1)).map G.gen) x.basis := ⟨_, rfl⟩
                    rw [← hzz] at hat
                    have HZZ := Lib.hid hzz
                    clear hz hin hzz
                    have hbn : (x.basis != x.gen) = true := by simp; exact he
                    clear he
                    go_wp2
                    obtain ⟨W, hW⟩ : ∃ W, W = (wr.alloc (Obj.cells #[.int .i64 x.gen, .int .i64 x.basis, .int .i64 x.bytes, .string x.mark] 40)) := ⟨_, rfl⟩
                    rw [← hW] at HBW HBLK HWS F0
                    rw [← hW]
                    have e0 := HBLK.out.cell (i := 0) rfl
                    have e1 := HBLK.out.cell (i := 1) rfl
                    clear hW d0 d1 d2 d3
                    have f0 := F0.out
                    go_quiet (fail)
                    obtain ⟨V, hV⟩ : ∃ V, V = W.drewN nq := ⟨_, rfl⟩
                    have HBV : Hid (Below w.heap.size w V) := by rw [hV]; exact Lib.hid (below_drewN' HBW.out _)
                    have x0 : V.cell? ⟨wr.heap.size, 0, none⟩ = some (.int .i64 x.gen) := by rw [hV]; exact e0
                    have x1 : V.cell? ⟨wr.heap.size, 1, none⟩ = some (.int .i64 x.basis) := by rw [hV]; exact e1
                    have HVS : Hid (wr.heap.size < V.heap.size) := by rw [hV]; exact HWS
                    rw [← hV]
                    clear hV e0 e1 HBW HBLK HWS
                    have H : ∀ w1 w2 : World, Below w1.heap.size w1 w2 → (w1.cell? ⟨wr.heap.size, 0, none⟩ = some (.int .i64 x.gen) ∧ w1.cell? ⟨wr.heap.size, 1, none⟩ = some (.int .i64 x.basis) ∧ Below V.heap.size V w1) → (w2.cell? ⟨wr.heap.size, 0, none⟩ = some (.int .i64 x.gen) ∧ w2.cell? ⟨wr.heap.size, 1, none⟩ = some (.int .i64 x.basis) ∧ Below V.heap.size V w2) :=
                      fun w1 w2 hb h => ⟨(hb.cell (p := ⟨wr.heap.size, 0, none⟩) (Nat.lt_of_lt_of_le HVS.out h.2.2.size)).trans h.1, (hb.cell (p := ⟨wr.heap.size, 1, none⟩) (Nat.lt_of_lt_of_le HVS.out h.2.2.size)).trans h.2.1, below_via h.2.2 hb⟩
                    have hS0 : V.drew.cell? ⟨wr.heap.size, 0, none⟩ = some (.int .i64 x.gen) ∧ V.drew.cell? ⟨wr.heap.size, 1, none⟩ = some (.int .i64 x.basis) ∧ Below V.heap.size V V.drew := ⟨x0, x1, (Below.refl _ _).drew⟩
                    have HRT := Lib.hid ((hR.take (m := (j + 1)) (by omega)).next HBV.out)
                    have HUP := Lib.hid (chkTo_up (Nat.le_of_lt HKS.out) HC.out)
                    clear x0 x1 hR
                    go_wp2
                    go_region_held3 (fun w' => w'.cell? ⟨wr.heap.size, 0, none⟩ = some (.int .i64 x.gen) ∧ w'.cell? ⟨wr.heap.size, 1, none⟩ = some (.int .i64 x.basis) ∧ Below V.heap.size V w')
                      (first | assumption | go_keep)
                      (first | (go_at_call 30; refine (place_z _ _ _ _ _ _ _ (HRT.out.next (And.right (And.right (by assumption : _ ∧ _ ∧ Below V.heap.size V _)))) (by omega) HUP.out HZZ.out).mono ?_; rintro e w4 ⟨rfl, hb4⟩; have hS2 := H _ _ hb4 (by assumption)))
                    obtain ⟨_, _, hBV⟩ := hS2
                    go_wp2
                    go_ret
                    exact ⟨ret_v (int_v HZ.out.symm), below_via HBV.out hBV⟩
    · have hkk : k = gs.length := by rw [HL.out]; omega
      have hz : chk gs = 0 := chk_ok (by rw [← hkk]; exact HC.out)
      have HZ := Lib.hid hz
      clear hz hkk
      go_wp2
      go_ret
      exact ⟨ret_v (int_v HZ.out.symm), hB⟩
end Go.Proofs.Ytoibbeiieelccaa
