/- ChainStops: the walk. Conditions: none. -/
import Derived.Test.YtabdmcgfiabaoaaChRowLaw
import Derived.Test.YtabdmcgfiabaoaaDlLaw
import Derived.Test.YtabdmcgfiabaoaaChFlush
import Derived.BigQuiet
import Derived.Deep.RegionLaw
import Derived.Deep.RegionHeld3
namespace Go.Proofs.Ytabdmcgfiabaoaa
open Go.RowKit Sg
set_option linter.unusedVariables false
set_option linter.unusedSimpArgs false
set_option maxRecDepth 100000 in
set_option maxHeartbeats 4000000 in
theorem chainStops_walk (w : World) (ao0 : Option Addr) (len0 cap0 : Nat) (ol : (Kd.sl .str).ok w [.slice ao0 len0 cap0]) (block : Int) (wb : (Lit.int .i64 block).wf = true) (out : Int) (wo : (Lit.int .i64 out).wf = true) :
    Calls Try.prog 7 #[.slice ao0 len0 cap0, .int .i64 block, .int .i64 out] w fun e w' => e = .returned (.bool true) ∧ Below w.heap.size w w' := by
  have hdz := dlZ_run
  obtain ⟨ss, hR0, hss⟩ := strs_of ol
  have HFW := Lib.hid (few_any w ao0 len0 cap0 ss hR0 hss)
  clear ol hR0 hss
  go_enter Try.func7, Try.ntmps7
  go_wp2_with fail
  refine HFW.out.mono ?_
  rintro e w1 ⟨v1, rfl, hT, hB1⟩
  obtain ⟨a1, k1, rfl⟩ := slice_of hT
  have htl := fewL_len ss
  have HTS := Lib.hid (fewL_size ss)
  obtain ⟨ts, hts⟩ : ∃ ts, ts = fewL ss := ⟨_, rfl⟩
  rw [← hts] at hT htl HTS
  rw [← hts]
  have HT := Lib.hid hT
  have HB1 := Lib.hid hB1
  clear hts hT HFW hB1
  have FIN : Hid (∀ W, Below w.heap.size w W → Calls Try.prog 12 #[] W fun e w' => e = .returned (.bool true) ∧ Below w.heap.size w w') := Lib.hid (fun W hW => (chAwake_any W).mono (fun e w' ⟨h1, h2⟩ => ⟨h1, bl_nx hW h2⟩))
  by_cases h4 : ts.length < 3
  · go_wp2_with fail
    refine (FIN.out w1 HB1.out).mono ?_
    rintro e w2 ⟨rfl, hb2⟩
    go_wp2
    go_ret
    exact ⟨rfl, hb2⟩
  · by_cases h16 : block < 16
    · go_wp2_with fail
      refine (FIN.out w1 HB1.out).mono ?_
      rintro e w2 ⟨rfl, hb2⟩
      go_wp2
      go_ret
      exact ⟨rfl, hb2⟩
    · by_cases h1024 : 1024 < block
      · go_wp2_with fail
        refine (FIN.out w1 HB1.out).mono ?_
        rintro e w2 ⟨rfl, hb2⟩
        go_wp2
        go_ret
        exact ⟨rfl, hb2⟩
      · by_cases ho : out < 0
        · go_wp2_with fail
          refine (FIN.out w1 HB1.out).mono ?_
          rintro e w2 ⟨rfl, hb2⟩
          go_wp2
          go_ret
          exact ⟨rfl, hb2⟩
        · have hw0 : IntKind.i64.wrap ((ts.length : Int) - 2) = (ts.length : Int) - 2 := IntWalk.i64_in _ (by omega)
          by_cases ho2 : (ts.length : Int) - 2 ≤ out
          · go_wp2_with fail
            refine (FIN.out w1 HB1.out).mono ?_
            rintro e w2 ⟨rfl, hb2⟩
            go_wp2
            go_ret
            exact ⟨rfl, hb2⟩
          · obtain ⟨B, rfl⟩ : ∃ B : Nat, block = B := ⟨block.toNat, by omega⟩
            obtain ⟨o, rfl⟩ : ∃ o : Nat, out = o := ⟨out.toNat, by omega⟩
            have hB1 : 16 ≤ B := by omega
            have hB2 : B ≤ 1024 := by omega
            have hRt : Rs w1 a1 ts.length k1 1 ts (fun x => [.string x]) := RowS.rs HT.out rfl
            obtain ⟨g, off, rfl, hbw, hc⟩ := hRt.cell1 (by omega)
            obtain ⟨n, hn⟩ : ∃ n, n = ts.length := ⟨_, rfl⟩
            obtain ⟨n1, hn1⟩ : ∃ k, k = n - 1 := ⟨_, rfl⟩
            have c0 : w1.cell? ⟨g, off, none⟩ = some (.string (tx ts 0)) := hc 0 (by omega) _ (by have := tx_get (ts := ts) (i := 0) (by omega); rw [List.getElem?_eq_getElem (by omega)] at this; rw [Option.some.inj this])
            have cl : w1.cell? ⟨g, off + n1, none⟩ = some (.string (tx ts n1)) := hc n1 (by omega) _ (by have := tx_get (ts := ts) (i := n1) (by omega); rw [List.getElem?_eq_getElem (by omega)] at this; rw [Option.some.inj this])
            have co : w1.cell? ⟨g, off + o, none⟩ = some (.string (tx ts o)) := hc o (by omega) _ (by have := tx_get (ts := ts) (i := o) (by omega); rw [List.getElem?_eq_getElem (by omega)] at this; rw [Option.some.inj this])
            have cp : w1.cell? ⟨g, off + (o + 1), none⟩ = some (.string (tx ts (o + 1))) := hc (o + 1) (by omega) _ (by have := tx_get (ts := ts) (i := o + 1) (by omega); rw [List.getElem?_eq_getElem (by omega)] at this; rw [Option.some.inj this])
            have htz : (tx ts 0).size ≤ 1000 := getD_size HTS.out 0
            have hlz : (tx ts n1).size ≤ 1000 := getD_size HTS.out n1
            rw [← hn] at hRt htl h4 ho2 hw0
            rw [← hn]
            obtain ⟨T0, hT0⟩ : ∃ T, T = tx ts 0 := ⟨_, rfl⟩
            obtain ⟨TL, hTL⟩ : ∃ T, T = tx ts n1 := ⟨_, rfl⟩
            rw [← hT0] at c0 htz
            rw [← hTL] at cl hlz
            obtain ⟨TO, hTO⟩ : ∃ T, T = tx ts o := ⟨_, rfl⟩
            obtain ⟨TP, hTP⟩ : ∃ T, T = tx ts (o + 1) := ⟨_, rfl⟩
            obtain ⟨o1, ho1⟩ : ∃ k, k = o + 1 := ⟨_, rfl⟩
            rw [← hTO] at co
            rw [← hTP, ← ho1] at cp
            have HTO := Lib.hid (And.intro hTO (And.intro hTP ho1))
            have HTT := Lib.hid (And.intro hT0 (And.intro hTL (And.intro hn hn1)))
            have HRT := Lib.hid hRt
            have hw1 : (n : Int) - 1 = (n1 : Int) := by omega
            have hw2 : IntKind.i64.wrap ((n : Int) - 1) = (n1 : Int) := by rw [hw1]; exact IntWalk.i64_in _ (by omega)
            have hw3 : IntKind.i64.wrap (n1 : Int) = (n1 : Int) := IntWalk.i64_in _ (by omega)
            have hw4 : (n1 : Int) < (n : Int) := by omega
            have hw5 : (0 : Int) < (n : Int) := by omega
            have HNN : Hid (3 ≤ n ∧ n1 = n - 1 ∧ n ≤ 6 ∧ o + 1 < n1 ∧ o1 = o + 1) := Lib.hid ⟨by omega, hn1, htl, by omega, ho1⟩
            clear hT0 hTL hn hRt hc hn1 hTO hTP ho1
            go_wp2_with fail
            refine (ideal_any _).mono ?_
            rintro e w2 ⟨rfl, hI2, hbI⟩
            have hm2 : w1.heap.size + 2 ≤ w2.heap.size := by have := hI2.2.2.2.2.1.1; omega
            have HROW := Lib.hid (row_any w2 (w1.heap.size + 1) w1.heap.size [] (some ⟨g, off, none⟩) n k1 ts B hI2 (by simp) (HRT.out.next hbI) htl HTS.out hB1 hB2 (fun b o e => by injection e with e; injection e with e1 e2; omega))
            have HB2 := Lib.hid (bl_nx HB1.out hbI)
            have d0 := (hbI.cell (p := ⟨g, off, none⟩) hbw).trans c0
            have dl := (hbI.cell (p := ⟨g, off + n1, none⟩) hbw).trans cl
            have do_ := (hbI.cell (p := ⟨g, off + o, none⟩) hbw).trans co
            have dp := (hbI.cell (p := ⟨g, off + o1, none⟩) hbw).trans cp
            obtain ⟨p, hp⟩ : ∃ p, p = w1.heap.size + 1 := ⟨_, rfl⟩
            obtain ⟨m, hm⟩ : ∃ p, p = w1.heap.size := ⟨_, rfl⟩
            have hgm : g < m := by omega
            have hmw : m < w2.heap.size := by omega
            have hmw1 : w.heap.size ≤ m := by rw [hm]; exact HB1.out.size
            rw [← hp, ← hm] at HROW
            rw [← hp]
            clear hI2 hbI c0 cl co cp hbw hp hm hm2
            go_wp2_with fail
            refine HROW.out.mono ?_
            rintro e w3 ⟨v3, rfl, l, S, hl, hdl, hD, hI, hE, hlen, hmem, hK⟩
            have hgn : ¬ (some m = some g) := fun e => by injection e with e; omega
            have hgw2 : g < w2.heap.size := by omega
            have e0 := (hK.cell (i := off) hgw2 hgn).trans d0
            have el := (hK.cell (i := off + n1) hgw2 hgn).trans dl
            have eo := (hK.cell (i := off + o) hgw2 hgn).trans do_
            have ep := (hK.cell (i := off + o1) hgw2 hgn).trans dp
            have hln : l.length = n1 := by rw [hl, HTT.out.2.2.2]
            have hnn : n - 1 = n1 := HTT.out.2.2.2.symm
            obtain ⟨hn3, hn1e, hn6, hon, ho1e⟩ := HNN.out
            obtain ⟨b3, off3, hal, hg3, hgb3, hc3⟩ := RowD.cellsF (k := n1) hD hln (by omega)
            obtain ⟨k3, rfl⟩ := hal
            rw [hnn] at hdl hmem hlen
            have HSL := Lib.hid (row_len (by omega) HTS.out hD hdl)
            rw [List.range_eq_range'] at hdl
            have hSl : S.length ≤ 90000000 := Nat.le_trans hlen (Nat.le_trans (Nat.add_le_add_left (Nat.mul_le_mul_left 3000000 (show n1 ≤ 5 by omega)) _) (by decide))
            have HD := Lib.hid (And.intro hD (And.intro hln (And.intro hdl (And.intro hmem (And.intro hK (And.intro hI hSl))))))
            have HC3 := Lib.hid hc3
            have hkk : n1 ≤ k3 := RowD.cap hD hln
            have q1 : (o : Int) ≤ (k3 : Int) := by omega
            have q2 : (o : Int) + 1 = (o1 : Int) := by omega
            have q3 : IntKind.i64.wrap ((o : Int) + 1) = (o1 : Int) := by rw [q2]; exact IntWalk.i64_in _ (by omega)
            have q4 : IntKind.i64.wrap (o1 : Int) = (o1 : Int) := IntWalk.i64_in _ (by omega)
            have q5 : (o1 : Int) ≤ (n1 : Int) := by omega
            have q6 : (n1 : Int) ≤ (k3 : Int) := by omega
            have hw1 : (n : Int) - 1 = (n1 : Int) := by omega
            have hw2 : IntKind.i64.wrap ((n : Int) - 1) = (n1 : Int) := by rw [hw1]; exact IntWalk.i64_in _ (by omega)
            have hw3 : IntKind.i64.wrap (n1 : Int) = (n1 : Int) := IntWalk.i64_in _ (by omega)
            clear hn3 hn1e hn6 ho1e hln hl
            have HON := Lib.hid hon
            obtain ⟨F, hF⟩ : ∃ F, F = l.flatMap DV.c := ⟨_, rfl⟩
            have hFl : F.length = n1 * 4 := by rw [hF, dv_flat, HD.out.2.1]
            rw [← hF] at hc3
            have HF := Lib.hid hF
            have hFo : ∀ u ∈ F, u.oneCell' = true := by
              intro u hu
              rw [hF, List.mem_flatMap] at hu
              obtain ⟨x, _, hx⟩ := hu
              exact dv_one x u hx
            have hEM : (w3.drew.alloc (Obj.cells #[] 25)).ownsRow w3.heap.size 25 4 (.slice (some ⟨w3.heap.size, 0, none⟩) 0 0) 0 [] := World.ownsRow_lit (base := w3.heap.size) (e := 25) (size := 4) w3 #[] 0 (Nat.le_refl _) (by decide) rfl
            obtain ⟨i1, hj, hy0, hy1, hy2⟩ := info_parts infoDl
            have HN1 : Hid (∀ j u, (F.take (o * 4))[j]? = some u → (w3.drew.alloc (Obj.cells #[] 25)).cell? ((⟨b3, off3, none⟩ : Addr).add j) = some u) := Lib.hid (fun j u hj => by
              rw [addr_at]
              rw [List.getElem?_take] at hj
              split at hj
              · exact ((below_alloc w3.drew _).cell (p := ⟨b3, off3 + j, none⟩) hg3).trans (hc3 j u hj)
              · cases hj)
            have HN2 : Hid (∀ w4, (w3.drew.alloc (Obj.cells #[] 25)).grownBy w4 (Value.slice (some ⟨w3.heap.size, 0, none⟩) 0 0).ownBlock → ∀ j u, (F.drop (o1 * 4))[j]? = some u → w4.cell? ((⟨b3, off3 + o1 * 4, none⟩ : Addr).add j) = some u) := Lib.hid (fun w4 hg4 j u hj => by
              rw [addr_at]
              rw [List.getElem?_drop] at hj
              have h1 := ((below_alloc w3.drew (Obj.cells #[] 25)).cell (p := ⟨b3, off3 + (o1 * 4 + j), none⟩) hg3).trans (hc3 _ u hj)
              rw [← Nat.add_assoc] at h1
              exact hg4.cell h1 (fun e => by simp only [Value.ownBlock, Option.some.injEq] at e; omega))
            have hw3s : w2.heap.size ≤ w3.heap.size := hK.size
            have HEM := Lib.hid hEM
            have HI3 := Lib.hid hI
            have ho1e2 : o1 ≤ n1 ∧ o1 < k3 := by have := HNN.out; omega
            clear hc3 hD hdl hmem hK hI hlen hE HROW hnn d0 dl do_ dp hSl hF
            go_upto_region 8 with fail
            go_region_law (first
              | (refine step_append_own rfl (.tmp 49) (.tmp 52) 37 rfl w3.heap.size 25 i1 (.agg #[.string ByteArray.empty, .string ByteArray.empty, .int .i64 0, .slice none 0 0]) 4 64 Try.underlying37 hj hy0 hy1 hy2 rfl (by decide) (.slice (some ⟨w3.heap.size, 0, none⟩) 0 0) 0 [] (by simp [Act.eval]) hEM ⟨b3, off3, none⟩ o k3 (F.take (o * 4)) (by simp [Act.eval]) (by rw [List.length_take, hFl]; omega) HN1.out (fun u hu => hFo u (List.mem_of_mem_take hu)) (by unfold maxLen; omega) (by omega) (by simp) ?_; intro v4 w4 hO4 hg4 hr4)
              | (refine step_append_own rfl (.tmp 53) (.tmp 57) 37 rfl w3.heap.size 25 i1 (.agg #[.string ByteArray.empty, .string ByteArray.empty, .int .i64 0, .slice none 0 0]) 4 64 Try.underlying37 hj hy0 hy1 hy2 rfl (by decide) v4 (0 + o) _ (by simp [Act.eval]) hO4 ⟨b3, off3 + o1 * 4, none⟩ (n1 - o1) (k3 - o1) (F.drop (o1 * 4)) (by simp [Act.eval]; omega) (by rw [List.length_drop, hFl]; omega) (HN2.out w4 hg4) (fun u hu => hFo u (List.mem_of_mem_drop hu)) (by unfold maxLen; omega) (by omega) (by have := hg4.size; simp at this; omega) ?_; intro v6 w6 hO6 hg6 hr6))
            obtain ⟨N, hN⟩ : ∃ N, N = n1 - 1 := ⟨_, rfl⟩
            have hlc : (l.take o ++ l.drop (o + 1)).length = N := by
              rw [List.length_append, List.length_take, List.length_drop, HD.out.2.1]; omega
            have hD6 : RowD w6 w2.heap.size v6 (l.take o ++ l.drop (o + 1)) := RowD.part HD.out.1 hw3s (fun y hy => (List.mem_append.1 hy).elim List.mem_of_mem_take List.mem_of_mem_drop) HEM.out hg4 hO4 hg6 hO6 (by rw [hlc]; have := HNN.out; omega) (by
              rw [HF.out, HTO.out.2.2, (dv_take l o).1, (dv_take l (o + 1)).2, List.nil_append, List.flatMap_append])
            have hI6 : BookI w6 p m S := by
              have h1 := (HI3.out.next (bl_drew (Below.refl _ w3))).next (below_alloc w3.drew (Obj.cells #[] 25))
              have h2 : BookI w4 p m S := h1.grown hg4 (fun e => by simp only [Value.ownBlock, Option.some.injEq] at e; have := HI3.out.2.2.2.2.1; omega) (fun e => by simp only [Value.ownBlock, Option.some.injEq] at e; have := HI3.out.2.2.2.2.1; omega)
              exact h2.grown hg6 (fun e => by have := (World.ownsRow.lt hO4 p e.symm).1; have := HI3.out.2.2.2.2.1; omega) (fun e => by have := (World.ownsRow.lt hO4 m e.symm).1; have := HI3.out.2.2.2.2.1; omega)
            have hs4 : w3.heap.size ≤ w4.heap.size := Nat.le_trans (show w3.heap.size ≤ (w3.drew.alloc (Obj.cells #[] 25)).heap.size by simp) hg4.size
            have hb6 : Below w3.heap.size w3 w6 := (((Below.refl _ w3).drew.alloc (Nat.le_refl _) _).grown hg4 (by simp) (fun k hk => by simp only [Value.ownBlock, Option.some.injEq] at hk; exact Nat.le_of_eq hk)).grown hg6 hs4 (fun k hk => (World.ownsRow.lt hO4 k hk).1)
            obtain ⟨a6, k6, hv6⟩ := owns_slice hD6.1
            rw [hlc] at hv6
            subst hv6
            have hgw3 : g < w3.heap.size := by omega
            have y0 := (hb6.cell (p := ⟨g, off, none⟩) hgw3).trans e0
            have yl := (hb6.cell (p := ⟨g, off + n1, none⟩) hgw3).trans el
            have yo := (hb6.cell (p := ⟨g, off + o, none⟩) hgw3).trans eo
            have yp := (hb6.cell (p := ⟨g, off + o1, none⟩) hgw3).trans ep
            have hgw6 : g < w6.heap.size := Nat.lt_of_lt_of_le hgw3 hb6.size
            have HB6 := Lib.hid (bl_nx (below_kept HB2.out hmw1 HD.out.2.2.2.2.1) hb6)
            have hdc : dls (l.take o ++ l.drop (o + 1)) = ((List.range' 0 n1).map (dAt S ts B)).take o ++ ((List.range' 0 n1).map (dAt S ts B)).drop (o + 1) := by
              rw [← HD.out.2.2.1]; unfold dls; rw [List.map_append, List.map_take, List.map_drop]
            have HRUN := Lib.hid (chRun_any w6 p m S hI6 HD.out.2.2.2.2.2.2 T0 (by omega) a6 N k6 w2.heap.size (l.take o ++ l.drop (o + 1)) hD6 hlc hmw (by have := HNN.out; omega) (fun x hx => HSL.out x ((List.mem_append.1 hx).elim List.mem_of_mem_take List.mem_of_mem_drop)))
            have hcut := runC_cut (S := S) (ts := ts) (B := B) (by omega) HTS.out (Nat.le_trans HD.out.2.2.2.2.2.2 (by decide)) HON.out (fun j hj => HD.out.2.2.2.1 j hj)
            rw [hdc, HTT.out.1, hcut, ← HTT.out.1, ← HTT.out.2.1, ← HTO.out.1, ← HTO.out.2.1, ← hN] at HRUN
            have hwN : IntKind.i64.wrap (N : Int) = (N : Int) := IntWalk.i64_in _ (by have := HNN.out; omega)
            clear hO6 hg6 hr6 hO4 hg4 hr4 hD6 hI6 hb6 hlc hdc hcut hN e0 el eo ep hEM
            by_cases he : TO = TP
            case pos =>
              rw [if_pos he] at HRUN
              subst he
              have hw5 : (0 : Int) < (n : Int) := by have := HNN.out; omega
              have hw6 : 0 < n := by have := HNN.out; omega
              clear ho1e2
              simp only at HRUN
              go_wp2_with fail
              refine HRUN.out.mono ?_
              rintro e w7 ⟨rfl, hI7, hk7⟩
              have z0 := (hk7.cell (i := off + o) hgw6 hgn).trans yo
              have z1 := (hk7.cell (i := off + o1) hgw6 hgn).trans yp
              have zl := (hk7.cell (i := off + n1) hgw6 hgn).trans yl
              have HB7 := Lib.hid (below_kept HB6.out hmw1 hk7)
              clear hI7 hk7 y0 yl yo yp HRUN
              have i1 : (o : Int) < (n : Int) := by have := HNN.out; omega
              have i2 : (o1 : Int) < (n : Int) := by have := HNN.out; omega
              have hse : (TO.toList == TO.toList) = true := by simp
              have hsl : (TL.toList == TL.toList) = true := by simp
              go_upto_region 10 with fail
              go_quiet (fail)
              have HB8 := Lib.hid (below_drewN' HB7.out nq)
              have hw1 : (n : Int) - 1 = (n1 : Int) := by have := HNN.out; omega
              have hw2 : IntKind.i64.wrap ((n : Int) - 1) = (n1 : Int) := by rw [hw1]; exact IntWalk.i64_in _ (by omega)
              have hw4 : (n1 : Int) < (n : Int) := by omega
              go_wp2_with fail
              refine (FIN.out _ HB8.out).mono ?_
              rintro e w9 ⟨rfl, hb9⟩
              go_wp2
              go_ret
              exact ⟨rfl, hb9⟩
            case neg =>
              rw [if_neg he] at HRUN
              have hw5 : (0 : Int) < (n : Int) := by have := HNN.out; omega
              have hw6 : 0 < n := by have := HNN.out; omega
              have hse : (TO.toList == TP.toList) = false := beqS_f (fun e => he (ByteArray.ext (Array.ext' e)))
              clear ho1e2 he
              simp only at HRUN
              go_wp2_with fail
              refine HRUN.out.mono ?_
              rintro e w7 ⟨rfl, hI7, hk7⟩
              have z0 := (hk7.cell (i := off + o) hgw6 hgn).trans yo
              have z1 := (hk7.cell (i := off + o1) hgw6 hgn).trans yp
              have HB7 := Lib.hid (below_kept HB6.out hmw1 hk7)
              clear hI7 hk7 y0 yl yo yp HRUN
              have i1 : (o : Int) < (n : Int) := by have := HNN.out; omega
              have i2 : (o1 : Int) < (n : Int) := by have := HNN.out; omega
              go_upto_region 10 with fail
              go_quiet (fail)
              have HB8 := Lib.hid (below_drewN' HB7.out nq)
              go_wp2_with fail
              refine (FIN.out _ HB8.out).mono ?_
              rintro e w9 ⟨rfl, hb9⟩
              go_wp2
              go_ret
              exact ⟨rfl, hb9⟩
end Go.Proofs.Ytabdmcgfiabaoaa
