/- The reference's After. Conditions: as named in each theorem. -/
import Derived.Test.YtoibbeiieelccaaKeepAfter2
namespace Go.Proofs.Ytoibbeiieelccaa
open Go.RowKit
set_option linter.unusedVariables false

theorem need_nodup {gs : List G} (h : Ok gs) (ws : List Int) : (needG gs ws).Nodup := by
  have h1 : (gl gs).Nodup := by
    unfold List.Nodup
    rw [List.pairwise_iff_getElem]
    intro i j hi hj hij
    have := ok_up h i j hi hj hij
    omega
  unfold needG
  exact h1.sublist (List.Sublist.map _ List.filter_sublist)
/-- the generation behind k of the inner rounds -/
def innX (N whole : List Int) (x : G) (k : Nat) : G := if x.gen ∈ N.take k then ⟨x.gen, x.gen, whole.getD (N.idxOf x.gen) 0, x.mark⟩ else x
theorem innX_zero (N whole : List Int) (x : G) : innX N whole x 0 = x := by simp [innX]
theorem innX_end (N whole : List Int) (x : G) (k : Nat) (h : N.length ≤ k) : innX N whole x k = afterX N whole x := by unfold innX afterX; rw [List.take_of_length_le h]
theorem innX_hit {N whole : List Int} {x : G} {k : Nat} (hn : N.Nodup) (hk : k < N.length) (hw : k < whole.length) (he : N[k] = x.gen) : innX N whole x k = x ∧ innX N whole x (k + 1) = ⟨x.gen, x.gen, whole[k], x.mark⟩ := by
  have h1 : x.gen ∉ N.take k := by
    intro hin
    obtain ⟨j, hj, h2⟩ := List.getElem_of_mem hin
    rw [List.getElem_take] at h2
    have hj2 : j < k := by simp at hj; omega
    have := (List.pairwise_iff_getElem.1 hn) j k (by omega) hk hj2
    rw [h2, he] at this
    exact this rfl
  have h2 : x.gen ∈ N.take (k + 1) := by rw [List.take_succ_eq_append_getElem hk, he]; simp
  have h3 : N.idxOf x.gen = k := idx_first hk he h1
  unfold innX
  rw [if_neg h1, if_pos h2, h3]
  exact ⟨rfl, by simp [List.getD, hw]⟩
theorem innX_miss {N whole : List Int} {x : G} {k : Nat} (hk : k < N.length) (he : N[k] ≠ x.gen) : innX N whole x (k + 1) = innX N whole x k := by
  have h : x.gen ∈ N.take (k + 1) ↔ x.gen ∈ N.take k := by
    rw [List.take_succ_eq_append_getElem hk, List.mem_append, List.mem_singleton]
    exact ⟨fun h => h.elim id (fun e => absurd e.symm he), .inl⟩
  unfold innX
  simp only [h]
theorem innX_gen (N whole : List Int) (x : G) (k : Nat) : (innX N whole x k).gen = x.gen := by unfold innX; split <;> rfl
theorem innX_c (N whole : List Int) (x : G) (k : Nat) : ∃ b y, innX N whole x k = ⟨x.gen, b, y, x.mark⟩ := by
  unfold innX; split
  · exact ⟨_, _, rfl⟩
  · exact ⟨x.basis, x.bytes, rfl⟩

set_option maxRecDepth 100000 in
set_option maxHeartbeats 4000000 in
theorem refAfter_any (w : World) (ao : Option Addr) (len cap : Nat) (gs : List G) (hR : Rs w ao len cap 4 gs G.c) (hn : len ≤ 4096)
    (ao2 : Option Addr) (len2 cap2 : Nat) (ws : List Int) (hW : Rs w ao2 len2 cap2 1 ws intC) (hn2 : len2 ≤ 4096)
    (ao3 : Option Addr) (len3 cap3 : Nat) (whole : List Int) (hX : Rs w ao3 len3 cap3 1 whole intC) :
    Calls Try.prog 28 #[.slice ao len cap, .slice ao2 len2 cap2, .slice ao3 len3 cap3] w fun e w' => ∃ v, e = .returned (.tuple #[v, .int .i64 (afterE gs ws whole)]) ∧ w'.ownsRow w.heap.size 40 4 v (afterR gs ws whole).length ((afterR gs ws whole).flatMap G.c) ∧ Below w.heap.size w w' := by
  obtain ⟨i0, hi, hz0, hz1, hz2⟩ := info_parts infoGen
  obtain ⟨E, hE⟩ : ∃ E, E = afterE gs ws whole := ⟨_, rfl⟩
  obtain ⟨L, hL⟩ : ∃ L, L = afterR gs ws whole := ⟨_, rfl⟩
  rw [← hE, ← hL]
  have hgz := genZ_run
  have HLEN := Lib.hid hR.2.2.1
  have HLEN2 := Lib.hid hW.2.2.1
  have HLEN3 := Lib.hid hX.2.2.1
  unfold afterE at hE
  unfold afterR at hL
  by_cases hc : needE gs ws = 0
  · have HC := Lib.hid hc
    have hok : Ok gs := chk_all (by
      unfold needE at hc
      split at hc
      · rename_i h; exact absurd hc h
      · rename_i h; simpa using h)
    have HND := Lib.hid (need_nodup hok ws)
    rw [if_neg (by simp [hc])] at hE
    have hnr := need_len0 hc
    obtain ⟨N, hN⟩ : ∃ N, N = needG gs ws := ⟨_, rfl⟩
    have hNl : N.length ≤ gs.length := by rw [hN]; exact needG_len gs ws
    rw [← hN] at hE hnr HND
    have HNR := Lib.hid hnr
    have HN := Lib.hid hN
    clear hnr hN hok
    by_cases hlw : whole.length = N.length
    · rw [if_neg (by simp [hlw])] at hE
      have hL2 : L = afterG gs ws N whole := by
        rw [hL, HN.out, if_pos]
        unfold afterE
        rw [if_neg (by simp [hc]), ← HN.out, if_neg (by simp [hlw])]
      have HL := Lib.hid hL2
      have HLW := Lib.hid hlw
      have hln3 : len3 = N.length := by rw [← HLEN3.out]; exact hlw
      have HLN3 := Lib.hid hln3
      subst hE
      have hNn : N.length ≤ 4096 := by have := HLEN.out; omega
      clear hL hL2 hc hlw hln3 hNl
      go_enter Try.func28, Try.ntmps28
      go_wp2_with fail
      refine (refNeed_any _ _ _ _ _ hR hn _ _ _ _ hW hn2).mono ?_
      rintro e w1 ⟨nv, rfl, hO, hb1⟩
      rw [HC.out]
      rw [HNR.out] at hO
      obtain ⟨na, nc, rfl⟩ := owns_slice hO
      have hNR := rs_ints hO
      have hR1 := hR.next hb1
      have hW1 := hW.next hb1
      have hX1 := hX.next hb1
      have HB1 := Lib.hid hb1
      clear hb1 hO hR hW hX
      rw [HLN3.out]
      rw [HLN3.out] at hX1
      obtain ⟨nl, hnl⟩ : ∃ nl, nl = N.length := ⟨_, rfl⟩
      rw [← hnl] at hNR hNn hX1
      rw [← hnl]
      have HNL := Lib.hid hnl
      clear hnl
      go_wp2
      go_loopw [10, 11] (fun v i wr => ∃ k : Nat, k ≤ len ∧ i = .int .i64 k ∧ wr.ownsRow w1.heap.size 40 4 v (afterG (gs.take k) ws N whole).length ((afterG (gs.take k) ws N whole).flatMap G.c) ∧ Below w1.heap.size w1 wr) (fun _ i _ => len - (intOf i).toNat)
      case atStart => exact ⟨0, by omega, rfl, by simpa [afterG] using World.ownsRow_nil _ _ _ _, Below.refl _ _⟩
      case round =>
        obtain ⟨k, hk, rfl, hO, hB⟩ := hrel
        have hS := hB.size
        by_cases hlt : k < len
        · obtain ⟨b, off, rfl, hbw, hcc⟩ := rs_g hR1 (by omega)
          have hks : k < gs.length := by rw [HLEN.out]; exact hlt
          obtain ⟨c0, c1, c2, c3⟩ := hcc k hks
          have hsucc := afterG_succ gs ws N whole k hks
          have hnl := Nat.le_trans (afterG_len (gs.take k) ws N whole) (List.length_take_le k gs)
          obtain ⟨x, hx⟩ : ∃ x, x = gs[k] := ⟨_, rfl⟩
          rw [← hx] at c0 c1 c2 c3 hsucc
          have d0 := (hB.cell (p := ⟨b, off + k * 4, none⟩) hbw).trans c0
          have d1 := (hB.cell (p := ⟨b, off + k * 4 + 1, none⟩) hbw).trans c1
          have d2 := (hB.cell (p := ⟨b, off + k * 4 + 2, none⟩) hbw).trans c2
          have d3 := (hB.cell (p := ⟨b, off + k * 4 + 3, none⟩) hbw).trans c3
          obtain ⟨A, hA⟩ : ∃ A, A = afterG (gs.take k) ws N whole := ⟨_, rfl⟩
          rw [← hA] at hO hsucc hnl
          have HSU := Lib.hid hsucc
          have HWR := Lib.hid (hW1.below hB (Nat.le_refl _))
          have HO := Lib.hid hO
          have HBL := Lib.hid hB
          clear c0 c1 c2 c3 hcc hx hsucc hA hks hO hB
          by_cases hg : x.gen ∈ ws
          · have HG := Lib.hid hg
            have hsu : afterG (gs.take (k + 1)) ws N whole = A ++ [afterX N whole x] := by rw [HSU.out, if_pos hg]
            have HSU2 := Lib.hid hsu
            clear hg hsu HSU
            go_wp2_with fail
            refine (in_any _ _ _ _ _ _ true HWR.out (by omega) (by simp [HG.out])).mono ?_
            rintro e w2 ⟨rfl, rfl⟩
            have hBK := Blk.new wr x.c 40
            have hGR : wr.grownBy (wr.alloc (Obj.cells #[.int .i64 x.gen, .int .i64 x.basis, .int .i64 x.bytes, .string x.mark] 40)) none := World.grownBy_alloc _ _ _
            have hWS := wr.size_alloc (Obj.cells #[.int .i64 x.gen, .int .i64 x.basis, .int .i64 x.bytes, .string x.mark] 40)
            have HBK := Lib.hid hBK
            have HGR := Lib.hid hGR
            have HWS := Lib.hid hWS
            clear hBK hGR hWS
            go_wp2
            obtain ⟨W, hW⟩ : ∃ W, W = wr.alloc (Obj.cells #[.int .i64 x.gen, .int .i64 x.basis, .int .i64 x.bytes, .string x.mark] 40) := ⟨_, rfl⟩
            have hWc : wr.alloc (.cells x.c.toArray 40) = W := hW.symm
            rw [hWc] at HBK
            rw [← hW] at HGR HWS
            rw [← hW]
            obtain ⟨a, hae⟩ : ∃ a, a = wr.heap.size := ⟨_, rfl⟩
            have HAE := Lib.hid hae
            rw [← hae] at HBK
            rw [← hae]
            have HAL : Hid (w1.heap.size ≤ a) := Lib.hid (by rw [hae]; exact hS)
            have HBW : Hid (Below w1.heap.size w1 W) := Lib.hid (HBL.out.grown HGR.out hS (by simp))
            have HOW : Hid (W.ownsRow w1.heap.size 40 4 u10 A.length (A.flatMap G.c)) := Lib.hid (HO.out.kept HGR.out (by cases u10.ownBlock <;> simp))
            have HUA : Hid (u10.ownBlock ≠ some a) := Lib.hid (by intro e; have := World.ownsRow.lt HO.out a e; omega)
            clear hW hWc d0 d1 d2 d3 hae HWR HO HBL HGR HWS hS HAE
            go_loopw [13] (fun i wv => ∃ j : Nat, j ≤ nl ∧ i = .int .i64 j ∧ Blk wv a (innX N whole x j).c 40 ∧ W.grownBy wv (some a)) (fun i _ => nl - (intOf i).toNat)
            case atStart => exact ⟨0, by omega, rfl, by rw [innX_zero]; exact HBK.out, grown_refl _ _⟩
            case round =>
              clear HBK
              obtain ⟨j, hj, rfl, hBk, hGr⟩ := hrel
              by_cases hlj : j < nl
              · obtain ⟨b2, off2, rfl, hbw2, hcc2⟩ := hNR.cell1 (by omega)
                have hjN : j < N.length := by rw [← HNL.out]; exact hlj
                obtain ⟨b3, off3, rfl, hbw3, hcc3⟩ := hX1.cell1 (by omega)
                have hjw : j < whole.length := by rw [HLW.out]; exact hjN
                have hBV : Below w1.heap.size w1 wr := HBW.out.grown hGr HBW.out.size (by intro q hq; injection hq with hq; rw [← hq]; exact HAL.out)
                have n0 := (hBV.cell (p := ⟨b2, off2 + j, none⟩) hbw2).trans (hcc2 j hjN _ rfl)
                have x0 := (hBV.cell (p := ⟨b3, off3 + j, none⟩) hbw3).trans (hcc3 j hjw _ rfl)
                obtain ⟨bb, yy, hxe⟩ := innX_c N whole x j
                rw [hxe] at hBk
                have g0 := hBk.cell (i := 0) rfl
                have i1 : (j : Int) < (nl : Int) := by omega
                have hne3 : b3 ≠ a := by have := HAL.out; omega
                have hne4 : a ≠ b3 := fun e => hne3 e.symm
                clear hcc2 hcc3 hBV
                by_cases he : N[j] = x.gen
                · obtain ⟨hh1, hh2⟩ := innX_hit (whole := whole) HND.out hjN hjw he
                  have HH2 := Lib.hid hh2
                  rw [he] at n0
                  obtain ⟨y, hy⟩ : ∃ y, y = whole[j] := ⟨_, rfl⟩
                  rw [← hy] at x0 HH2
                  clear hh1 hh2 he hy hjN hjw
                  go_wp2
                  go_quiet (fail)
                  obtain ⟨V, hV⟩ : ∃ V, V = wr.drewN nq := ⟨_, rfl⟩
                  have HBV : Hid (Blk V a [.int .i64 x.gen, .int .i64 bb, .int .i64 yy, .string x.mark] 40) := by rw [hV]; exact Lib.hid (hBk.drewN _)
                  have HGV : Hid (W.grownBy V (some a)) := by rw [hV]; exact Lib.hid (grown_drewN hGr _)
                  have y0 : V.cell? ⟨b3, off3 + j, none⟩ = some (.int .i64 y) := by rw [hV]; exact x0
                  have q0 := HBV.out.cell (i := 0) rfl
                  have q1 := HBV.out.cell (i := 1) rfl
                  have q2 := HBV.out.cell (i := 2) rfl
                  have r1 := HBV.out.frozen 1
                  have r2 := HBV.out.frozen 2
                  rw [← hV]
                  clear hV n0 x0 g0 hBk hGr
                  go_wp2
                  go_roundw
                  case rel => exact ⟨j + 1, by omega, by go_num, by rw [HH2.out]; exact (HBV.out.set 1 _).set 2 _, grown_set (grown_set HGV.out _ _) _ _⟩
                  case measure => simp [intOf]; omega
                · have hm := innX_miss (whole := whole) hjN he
                  rw [hxe] at hm
                  have HMS := Lib.hid hm
                  obtain ⟨u, hu⟩ : ∃ u, u = N[j] := ⟨_, rfl⟩
                  rw [← hu] at n0 he
                  have hnu : (u == x.gen) = false := by simp; exact he
                  clear hm he hu x0 hjN hjw
                  go_wp2
                  go_quiet (fail)
                  go_wp2
                  go_roundw
                  case rel => exact ⟨j + 1, by omega, by go_num, by rw [HMS.out]; exact hBk.drewN _, grown_drewN hGr _⟩
                  case measure => simp [intOf]; omega
              · have hje : innX N whole x j = afterX N whole x := innX_end N whole x j (by rw [← HNL.out]; omega)
                rw [hje] at hBk
                obtain ⟨bb, yy, hxe⟩ : ∃ bb yy, afterX N whole x = ⟨x.gen, bb, yy, x.mark⟩ := by rw [← hje]; exact innX_c N whole x j
                rw [hxe] at hBk
                have HXE := Lib.hid hxe
                have e0 := hBk.cell (i := 0) rfl
                have e1 := hBk.cell (i := 1) rfl
                have e2 := hBk.cell (i := 2) rfl
                have e3 := hBk.cell (i := 3) rfl
                have hOV : wr.ownsRow w1.heap.size 40 4 u10 A.length (A.flatMap G.c) := HOW.out.kept hGr (.inr HUA.out)
                have hBV : Below w1.heap.size w1 wr := HBW.out.grown hGr HBW.out.size (by intro q hq; injection hq with hq; rw [← hq]; exact HAL.out)
                have hS := hBV.size
                clear hje hxe hBk hGr
                go_wp2_with (at_builtin; refine wpList_append_own _ rfl _ _ 22 rfl w1.heap.size 40 i0 (.agg #[.int .i64 0, .int .i64 0, .int .i64 0, .string ByteArray.empty]) 4 40 Try.underlying22 hi hz0 hz1 hz2 rfl (by decide) _ _ _ rfl (hOV.alloc _) ⟨wr.heap.size, 0, none⟩ 1 1 [.int .i64 x.gen, .int .i64 bb, .int .i64 yy, .string x.mark] rfl rfl (cells_new wr _ _) (gc_one ⟨x.gen, bb, yy, x.mark⟩) (by unfold maxLen; omega) (by omega) (by simp; omega) ?_)
                intro v' w5 hO5 hg5 _
                have hO6 : w5.ownsRow w1.heap.size 40 4 v' (afterG (gs.take (k + 1)) ws N whole).length ((afterG (gs.take (k + 1)) ws N whole).flatMap G.c) := by
                  rw [HSU2.out, HXE.out, List.length_append, flat_snoc]; exact hO5
                have hB6 : Below w1.heap.size w1 w5 := (hBV.alloc hS _).grown hg5 (by simp; omega) (fun q hq => (World.ownsRow.lt hOV q hq).1)
                clear hO5 hg5 hOV e0 e1 e2 e3
                go_wp2
                go_roundw
                case rel => exact ⟨k + 1, by omega, by go_num, hO6, hB6⟩
                case measure => simp [intOf]; omega
          · have HG := Lib.hid hg
            have hsu : afterG (gs.take (k + 1)) ws N whole = A := by rw [HSU.out, if_neg hg]
            have HSU2 := Lib.hid hsu
            clear hg hsu HSU
            go_wp2_with fail
            refine (in_any _ _ _ _ _ _ false HWR.out (by omega) (by simp [HG.out])).mono ?_
            rintro e w2 ⟨rfl, rfl⟩
            go_wp2
            go_roundw
            case rel => exact ⟨k + 1, by omega, by go_num, by rw [HSU2.out]; exact HO.out, HBL.out⟩
            case measure => simp [intOf]; omega
        · have htk : gs.take k = gs := List.take_of_length_le (by rw [HLEN.out]; omega)
          rw [htk, ← HL.out] at hO
          have hBB : Below w.heap.size w wr := below_via HB1.out hB
          have hs1 := HB1.out.size
          clear htk
          go_wp2
          go_ret2
          exact ⟨_, rfl, owns_mono hO hs1, hBB⟩
    · rw [if_pos hlw] at hE
      have hL2 : L = [] := by
        rw [hL, if_neg]
        unfold afterE
        rw [if_neg (by simp [hc]), ← HN.out, if_pos hlw]
        decide
      subst hE hL2
      have hNn : N.length ≤ 4096 := by have := HLEN.out; omega
      have hln3 : len3 ≠ N.length := by rw [← HLEN3.out]; exact hlw
      have hl3 : len3 ≤ cap3 := hX.1
      have hc3 := hX.2.1
      unfold maxLen at hc3
      clear hL hc hlw hNl
      go_enter Try.func28, Try.ntmps28
      go_wp2_with fail
      refine (refNeed_any _ _ _ _ _ hR hn _ _ _ _ hW hn2).mono ?_
      rintro e w1 ⟨nv, rfl, hO, hb1⟩
      rw [HC.out]
      rw [HNR.out] at hO
      obtain ⟨na, nc, rfl⟩ := owns_slice hO
      clear hO
      obtain ⟨nl, hnl⟩ : ∃ nl, nl = N.length := ⟨_, rfl⟩
      rw [← hnl] at hln3
      rw [← hnl]
      have hne : ((nl : Int) != (len3 : Int)) = true := by simp; omega
      clear hnl
      go_wp2
      go_ret2
      exact ⟨_, rfl, World.ownsRow_nil _ _ _ _, hb1⟩
  · have hE2 : E = needE gs ws := by rw [hE, if_pos hc]
    have hL2 : L = [] := by
      rw [hL, if_neg]
      unfold afterE
      rw [if_pos hc]; exact hc
    have hne : (E != 0) = true := by rw [hE2]; simpa using hc
    have HE2 := Lib.hid hE2
    subst hL2
    clear hE hE2 hL hc
    go_enter Try.func28, Try.ntmps28
    go_wp2_with fail
    refine (refNeed_any _ _ _ _ _ hR hn _ _ _ _ hW hn2).mono ?_
    rintro e w1 ⟨nv, rfl, hO, hb1⟩
    rw [← HE2.out]
    clear hO
    go_wp2
    go_ret2
    exact ⟨_, rfl, World.ownsRow_nil _ _ _ _, hb1⟩
end Go.Proofs.Ytoibbeiieelccaa
