/- keep's After. Conditions: as named in each theorem. -/
import Derived.Test.YtoibbeiieelccaaKeepAfter
namespace Go.Proofs.Ytoibbeiieelccaa
open Go.RowKit Go.Maps
set_option linter.unusedVariables false

theorem need_len0 {gs : List G} {ws : List Int} (h : needE gs ws = 0) : needR gs ws = needG gs ws := if_pos h

set_option maxRecDepth 100000 in
set_option maxHeartbeats 4000000 in
theorem after_any (w : World) (ao : Option Addr) (len cap : Nat) (gs : List G) (hR : Rs w ao len cap 4 gs G.c) (hgs : ∀ g ∈ gs, g.ok) (hn : len ≤ 4096)
    (ao2 : Option Addr) (len2 cap2 : Nat) (ws : List Int) (hW : Rs w ao2 len2 cap2 1 ws intC) (hws : ∀ x ∈ ws, (Lit.int .i64 x).wf = true) (hn2 : len2 ≤ 4096)
    (ao3 : Option Addr) (len3 cap3 : Nat) (whole : List Int) (hX : Rs w ao3 len3 cap3 1 whole intC) :
    Calls Try.prog 27 #[.slice ao len cap, .slice ao2 len2 cap2, .slice ao3 len3 cap3] w fun e w' => ∃ v, e = .returned (.tuple #[v, .int .i64 (afterE gs ws whole)]) ∧ w'.ownsRow w.heap.size 40 4 v (afterR gs ws whole).length ((afterR gs ws whole).flatMap G.c) ∧ Below w.heap.size w w' := by
  obtain ⟨i0, hi, hz0, hz1, hz2⟩ := info_parts infoGen
  obtain ⟨E, hE⟩ : ∃ E, E = afterE gs ws whole := ⟨_, rfl⟩
  obtain ⟨L, hL⟩ : ∃ L, L = afterR gs ws whole := ⟨_, rfl⟩
  rw [← hE, ← hL]
  have hmm := @run_makeMap Try.prog
  have hgz := genZ_run
  have HLEN := Lib.hid hR.2.2.1
  have HLEN2 := Lib.hid hW.2.2.1
  have HLEN3 := Lib.hid hX.2.2.1
  unfold afterE at hE
  unfold afterR at hL
  by_cases hc : needE gs ws = 0
  · have HC := Lib.hid hc
    rw [if_neg (by simp [hc])] at hE
    have hnr := need_len0 hc
    obtain ⟨N, hN⟩ : ∃ N, N = needG gs ws := ⟨_, rfl⟩
    have hNl : N.length ≤ gs.length := by rw [hN]; exact needG_len gs ws
    rw [← hN] at hE hnr
    have HNR := Lib.hid hnr
    have HN := Lib.hid hN
    clear hnr hN
    by_cases hlw : whole.length = N.length
    · rw [if_neg (by simp [hlw])] at hE
      have hL2 : L = afterG gs ws N whole := by
        rw [hL, HN.out, if_pos]
        unfold afterE
        rw [if_neg (by simp [hc]), ← HN.out, if_neg (by simp [hlw])]
      have HL := Lib.hid hL2
      have HLW := Lib.hid hlw
      have hln3 : len3 = N.length := by rw [← HLEN3.out]; exact hlw
      have HLN3 := Lib.hid hln3
      subst hE
      have hNn : N.length ≤ 4096 := by have := HLEN.out; omega
      clear hL hL2 hc hlw hln3 hNl
      go_enter Try.func27, Try.ntmps27
      go_wp2_with fail
      refine (need_any _ _ _ _ _ hR hgs hn _ _ _ _ hW hws hn2).mono ?_
      rintro e w1 ⟨nv, rfl, hO, hb1⟩
      rw [HC.out]
      rw [HNR.out] at hO
      obtain ⟨na, nc, rfl⟩ := owns_slice hO
      have hNR := rs_ints hO
      have hlen3' : (len3 : Int) = (N.length : Int) := by rw [HLN3.out]
      have hR1 := hR.next hb1
      have hW1 := hW.next hb1
      have hX1 := hX.next hb1
      have hM0 : (w1.alloc (Obj.map #[] 0)).ownsMap Try.prog 3 (plainElem Try.prog 3) w1.heap.size 0 (.map [] : DataW Unit) := World.ownsMap_made _ _ _ _
      have hB0 : Below w1.heap.size w1 (w1.alloc (Obj.map #[] 0)) := below_alloc _ _
      have hs1 := hb1.size
      have hm2 : w1.heap.size < (w1.alloc (Obj.map #[] 0)).heap.size := by simp
      have HB1 := Lib.hid hb1
      clear hb1 hO hR hW hX
      rw [HLN3.out]
      rw [HLN3.out] at hX1
      obtain ⟨nl, hnl⟩ : ∃ nl, nl = N.length := ⟨_, rfl⟩
      rw [← hnl] at hNR hNn hX1
      rw [← hnl]
      have HNL := Lib.hid hnl
      clear hnl hlen3'
      go_wp2
      obtain ⟨m, hm⟩ : ∃ m, m = w1.heap.size := ⟨_, rfl⟩
      rw [← hm] at hM0 hs1 hm2 hB0
      rw [← hm]
      have HMM := Lib.hid hm
      have hmle : w1.heap.size ≤ m := Nat.le_of_eq hm.symm
      clear hm
      go_loopw [34] (fun i wr => ∃ (k : Nat) (D : DataW Unit), k ≤ len2 ∧ i = .int .i64 k ∧ wr.ownsMap Try.prog 3 (plainElem Try.prog 3) m k D ∧ CntD D (ws.take k) ∧ Below m w1 wr ∧ m < wr.heap.size) (fun i _ => len2 - (intOf i).toNat)
      case atStart => exact ⟨0, .map [], by omega, rfl, hM0, CntD.nil, hB0, hm2⟩
      case round =>
        clear hM0 hm2 hB0
        obtain ⟨k, D, hk, rfl, hM, hD, hB, hmw⟩ := hrel
        have HD := Lib.hid hD
        clear hD
        by_cases hlt : k < len2
        · have hks : k < ws.length := by rw [HLEN2.out]; exact hlt
          obtain ⟨b, off, rfl, hbw, hcc⟩ := hW1.cell1 (by omega)
          have c0 := (hB.cell (p := ⟨b, off + k, none⟩) (Nat.lt_of_lt_of_le hbw hmle)).trans (hcc k hks _ rfl)
          have hwf := hws _ (List.getElem_mem hks)
          have htk := List.take_succ_eq_append_getElem hks
          obtain ⟨x, hx⟩ : ∃ x, x = ws[k] := ⟨_, rfl⟩
          rw [← hx] at c0 hwf htk
          have HT := Lib.hid htk
          have hkey := keyOf_int_mk (P := Try.prog) (k := 3) Try.underlying3 hwf
          clear hcc hwf htk hx hks
          have hcnt := HD.out.2 x
          have hcl : (ws.take k).count x ≤ k := Nat.le_trans List.count_le_length (List.length_take_le k ws)
          have hadd := HD.out.add x
          rw [← HT.out] at hadd
          obtain ⟨C, hC⟩ : ∃ C, C = (ws.take k).count x := ⟨_, rfl⟩
          rw [← hC] at hcnt hcl hadd
          have HADD := Lib.hid hadd
          clear hC hadd
          go_wp2_with (first | (at_lookup; refine wpList_lookup_own_int _ rfl _ _ 51 rfl 3 3 .i64 keyInt Try.underlying51 Try.underlying3 (zeroInt _) m k D rfl hM _ _ rfl hkey ?_; intro cc hcc hwc; obtain rfl : cc = (C : Int) := (by rw [hcnt] at hcc; simpa using hcc.symm); clear hcc hwc) | (at_mapUpdate; refine wpList_mapUpdate_own _ rfl _ _ _ 51 rfl 3 3 keyInt Try.underlying51 _ m k D rfl hM (by unfold maxLen; omega) _ _ _ rfl rfl hkey (.lit (.int .i64 ((C : Int) + 1))) [] (plainElem_int Try.underlying3 (WalkArith.wf_i64 (by omega))) ?_; intro w3 hM3 hg3))
          have hB3 : Below m w1 w3 := hB.grown hg3 (Nat.le_of_lt hmw) (by intro j hj; cases hj; exact Nat.le_refl _)
          have hmw3 := Nat.lt_of_lt_of_le hmw hg3.size
          clear hg3 hM hB c0
          go_wp2
          go_roundw
          case rel => exact ⟨k + 1, _, by omega, by go_num, hM3, HADD.out, hB3, hmw3⟩
          case measure => simp [intOf]; omega
        · have htk : ws.take k = ws := List.take_of_length_le (by rw [HLEN2.out]; omega)
          have hD := HD.out
          rw [htk] at hD
          have HD' := Lib.hid hD
          obtain ⟨kk, hkk2⟩ : ∃ kk, kk = k := ⟨_, rfl⟩
          rw [← hkk2] at hM
          clear htk hD HD hkk2
          go_wp2
          go_loopw [13, 45] (fun v i wr => ∃ k : Nat, k ≤ len ∧ i = .int .i64 k ∧ wr.ownsRow (m + 1) 40 4 v (afterG (gs.take k) ws N whole).length ((afterG (gs.take k) ws N whole).flatMap G.c) ∧ wr.ownsMap Try.prog 3 (plainElem Try.prog 3) m kk D ∧ Below m w1 wr ∧ m < wr.heap.size) (fun _ i _ => len - (intOf i).toNat)
          case atStart => exact ⟨0, by omega, rfl, by simpa [afterG] using World.ownsRow_nil _ _ _ _, hM, hB, hmw⟩
          case round =>
            clear hM hB hmw
            obtain ⟨k, hk, rfl, hO, hM, hB, hmw⟩ := hrel
            by_cases hlt : k < len
            · obtain ⟨b, off, rfl, hbw, hcc⟩ := rs_g hR1 (by omega)
              have hks : k < gs.length := by rw [HLEN.out]; exact hlt
              obtain ⟨c0, c1, c2, c3⟩ := hcc k hks
              have hok := hgs _ (List.getElem_mem hks)
              have hsucc := afterG_succ gs ws N whole k hks
              have hnl := Nat.le_trans (afterG_len (gs.take k) ws N whole) (List.length_take_le k gs)
              obtain ⟨x, hx⟩ : ∃ x, x = gs[k] := ⟨_, rfl⟩
              rw [← hx] at c0 c1 c2 c3 hok hsucc
              have hbm := Nat.lt_of_lt_of_le hbw hmle
              have d0 := (hB.cell (p := ⟨b, off + k * 4, none⟩) hbm).trans c0
              have d1 := (hB.cell (p := ⟨b, off + k * 4 + 1, none⟩) hbm).trans c1
              have d2 := (hB.cell (p := ⟨b, off + k * 4 + 2, none⟩) hbm).trans c2
              have d3 := (hB.cell (p := ⟨b, off + k * 4 + 3, none⟩) hbm).trans c3
              obtain ⟨A, hA⟩ : ∃ A, A = afterG (gs.take k) ws N whole := ⟨_, rfl⟩
              rw [← hA] at hO hsucc hnl
              have hkg := keyOf_int_mk (P := Try.prog) (k := 3) Try.underlying3 hok.1
              have hcg := HD'.out.2 x.gen
              have hgm : 0 < ws.count x.gen ↔ x.gen ∈ ws := List.count_pos_iff
              obtain ⟨cg, hcge⟩ : ∃ c, c = ws.count x.gen := ⟨_, rfl⟩
              rw [← hcge] at hcg hgm
              have HSU := Lib.hid hsucc
              have hMW : (wr.alloc (Obj.cells #[.int .i64 x.gen, .int .i64 x.basis, .int .i64 x.bytes, .string x.mark] 40)).ownsMap Try.prog 3 (plainElem Try.prog 3) m kk D := map_below hM hmw (below_alloc _ _)
              have hrg := look_int hMW hkg hcg
              have HMW := Lib.hid hMW
              have hBW : Below m w1 (wr.alloc (Obj.cells #[.int .i64 x.gen, .int .i64 x.basis, .int .i64 x.bytes, .string x.mark] 40)) := hB.alloc (Nat.le_of_lt hmw) _
              have HBW := Lib.hid hBW
              have HLT : Hid (m < (wr.alloc (Obj.cells #[.int .i64 x.gen, .int .i64 x.basis, .int .i64 x.bytes, .string x.mark] 40)).heap.size) := Lib.hid (by simp; omega)
              have HO : Hid ((wr.alloc (Obj.cells #[.int .i64 x.gen, .int .i64 x.basis, .int .i64 x.bytes, .string x.mark] 40)).ownsRow (m + 1) 40 4 u13 A.length (A.flatMap G.c)) := Lib.hid (hO.alloc _)
              have HBK := Lib.hid (Blk.new wr x.c 40)
              have HWS := Lib.hid (wr.size_alloc (Obj.cells #[.int .i64 x.gen, .int .i64 x.basis, .int .i64 x.bytes, .string x.mark] 40))
              have HOO := Lib.hid hO
              clear c0 c1 c2 c3 hcc hx hsucc hcge hok hA hks hMW hcg hkg hBW hO hM hB
              by_cases hg : x.gen ∈ ws
              · have hg1 := hgm.2 hg
                have hcg0 : ((cg : Int) == 0) = false := by simp; omega
                have hsu : afterG (gs.take (k + 1)) ws N whole = A ++ [afterX N whole x] := by rw [HSU.out, if_pos hg]
                have HSU2 := Lib.hid hsu
                clear hgm hg hsu HSU
                obtain ⟨z, hz⟩ : ∃ z, z = atZ N x.gen := ⟨_, rfl⟩
                have HZ := Lib.hid hz
                clear hz
                go_wp2_with fail
                refine (index_any _ _ _ _ N _ _ (hNR.below HBW.out hmle) (by omega) HZ.out).mono ?_
                rintro e w6 ⟨rfl, rfl⟩
                by_cases hin : x.gen ∈ N
                · have hzi : z = ((N.idxOf x.gen : Nat) : Int) := by rw [HZ.out, atZ, if_pos hin]
                  have hil : N.idxOf x.gen < N.length := List.idxOf_lt_length_of_mem hin
                  have hax : afterX N whole x = ⟨x.gen, x.gen, whole.getD (N.idxOf x.gen) 0, x.mark⟩ := if_pos hin
                  obtain ⟨i, hie⟩ : ∃ i, i = N.idxOf x.gen := ⟨_, rfl⟩
                  rw [← hie] at hzi hil hax
                  subst hzi
                  have hinl : i < nl := by rw [HNL.out]; exact hil
                  have hiw : i < whole.length := by rw [HLW.out]; exact hil
                  obtain ⟨b3, off3, rfl, hbw3, hcc3⟩ := hX1.cell1 (by omega)
                  have x00 := hcc3 i hiw _ rfl
                  obtain ⟨y, hy⟩ : ∃ y, y = whole[i] := ⟨_, rfl⟩
                  rw [← hy] at x00
                  have hax2 : afterX N whole x = ⟨x.gen, x.gen, y, x.mark⟩ := by rw [hax, hy]; simp [List.getD, hiw]
                  have HAX := Lib.hid hax2
                  have i1 : (i : Int) < (nl : Int) := by omega
                  clear hcc3 hy hax hax2 hiw hil hin hie
                  obtain ⟨W, hW⟩ : ∃ W, W = wr.alloc (Obj.cells #[.int .i64 x.gen, .int .i64 x.basis, .int .i64 x.bytes, .string x.mark] 40) := ⟨_, rfl⟩
                  have hWc : wr.alloc (.cells x.c.toArray 40) = W := hW.symm
                  rw [hWc] at HBK
                  rw [← hW] at HMW HBW HLT HO HWS
                  rw [← hW]
                  have ha : wr.heap.size < W.heap.size := by rw [HWS.out]; omega
                  have hma : m < wr.heap.size := hmw
                  obtain ⟨a, hae⟩ : ∃ a, a = wr.heap.size := ⟨_, rfl⟩
                  rw [← hae] at HBK ha hma
                  rw [← hae]
                  have HAE := Lib.hid hae
                  clear hW hWc hrg d0 d1 d2 d3 HWS hmw hae
                  have x0 := (HBW.out.cell (p := ⟨b3, off3 + i, none⟩) (Nat.lt_of_lt_of_le hbw3 hmle)).trans x00
                  clear x00
                  have g0 := HBK.out.cell (i := 0) rfl
                  have g1 := HBK.out.cell (i := 1) rfl
                  have g2 := HBK.out.cell (i := 2) rfl
                  have f1 := HBK.out.frozen 1
                  have f2 := HBK.out.frozen 2
                  go_wp2_with fail
                  go_region
                  obtain ⟨V, hV⟩ : ∃ V, V = ((W.setCell ⟨a, 1, none⟩ (.int .i64 x.gen)).setCell ⟨a, 2, none⟩ (.int .i64 y)).drew := ⟨_, rfl⟩
                  have hgr : W.grownBy V (some a) := by rw [hV]; exact grown_drew (grown_set (grown_set (grown_refl _ _) _ _) _ _)
                  have HBV : Hid (Blk V a [.int .i64 x.gen, .int .i64 x.gen, .int .i64 y, .string x.mark] 40) := by rw [hV]; exact Lib.hid ((HBK.out.set 1 _).set 2 _).drew
                  have hua : u13.ownBlock ≠ some a := by
                    intro e
                    have := World.ownsRow.lt HOO.out a e
                    have := HAE.out
                    omega
                  have HOV : Hid (V.ownsRow (m + 1) 40 4 u13 A.length (A.flatMap G.c)) := Lib.hid (HO.out.kept hgr (.inr hua))
                  have HMV : Hid (V.ownsMap Try.prog 3 (plainElem Try.prog 3) m kk D) := Lib.hid (HMW.out.kept hgr (by intro e; injection e with e; omega))
                  have HBEL : Hid (Below m w1 V) := Lib.hid (HBW.out.grown hgr (Nat.le_of_lt HLT.out) (by intro j hj; injection hj with hj; omega))
                  have HLV : Hid (m < V.heap.size) := Lib.hid (Nat.lt_of_lt_of_le HLT.out hgr.size)
                  rw [← hV]
                  clear hV hgr g0 g1 g2 f1 f2 x0 hua
                  have e0 := HBV.out.cell (i := 0) rfl
                  have e1 := HBV.out.cell (i := 1) rfl
                  have e2 := HBV.out.cell (i := 2) rfl
                  have e3 := HBV.out.cell (i := 3) rfl
                  have hOV := HOV.out
                  have hVB := HBEL.out.size
                  go_wp2_with (at_builtin; refine wpList_append_own _ rfl _ _ 22 rfl (m + 1) 40 i0 (.agg #[.int .i64 0, .int .i64 0, .int .i64 0, .string ByteArray.empty]) 4 40 Try.underlying22 hi hz0 hz1 hz2 rfl (by decide) _ _ _ rfl (hOV.alloc _) ⟨V.heap.size, 0, none⟩ 1 1 [.int .i64 x.gen, .int .i64 x.gen, .int .i64 y, .string x.mark] rfl rfl (cells_new V _ _) (gc_one ⟨x.gen, x.gen, y, x.mark⟩) (by unfold maxLen; omega) (by omega) (by have := HLV.out; simp; omega) ?_)
                  intro v' w5 hO5 hg5 _
                  have hO6 : w5.ownsRow (m + 1) 40 4 v' (afterG (gs.take (k + 1)) ws N whole).length ((afterG (gs.take (k + 1)) ws N whole).flatMap G.c) := by
                    rw [HSU2.out, HAX.out, List.length_append, flat_snoc]; exact hO5
                  have hrow : ∀ j, u13.ownBlock = some j → m + 1 ≤ j := fun j hj => (World.ownsRow.lt hOV j hj).1
                  have hM6 : w5.ownsMap Try.prog 3 (plainElem Try.prog 3) m kk D := (map_below HMV.out HLV.out (below_alloc _ _)).kept hg5 (fun e' => by have := hrow m e'.symm; omega)
                  have hB6 : Below m w1 w5 := (HBEL.out.alloc (Nat.le_of_lt HLV.out) _).grown hg5 (by have := HLV.out; simp; omega) (fun j hj => by have := hrow j hj; omega)
                  have hm6 : m < w5.heap.size := by have := hg5.size; have := HLV.out; simp at *; omega
                  clear hO5 hg5 hOV e0 e1 e2 e3
                  go_wp2
                  go_roundw
                  case rel => exact ⟨k + 1, by omega, by go_num, hO6, hM6, hB6, hm6⟩
                  case measure => simp [intOf]; omega
                · have hzi : z = -1 := by rw [HZ.out]; exact atZ_none hin
                  have hax : afterX N whole x = ⟨x.gen, x.basis, x.bytes, x.mark⟩ := if_neg hin
                  have HAX := Lib.hid hax
                  subst hzi
                  clear hin hax
                  obtain ⟨W, hW⟩ : ∃ W, W = wr.alloc (Obj.cells #[.int .i64 x.gen, .int .i64 x.basis, .int .i64 x.bytes, .string x.mark] 40) := ⟨_, rfl⟩
                  have hWc : wr.alloc (.cells x.c.toArray 40) = W := hW.symm
                  rw [hWc] at HBK
                  rw [← hW] at HMW HBW HLT HO HWS
                  rw [← hW]
                  have ha : wr.heap.size < W.heap.size := by rw [HWS.out]; omega
                  have hma : m < wr.heap.size := hmw
                  obtain ⟨a, hae⟩ : ∃ a, a = wr.heap.size := ⟨_, rfl⟩
                  rw [← hae] at HBK ha hma
                  rw [← hae]
                  have HAE := Lib.hid hae
                  clear hW hWc hrg d0 d1 d2 d3 HWS hmw hae
                  obtain ⟨V, hV⟩ : ∃ V, V = W := ⟨_, rfl⟩
                  rw [← hV] at HBK HO HMW HBW HLT
                  rw [← hV]
                  have HBV := HBK
                  have HOV := HO
                  have HMV := HMW
                  have HBEL := HBW
                  have HLV := HLT
                  clear hV
                  have e0 := HBV.out.cell (i := 0) rfl
                  have e1 := HBV.out.cell (i := 1) rfl
                  have e2 := HBV.out.cell (i := 2) rfl
                  have e3 := HBV.out.cell (i := 3) rfl
                  have hOV := HOV.out
                  have hVB := HBEL.out.size
                  go_wp2_with (at_builtin; refine wpList_append_own _ rfl _ _ 22 rfl (m + 1) 40 i0 (.agg #[.int .i64 0, .int .i64 0, .int .i64 0, .string ByteArray.empty]) 4 40 Try.underlying22 hi hz0 hz1 hz2 rfl (by decide) _ _ _ rfl (hOV.alloc _) ⟨V.heap.size, 0, none⟩ 1 1 [.int .i64 x.gen, .int .i64 x.basis, .int .i64 x.bytes, .string x.mark] rfl rfl (cells_new V _ _) (gc_one ⟨x.gen, x.basis, x.bytes, x.mark⟩) (by unfold maxLen; omega) (by omega) (by have := HLV.out; simp; omega) ?_)
                  intro v' w5 hO5 hg5 _
                  have hO6 : w5.ownsRow (m + 1) 40 4 v' (afterG (gs.take (k + 1)) ws N whole).length ((afterG (gs.take (k + 1)) ws N whole).flatMap G.c) := by
                    rw [HSU2.out, HAX.out, List.length_append, flat_snoc]; exact hO5
                  have hrow : ∀ j, u13.ownBlock = some j → m + 1 ≤ j := fun j hj => (World.ownsRow.lt hOV j hj).1
                  have hM6 : w5.ownsMap Try.prog 3 (plainElem Try.prog 3) m kk D := (map_below HMV.out HLV.out (below_alloc _ _)).kept hg5 (fun e' => by have := hrow m e'.symm; omega)
                  have hB6 : Below m w1 w5 := (HBEL.out.alloc (Nat.le_of_lt HLV.out) _).grown hg5 (by have := HLV.out; simp; omega) (fun j hj => by have := hrow j hj; omega)
                  have hm6 : m < w5.heap.size := by have := hg5.size; have := HLV.out; simp at *; omega
                  clear hO5 hg5 hOV e0 e1 e2 e3
                  go_wp2
                  go_roundw
                  case rel => exact ⟨k + 1, by omega, by go_num, hO6, hM6, hB6, hm6⟩
                  case measure => simp [intOf]; omega
              · have hg0 : cg = 0 := by
                  rcases Nat.eq_zero_or_pos cg with h | h
                  · exact h
                  · exact absurd (hgm.1 h) hg
                subst hg0
                have hsu : afterG (gs.take (k + 1)) ws N whole = A := by rw [HSU.out, if_neg hg]
                have HSU2 := Lib.hid hsu
                clear hgm hg hsu HSU hmw
                go_wp2
                go_roundw
                case rel => exact ⟨k + 1, by omega, by go_num, by rw [HSU2.out]; exact HO.out, HMW.out, HBW.out, HLT.out⟩
                case measure => simp [intOf]; omega
            · have htk : gs.take k = gs := List.take_of_length_le (by rw [HLEN.out]; omega)
              rw [htk, ← HL.out] at hO
              have hBB : Below w.heap.size w wr := HB1.out.trans (hB.mono hs1)
              clear htk
              go_wp2
              go_ret2
              exact ⟨_, rfl, owns_mono hO (by omega), hBB⟩
    · rw [if_pos hlw] at hE
      have hL2 : L = [] := by
        rw [hL, if_neg]
        unfold afterE
        rw [if_neg (by simp [hc]), ← HN.out, if_pos hlw]
        decide
      subst hE hL2
      have hNn : N.length ≤ 4096 := by have := HLEN.out; omega
      have hln3 : len3 ≠ N.length := by rw [← HLEN3.out]; exact hlw
      have hl3 : len3 ≤ cap3 := hX.1
      have hc3 := hX.2.1
      unfold maxLen at hc3
      clear hL hc hlw hNl
      go_enter Try.func27, Try.ntmps27
      go_wp2_with fail
      refine (need_any _ _ _ _ _ hR hgs hn _ _ _ _ hW hws hn2).mono ?_
      rintro e w1 ⟨nv, rfl, hO, hb1⟩
      rw [HC.out]
      rw [HNR.out] at hO
      obtain ⟨na, nc, rfl⟩ := owns_slice hO
      clear hO
      obtain ⟨nl, hnl⟩ : ∃ nl, nl = N.length := ⟨_, rfl⟩
      rw [← hnl] at hln3
      rw [← hnl]
      have hne : ((len3 : Int) != (nl : Int)) = true := by simp; omega
      clear hnl
      go_wp2
      go_ret2
      exact ⟨_, rfl, World.ownsRow_nil _ _ _ _, hb1⟩
  · have hE2 : E = needE gs ws := by rw [hE, if_pos hc]
    have hL2 : L = [] := by
      rw [hL, if_neg]
      unfold afterE
      rw [if_pos hc]; exact hc
    have hne : (E != 0) = true := by rw [hE2]; simpa using hc
    have HE2 := Lib.hid hE2
    subst hL2
    clear hE hE2 hL hc
    go_enter Try.func27, Try.ntmps27
    go_wp2_with fail
    refine (need_any _ _ _ _ _ hR hgs hn _ _ _ _ hW hws hn2).mono ?_
    rintro e w1 ⟨nv, rfl, hO, hb1⟩
    rw [← HE2.out]
    clear hO
    go_wp2
    go_ret2
    exact ⟨_, rfl, World.ownsRow_nil _ _ _ _, hb1⟩
end Go.Proofs.Ytoibbeiieelccaa
