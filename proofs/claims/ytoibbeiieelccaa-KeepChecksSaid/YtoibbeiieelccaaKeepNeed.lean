/- Need and the reference's Need. Conditions: as named in each theorem. -/
import Derived.Test.YtoibbeiieelccaaKeepRoad
import Derived.Maps.OwnSet
import Derived.Maps.OwnOps
namespace Go.Proofs.Ytoibbeiieelccaa
open Go.RowKit Go.Maps
set_option linter.unusedVariables false

theorem keyInt : Keyed Try.prog 3 := int_keyed Try.underlying3
theorem zeroInt (w : World) : (zeroValue 3).run Try.prog w = .ok (.int .i64 0) w := by kernel_rfl
theorem map_below {w w' : World} {m n : Nat} {D : DataW Unit} (h : w.ownsMap Try.prog 3 (plainElem Try.prog 3) m n D) (hm : m < w.heap.size) (hb : Below w.heap.size w w') : w'.ownsMap Try.prog 3 (plainElem Try.prog 3) m n D := by
  obtain ⟨es, clock, hx, F, hs, hD⟩ := h
  exact ⟨es, clock, by rw [hb.block m hm]; exact hx, F, hs, hD⟩

/-- a map that counts -/
def CntD (D : DataW Unit) (l : List Int) : Prop := Maps.Tidy D ∧ ∀ n : Int, D.atKey (.int .i64 n) (.lit (.int .i64 0)) = .lit (.int .i64 (l.count n : Nat))
theorem CntD.nil : CntD (.map []) [] := ⟨Maps.tidy_empty, fun _ => rfl⟩
theorem CntD.add {D : DataW Unit} {l : List Int} (h : CntD D l) (x : Int) : CntD (D.put (.int .i64 x) (.lit (.int .i64 (l.count x + 1 : Nat)))) (l ++ [x]) := by
  have hk : WideAt.IsKeyLit (.int .i64 x) := by simp [WideAt.IsKeyLit]
  refine ⟨h.1.put hk _, fun n => ?_⟩
  by_cases e : n = x
  · subst e
    rw [Maps.atKey_put_same h.1.isMap hk]; simp
  · rw [Maps.atKey_put_other (by intro e2; cases e2; exact e rfl), h.2 n, List.count_append]
    simp [show ¬ x = n from fun e2 => e e2.symm]

theorem cell1_new2 (w : World) (o : Obj) (x : Value) (e : TypeId) : ∀ j u, [x][j]? = some u → ((w.alloc o).alloc (.cells #[x] e)).cell? ((⟨w.heap.size + 1, 0, none⟩ : Addr).add j) = some u := by
  have h := cell1_new (w.alloc o) x e
  rwa [World.size_alloc] at h

theorem look_int {w : World} {m n : Nat} {D : DataW Unit} {x : Int} {c : Nat} (h : w.ownsMap Try.prog 3 (plainElem Try.prog 3) m n D) (hk : keyOf Try.prog 3 (.int .i64 x) = some (.int .i64 x)) (hc : D.atKey (.int .i64 x) (.lit (.int .i64 0)) = .lit (.int .i64 (c : Nat))) :
    (Instr.lookup 51 (.map (some m)) (.int .i64 x) false).run Try.prog w = .ok (.int .i64 c) w := by
  obtain ⟨c', hrun, hat, _⟩ := h.lookup_int keyInt (t := 51) (e := 3) (q := .i64) Try.underlying51 Try.underlying3 (zeroInt w) hk
  rw [hc] at hat
  have : c' = (c : Int) := by simpa using hat.symm
  rw [hrun, this]

def needG (gs : List G) (ws : List Int) : List Int := (gs.filter fun x => decide (x.gen ∈ ws) && !decide (x.basis ∈ ws)).map G.gen
def needE (gs : List G) (ws : List Int) : Int := if chk gs ≠ 0 then chk gs else if ∃ x ∈ ws, x ∉ gl gs then 8 else 0
def needR (gs : List G) (ws : List Int) : List Int := if needE gs ws = 0 then needG gs ws else []
theorem needG_succ (gs : List G) (ws : List Int) (k : Nat) (hk : k < gs.length) : needG (gs.take (k + 1)) ws = if gs[k].gen ∈ ws ∧ gs[k].basis ∉ ws then needG (gs.take k) ws ++ [gs[k].gen] else needG (gs.take k) ws := by
  unfold needG
  rw [List.take_succ_eq_append_getElem hk, List.filter_append, List.map_append]
  by_cases h : gs[k].gen ∈ ws ∧ gs[k].basis ∉ ws
  · rw [if_pos h]; simp [h.1, h.2]
  · rw [if_neg h]
    have : (decide (gs[k].gen ∈ ws) && !decide (gs[k].basis ∈ ws)) = false := by
      cases h1 : decide (gs[k].gen ∈ ws) <;> simp_all
    simp [this]
theorem needG_len (gs : List G) (ws : List Int) : (needG gs ws).length ≤ gs.length := by
  unfold needG; rw [List.length_map]; exact List.length_filter_le _ _

set_option maxRecDepth 100000 in
set_option maxHeartbeats 4000000 in
theorem need_any (w : World) (ao : Option Addr) (len cap : Nat) (gs : List G) (hR : Rs w ao len cap 4 gs G.c) (hgs : ∀ g ∈ gs, g.ok) (hn : len ≤ 4096)
    (ao2 : Option Addr) (len2 cap2 : Nat) (ws : List Int) (hW : Rs w ao2 len2 cap2 1 ws intC) (hws : ∀ x ∈ ws, (Lit.int .i64 x).wf = true) (hn2 : len2 ≤ 4096) :
    Calls Try.prog 11 #[.slice ao len cap, .slice ao2 len2 cap2] w fun e w' => ∃ v, e = .returned (.tuple #[v, .int .i64 (needE gs ws)]) ∧ w'.ownsRow w.heap.size 3 1 v (needR gs ws).length (intV (needR gs ws)) ∧ Below w.heap.size w w' := by
  obtain ⟨i0, hi, hz0, hz1, hz2⟩ := info_parts infoInt
  obtain ⟨E, hE⟩ : ∃ E, E = needE gs ws := ⟨_, rfl⟩
  obtain ⟨L, hL⟩ : ∃ L, L = needR gs ws := ⟨_, rfl⟩
  rw [← hE, ← hL]
  have HE := Lib.hid hE
  have HL := Lib.hid hL
  clear hE hL
  have hmm := @run_makeMap Try.prog
  have hgz := genZ_run
  have HLEN := Lib.hid hR.2.2.1
  have HLEN2 := Lib.hid hW.2.2.1
  by_cases hc : chk gs = 0
  · have HOK : Hid (Ok gs) := Lib.hid (chk_all hc)
    have HC := Lib.hid hc
    clear hc
    go_enter Try.func11, Try.ntmps11
    go_wp2_with fail
    refine (check_any _ _ _ _ _ hR hn).mono ?_
    rintro e w1 ⟨rfl, hb1⟩
    rw [HC.out]
    have hM0 : (w1.alloc (Obj.map #[] 0)).ownsMap Try.prog 3 (plainElem Try.prog 3) w1.heap.size 0 (.map [] : DataW Unit) := World.ownsMap_made _ _ _ _
    have hb2 : Below w.heap.size w (w1.alloc (Obj.map #[] 0)) := hb1.alloc hb1.size _
    have hs1 := hb1.size
    have hm2 : w1.heap.size < (w1.alloc (Obj.map #[] 0)).heap.size := by simp
    clear hb1
    go_wp2
    obtain ⟨m, hm⟩ : ∃ m, m = w1.heap.size := ⟨_, rfl⟩
    rw [← hm] at hM0 hs1 hm2
    rw [← hm]
    clear hm
    go_loopw [21] (fun i wr => ∃ (k : Nat) (D : DataW Unit), k ≤ len2 ∧ i = .int .i64 k ∧ wr.ownsMap Try.prog 3 (plainElem Try.prog 3) m k D ∧ CntD D (ws.take k) ∧ (∀ x ∈ ws.take k, x ∈ gl gs) ∧ Below w.heap.size w wr ∧ m < wr.heap.size) (fun i _ => len2 - (intOf i).toNat)
    case atStart => exact ⟨0, .map [], by omega, rfl, hM0, CntD.nil, by simp, hb2, hm2⟩
    case round =>
      clear hM0 hb2 hm2
      obtain ⟨k, D, hk, rfl, hM, hD, hin, hB, hmw⟩ := hrel
      have HD := Lib.hid hD
      have HIN := Lib.hid hin
      clear hD hin
      by_cases hlt : k < len2
      · have hks : k < ws.length := by rw [HLEN2.out]; exact hlt
        obtain ⟨b, off, rfl, hbw, hcc⟩ := hW.cell1 (by omega)
        have c0 := (hB.cell (p := ⟨b, off + k, none⟩) hbw).trans (hcc k hks _ rfl)
        have hwf := hws _ (List.getElem_mem hks)
        have htk := List.take_succ_eq_append_getElem hks
        obtain ⟨x, hx⟩ : ∃ x, x = ws[k] := ⟨_, rfl⟩
        rw [← hx] at c0 hwf htk
        have HX : Hid (x ∈ ws) := Lib.hid (by rw [hx]; exact List.getElem_mem hks)
        have HT := Lib.hid htk
        have hkey := keyOf_int_mk (P := Try.prog) (k := 3) Try.underlying3 hwf
        clear hcc hwf htk hx hks
        by_cases hxin : x ∈ gl gs
        · have hat := atZ_in hxin
          obtain ⟨A, hA⟩ : ∃ A, A = idx gs x := ⟨_, rfl⟩
          rw [← hA] at hat
          have HAT := Lib.hid hat
          have HXI := Lib.hid hxin
          clear hat hxin hA
          have hcnt := HD.out.2 x
          have hcl : (ws.take k).count x ≤ k := Nat.le_trans List.count_le_length (List.length_take_le k ws)
          have hadd := HD.out.add x
          rw [← HT.out] at hadd
          obtain ⟨C, hC⟩ : ∃ C, C = (ws.take k).count x := ⟨_, rfl⟩
          rw [← hC] at hcnt hcl hadd
          have HADD := Lib.hid hadd
          clear hC hadd
          go_wp2_with fail
          refine (place_z _ _ _ _ _ _ _ (hR.below hB (Nat.le_refl _)) (by omega) (ok_up HOK.out) HAT.out.symm).mono ?_
          rintro e w2 ⟨rfl, hb2⟩
          have hM2 := map_below hM hmw hb2
          have hB2 := below_via hB hb2
          have hmw2 := Nat.lt_of_lt_of_le hmw hb2.size
          have d0 := (hB2.cell (p := ⟨b, off + k, none⟩) hbw).trans ((hB.cell (p := ⟨b, off + k, none⟩) hbw).symm.trans c0)
          clear hM hB hb2 hmw c0
          go_wp2_with (first | (at_lookup; refine wpList_lookup_own_int _ rfl _ _ 51 rfl 3 3 .i64 keyInt Try.underlying51 Try.underlying3 (zeroInt _) m k D rfl hM2 _ _ rfl hkey ?_; intro cc hcc hwc; obtain rfl : cc = (C : Int) := (by rw [hcnt] at hcc; simpa using hcc.symm); clear hcc hwc) | (at_mapUpdate; refine wpList_mapUpdate_own _ rfl _ _ _ 51 rfl 3 3 keyInt Try.underlying51 _ m k D rfl hM2 (by unfold maxLen; omega) _ _ _ rfl rfl hkey (.lit (.int .i64 ((C : Int) + 1))) [] (plainElem_int Try.underlying3 (WalkArith.wf_i64 (by omega))) ?_; intro w3 hM3 hg3))
          have hB3 : Below w.heap.size w w3 := hB2.grown hg3 hB2.size (by intro j hj; cases hj; exact hs1)
          have hmw3 := Nat.lt_of_lt_of_le hmw2 hg3.size
          clear hg3 hM2 hB2 d0
          go_wp2
          go_roundw
          case rel => exact ⟨k + 1, _, by omega, by go_num, hM3, HADD.out, by rw [HT.out]; intro y hy; rcases List.mem_append.1 hy with h | h; exact HIN.out y h; rw [List.mem_singleton.1 h]; exact HXI.out, hB3, hmw3⟩
          case measure => simp [intOf]; omega
        · have hE8 : E = 8 := by rw [HE.out, needE, if_neg (by simp [HC.out]), if_pos ⟨x, HX.out, hxin⟩]
          have hL0 : L = [] := by rw [HL.out, needR, if_neg (by rw [← HE.out, hE8]; decide)]
          have hat := atZ_none hxin
          have HAT := Lib.hid hat
          clear hat hxin HL HE
          subst hE8 hL0
          go_wp2_with fail
          refine (place_z _ _ _ _ _ _ _ (hR.below hB (Nat.le_refl _)) (by omega) (ok_up HOK.out) HAT.out.symm).mono ?_
          rintro e w2 ⟨rfl, hb2⟩
          go_wp2
          go_ret2
          exact ⟨_, rfl, World.ownsRow_nil _ _ _ _, below_via hB hb2⟩
      · have hkk : k = len2 := by omega
        have htk : ws.take k = ws := List.take_of_length_le (by rw [HLEN2.out]; omega)
        have hD := HD.out
        have hin := HIN.out
        rw [htk] at hD hin
        have HD' := Lib.hid hD
        have hE0 : E = 0 := by rw [HE.out, needE, if_neg (by simp [HC.out]), if_neg (by rintro ⟨x, h1, h2⟩; exact h2 (hin x h1))]
        have hLL : L = needG gs ws := by rw [HL.out, needR, if_pos (by rw [← HE.out, hE0])]
        have HLL := Lib.hid hLL
        clear HE HL hLL hD hin htk HD HIN
        subst hE0
        obtain ⟨kk, hkk2⟩ : ∃ kk, kk = k := ⟨_, rfl⟩
        rw [← hkk2] at hM
        clear hkk hkk2
        go_wp2
        go_loopw [10, 36] (fun v i wr => ∃ k : Nat, k ≤ len ∧ i = .int .i64 k ∧ wr.ownsRow (m + 1) 3 1 v (needG (gs.take k) ws).length (intV (needG (gs.take k) ws)) ∧ wr.ownsMap Try.prog 3 (plainElem Try.prog 3) m kk D ∧ Below w.heap.size w wr ∧ m < wr.heap.size) (fun _ i _ => len - (intOf i).toNat)
        case atStart => exact ⟨0, by omega, rfl, by simpa [needG, intV] using World.ownsRow_nil _ _ _ _, hM, hB, hmw⟩
        case round =>
          clear hM hB hmw
          obtain ⟨k, hk, rfl, hO, hM, hB, hmw⟩ := hrel
          by_cases hlt : k < len
          · obtain ⟨b, off, rfl, hbw, hcc⟩ := rs_g hR (by omega)
            have hks : k < gs.length := by rw [HLEN.out]; exact hlt
            obtain ⟨c0, c1, c2, c3⟩ := hcc k hks
            have hok := hgs _ (List.getElem_mem hks)
            have hsucc := needG_succ gs ws k hks
            have hnl := Nat.le_trans (needG_len (gs.take k) ws) (List.length_take_le k gs)
            obtain ⟨x, hx⟩ : ∃ x, x = gs[k] := ⟨_, rfl⟩
            rw [← hx] at c0 c1 c2 c3 hok hsucc
            have d0 := (hB.cell (p := ⟨b, off + k * 4, none⟩) hbw).trans c0
            have d1 := (hB.cell (p := ⟨b, off + k * 4 + 1, none⟩) hbw).trans c1
            have d2 := (hB.cell (p := ⟨b, off + k * 4 + 2, none⟩) hbw).trans c2
            have d3 := (hB.cell (p := ⟨b, off + k * 4 + 3, none⟩) hbw).trans c3
            obtain ⟨A, hA⟩ : ∃ A, A = needG (gs.take k) ws := ⟨_, rfl⟩
            rw [← hA] at hO hsucc hnl
            have hkg := keyOf_int_mk (P := Try.prog) (k := 3) Try.underlying3 hok.1
            have hkb := keyOf_int_mk (P := Try.prog) (k := 3) Try.underlying3 hok.2.1
            have hcg := HD'.out.2 x.gen
            have hcb := HD'.out.2 x.basis
            have hgm : 0 < ws.count x.gen ↔ x.gen ∈ ws := List.count_pos_iff
            have hbm : 0 < ws.count x.basis ↔ x.basis ∈ ws := List.count_pos_iff
            obtain ⟨cg, hcge⟩ : ∃ c, c = ws.count x.gen := ⟨_, rfl⟩
            obtain ⟨cb, hcbe⟩ : ∃ c, c = ws.count x.basis := ⟨_, rfl⟩
            rw [← hcge] at hcg hgm
            rw [← hcbe] at hcb hbm
            have HSU := Lib.hid hsucc
            have hMW : (wr.alloc (Obj.cells #[.int .i64 x.gen, .int .i64 x.basis, .int .i64 x.bytes, .string x.mark] 40)).ownsMap Try.prog 3 (plainElem Try.prog 3) m kk D := map_below hM hmw (below_alloc _ _)
            have hrg := look_int hMW hkg hcg
            have hrb := look_int hMW hkb hcb
            have HMWW := Lib.hid hMW
            clear hMW hcg hcb hkg hkb
            have HBW : Hid (Below w.heap.size w (wr.alloc (Obj.cells #[.int .i64 x.gen, .int .i64 x.basis, .int .i64 x.bytes, .string x.mark] 40))) := Lib.hid (hB.alloc hB.size _)
            have HMW : Hid (m < (wr.alloc (Obj.cells #[.int .i64 x.gen, .int .i64 x.basis, .int .i64 x.bytes, .string x.mark] 40)).heap.size) := Lib.hid (by simp; omega)
            clear c0 c1 c2 c3 hcc hx hsucc hcge hcbe hok hA hks
            have NOO : ∀ A', (needG (gs.take (k + 1)) ws) = A' → A' = A → Hid ((wr.alloc (Obj.cells #[.int .i64 x.gen, .int .i64 x.basis, .int .i64 x.bytes, .string x.mark] 40)).ownsRow (m + 1) 3 1 u10 (needG (gs.take (k + 1)) ws).length (intV (needG (gs.take (k + 1)) ws))) := by
              intro A' e1 e2
              rw [e1, e2]
              exact Lib.hid (hO.alloc _)
            by_cases hg : x.gen ∈ ws
            · have hg1 := hgm.2 hg
              by_cases hb : x.basis ∈ ws
              · have hb1 := hbm.2 hb
                have HN := NOO _ rfl (by rw [HSU.out, if_neg (by simp [hb])])
                clear hgm hbm hg hb hO hM hB hmw NOO
                go_wp2
                go_roundw
                case rel => exact ⟨k + 1, by omega, by go_num, HN.out, HMWW.out, HBW.out, HMW.out⟩
                case measure => simp [intOf]; omega
              · have hb0 : cb = 0 := by
                  rcases Nat.eq_zero_or_pos cb with h | h
                  · exact h
                  · exact absurd (hbm.1 h) hb
                subst hb0
                have hsu : needG (gs.take (k + 1)) ws = A ++ [x.gen] := by rw [HSU.out, if_pos ⟨hg, hb⟩]
                have HSU2 := Lib.hid hsu
                clear hgm hbm hg hb NOO hsu hB
                go_wp2_with ((at_builtin; refine wpList_append_own _ rfl _ _ 23 rfl (m + 1) 3 i0 (.int .i64 0) 1 8 Try.underlying23 hi hz0 hz1 hz2 rfl (by decide) _ _ _ rfl ((hO.alloc _).alloc _) ⟨wr.heap.size + 1, 0, none⟩ 1 1 [.int .i64 x.gen] rfl rfl (cell1_new2 _ _ _ _) (one1 _ rfl) (by unfold maxLen; omega) (by omega) (by simp; omega) ?_; intro v' w5 hO5 hg5 _))
                have hO6 : w5.ownsRow (m + 1) 3 1 v' (needG (gs.take (k + 1)) ws).length (intV (needG (gs.take (k + 1)) ws)) := by
                  rw [HSU2.out, List.length_append]; simpa [intV] using hO5
                have hrow : ∀ j, u10.ownBlock = some j → m + 1 ≤ j := fun j hj => (World.ownsRow.lt hO j hj).1
                have hM6 : w5.ownsMap Try.prog 3 (plainElem Try.prog 3) m kk D := (map_below HMWW.out HMW.out (below_alloc _ _)).kept hg5 (fun e' => by have := hrow m e'.symm; omega)
                have hB6 : Below w.heap.size w w5 := (HBW.out.alloc HBW.out.size _).grown hg5 (by have := HBW.out.size; simp at this ⊢; omega) (fun j hj => by have := hrow j hj; omega)
                have hm6 : m < w5.heap.size := by have := hg5.size; simp at this; omega
                clear hO5 hg5 hM hrg hrb hO
                go_wp2
                go_roundw
                case rel => exact ⟨k + 1, by omega, by go_num, hO6, hM6, hB6, hm6⟩
                case measure => simp [intOf]; omega
            · have hg0 : cg = 0 := by
                rcases Nat.eq_zero_or_pos cg with h | h
                · exact h
                · exact absurd (hgm.1 h) hg
              subst hg0
              have HN := NOO _ rfl (by rw [HSU.out, if_neg (by simp [hg])])
              clear hgm hbm hg hO hM hB hmw NOO
              go_wp2
              go_roundw
              case rel => exact ⟨k + 1, by omega, by go_num, HN.out, HMWW.out, HBW.out, HMW.out⟩
              case measure => simp [intOf]; omega
          · have htk : gs.take k = gs := List.take_of_length_le (by rw [HLEN.out]; omega)
            rw [htk, ← HLL.out] at hO
            clear htk
            go_wp2
            go_ret2
            exact ⟨_, rfl, owns_mono hO (by omega), hB⟩
  · have hE0 : E = chk gs := by rw [HE.out, needE, if_pos hc]
    have hne : (E != 0) = true := by rw [hE0]; simpa using hc
    have hL0 : L = [] := by rw [HL.out, needR, if_neg (by rw [← HE.out, hE0]; exact hc)]
    have HE0 := Lib.hid hE0
    clear hE0 HE HL hc
    subst hL0
    go_enter Try.func11, Try.ntmps11
    go_wp2_with fail
    refine (check_any _ _ _ _ _ hR hn).mono ?_
    rintro e w1 ⟨rfl, hb1⟩
    rw [← HE0.out]
    go_wp2
    go_ret2
    exact ⟨_, rfl, World.ownsRow_nil _ _ _ _, hb1⟩
end Go.Proofs.Ytoibbeiieelccaa
