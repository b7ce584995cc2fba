/- SignKept: the walk. Conditions: as named in the theorem. -/
import Derived.Test.YtfcfgkhdlpgbdaaTabRef
import Derived.Test.YtfcfgkhdlpgbdaaSignAwake
namespace Go.Proofs.Ytfcfgkhdlpgbdaa
open Go.RowKit
set_option linter.unusedVariables false

/-- a row with its first k numbers set to -7 -/
def sevens (l : List Int) (k : Nat) : List Int := l.mapIdx fun i x => if i < k then -7 else x
theorem sevens_len (l : List Int) (k : Nat) : (sevens l k).length = l.length := by simp [sevens]
theorem sevens_zero (l : List Int) : sevens l 0 = l := by
  apply List.ext_getElem (by simp [sevens]); intro i h1 h2; simp [sevens]
theorem sevens_succ (l : List Int) (k : Nat) : ((sevens l k).map (Value.int .i64)).set k (.int .i64 (-7)) = (sevens l (k + 1)).map (Value.int .i64) := by
  apply List.ext_getElem (by simp [sevens])
  intro i h1 h2
  simp only [List.getElem_set, List.getElem_map, sevens, List.getElem_mapIdx]
  by_cases e : k = i
  · subst e; simp
  · rw [if_neg e]
    by_cases q : i < k
    · rw [if_pos q, if_pos (by omega)]
    · rw [if_neg q, if_neg (by omega)]
/-- a number of a row of our own is set -/
theorem row_store {w : World} {base : Nat} {a : Option Addr} {n cap : Nat} {l : List Int} (h : RowI w base (.slice a n cap) l) (hl : l.length = n) {k : Nat} (hk : k < n) :
    ∃ g, a = some ⟨g, 0, none⟩ ∧ base ≤ g ∧ g < w.heap.size ∧ w.frozen? ⟨g, k, none⟩ = false ∧ (∃ x : Int, w.cell? ⟨g, k, none⟩ = some (.int .i64 x)) ∧ ∀ u, (w.setCell ⟨g, k, none⟩ u).ownsRow base 3 1 (.slice (some ⟨g, 0, none⟩) n cap) n ((l.map (Value.int .i64)).set k u) := by
  unfold RowI at h
  rw [hl] at h
  have h0 := h
  obtain ⟨-, ⟨h1, h2⟩ | ⟨g, c, cur, h1, h2, h3, -⟩⟩ := h
  · omega
  · injection h1 with h1 _ h4
    subst h1 h4
    refine ⟨g, rfl, h2, (Array.getElem?_eq_some_iff.1 h3).1, h0.frozenAt k, ?_, fun u => (h0.stored k u).1⟩
    have hc := h0.cellAt k (by omega)
    rw [List.getElem?_map, List.getElem?_eq_getElem (by omega)] at hc
    exact ⟨_, hc⟩

set_option maxRecDepth 100000 in
set_option maxHeartbeats 8000000 in
theorem signKept_walk (w : World) (c : Array Value) (o : Kd.ok w (.agg [.int .i64, .int .i64, .sl (.int .i64), .sl .str]) c.toList) (weak : Int) (wk : (Lit.int .i64 weak).wf = true) :
    Calls Try.prog 10 #[.agg c, .int .i64 weak] w fun e w' => e = .returned (.bool true) ∧ Below w.heap.size w w' := by
  obtain ⟨b, z, ao, n0, cap, bo, m0, cap2, W0, T0, rfl, wb, wz, hW0, hT0, hw0, ht0⟩ := sig_of o
  clear o
  have hn3 := (cut300_le n0).2
  have hm3 := (cut300_le m0).2
  have hW := hW0.few
  have hT := hT0.few
  have hw : ∀ x ∈ W0.take (cut300 n0), (Lit.int .i64 x).wf = true := fun x hx => hw0 x (List.mem_of_mem_take hx)
  have ht : ∀ x ∈ T0.take (cut300 m0), x.size ≤ maxLen := fun x hx => ht0 x (List.mem_of_mem_take hx)
  obtain ⟨V1, hV1⟩ : ∃ V, V = w.alloc (Obj.cells #[.int .i64 b, .int .i64 z, .slice ao n0 cap, .slice bo m0 cap2] 31) := ⟨_, rfl⟩
  obtain ⟨p1, hp1⟩ : ∃ p, p = w.heap.size := ⟨_, rfl⟩
  have hG1 : Blk V1 p1 [.int .i64 b, .int .i64 z, .slice ao n0 cap, .slice bo m0 cap2] 31 := by rw [hV1, hp1]; exact Blk.new _ _ _
  have hB1 : Below w.heap.size w V1 := by rw [hV1]; exact bel_alloc _ _
  have HF := Lib.hid (few_any V1 b z ao n0 cap bo m0 cap2 W0 T0 (hW0.next hB1) (hT0.next hB1))
  obtain ⟨n, hn⟩ : ∃ n, n = cut300 n0 := ⟨_, rfl⟩
  obtain ⟨m, hm⟩ : ∃ m, m = cut300 m0 := ⟨_, rfl⟩
  obtain ⟨W, hWe⟩ : ∃ W, W = W0.take n := ⟨_, rfl⟩
  obtain ⟨T, hTe⟩ : ∃ T, T = T0.take m := ⟨_, rfl⟩
  rw [← hn] at hW hw hn3 HF
  rw [← hm] at hT ht hm3 HF
  rw [← hWe] at hW hw
  rw [← hTe] at hT ht
  have HV1 := Lib.hid hV1
  have HP1 := Lib.hid hp1
  have HGB := Lib.hid (And.intro hG1 hB1)
  have HW := Lib.hid hW
  have HT := Lib.hid hT
  have Hw := Lib.hid hw
  have Ht := Lib.hid ht
  have c0 := hG1.cell (i := 0) rfl
  have c1 := hG1.cell (i := 1) rfl
  have c2 := hG1.cell (i := 2) rfl
  have c3 := hG1.cell (i := 3) rfl
  clear hV1 hp1 hG1 hB1 hW0 hT0 hw0 ht0 hn hm hWe hTe hW hT hw ht wk
  go_enter Try.func10, Try.ntmps10
  go_upto_region 1 with fail
  rw [← HP1.out, ← HV1.out]
  go_wp2_with fail
  refine HF.out.mono ?_
  rintro e w2 ⟨rfl, hb2⟩
  have hG2 := HGB.out.1.belowB hb2
  have HG2 := Lib.hid (And.intro hG2 (bl_nx HGB.out.2 hb2))
  have f0 := hG2.frozen 0
  have f1 := hG2.frozen 1
  have f2 := hG2.frozen 2
  have f3 := hG2.frozen 3
  have d0 := hG2.cell (i := 0) rfl
  have d1 := hG2.cell (i := 1) rfl
  have d2 := hG2.cell (i := 2) rfl
  have d3 := hG2.cell (i := 3) rfl
  clear c0 c1 c2 c3 hb2 hG2
  go_upto_region 2 with fail
  obtain ⟨V3, hV3⟩ : ∃ V, V = (((w2.setCell ⟨p1, 0, none⟩ (.int .i64 b)).setCell ⟨p1, 1, none⟩ (.int .i64 z)).setCell ⟨p1, 2, none⟩ (.slice ao n cap)).setCell ⟨p1, 3, none⟩ (.slice bo m cap2) := ⟨_, rfl⟩
  have hG3 : Blk V3 p1 [.int .i64 b, .int .i64 z, .slice ao n cap, .slice bo m cap2] 31 := by rw [hV3]; exact (((HG2.out.1.set 0 _).set 1 _).set 2 _).set 3 _
  have hB3 : Below w.heap.size w V3 := by
    have hp : w.heap.size ≤ p1 := by rw [HP1.out]; exact Nat.le_refl _
    rw [hV3]; exact (((HG2.out.2.setCell hp _).setCell hp _).setCell hp _).setCell hp _
  have HB3 := Lib.hid (And.intro hG3 hB3)
  rw [← hV3]
  have HV3 := Lib.hid hV3
  have c0 := hG3.cell (i := 0) rfl
  have c1 := hG3.cell (i := 1) rfl
  have c2 := hG3.cell (i := 2) rfl
  have c3 := hG3.cell (i := 3) rfl
  clear hV3 hG3 hB3 d0 d1 d2 d3 f0 f1 f2 f3 HF
  by_cases hok : sigOk b z W T
  · obtain ⟨B, rfl⟩ : ∃ B : Nat, b = B := ⟨b.toNat, by have := hok.1; omega⟩
    obtain ⟨Z, rfl⟩ : ∃ Z : Nat, z = Z := ⟨z.toNat, by have := hok.2.2.1; omega⟩
    have HC1 := Lib.hid (newTab_ok V3 B Z ao n cap bo m cap2 W T wb wz (HW.out.next HB3.out.2) (HT.out.next HB3.out.2) Hw.out Ht.out (by omega) (by omega) hok)
    have HRR : Hid (∀ wx, Below w.heap.size w wx → Calls Try.prog 28 #[.agg #[.int .i64 B, .int .i64 Z, .slice ao n cap, .slice bo m cap2]] wx fun e w' => e = .returned (.bool true) ∧ Below wx.heap.size wx w') := Lib.hid (fun wx h => (refRight_any wx B Z ao n cap bo m cap2 W T wb wz (HW.out.next h) (HT.out.next h) Hw.out Ht.out (by omega) (by omega)).mono fun _ _ ⟨h1, h2⟩ => ⟨ret_b h1 (by simp [hok]), h2⟩)
    obtain ⟨N, hN⟩ : ∃ N : Nat, Z / B = N := ⟨_, rfl⟩
    rw [hN] at HC1
    have hNn : N ≤ n := by
      have lW := HW.out.2.2.1
      have k5 := hok.2.2.2.2.1
      rw [← lW, k5, ← hN]
      simp only [Int.toNat_natCast]
      unfold cnt
      exact Nat.div_le_div_right (by have := hok.1; omega)
    have HRF : Hid (∀ wx, Below w.heap.size w wx → Calls Try.prog 39 #[.agg #[.int .i64 B, .int .i64 Z, .slice ao n cap, .slice bo m cap2], .int .i64 weak] wx fun e w' => ∃ v, e = .returned v ∧ RowI w' wx.heap.size v (findL W N weak) ∧ Below wx.heap.size wx w') := Lib.hid (fun wx h => refFind_any wx B Z N ao n cap _ ⟨_, _, _, rfl⟩ W weak (HW.out.next h) (by omega) (by have := hok.1; omega) (by have := hok.2.1; omega) (by have := hok.2.2.2.1; omega) hN hNn)
    clear hok hN
    go_wp2_with fail
    refine HC1.out.mono ?_
    rintro e w4 ⟨pt, vI, vS, kv, pv, f, rfl, hTab, hSrt, hInB, hb4⟩
    have hS4 : FinS w w4 p1 pt V3.heap.size B Z (.slice ao n cap) (.slice bo m cap2) vI vS kv pv W T (plc N f) := ⟨HB3.out.1.belowB hb4, hTab, bl_nx HB3.out.2 hb4⟩
    have HSI := Lib.hid (And.intro hSrt hInB)
    have hfl := findL_len W N weak
    clear hTab hSrt hInB hb4 c0 c1 c2 c3
    obtain ⟨c0, c1, c2, c3, hS4⟩ := hS4.limbs
    have HS4 := Lib.hid hS4
    clear hS4

    go_wp2_with fail
    refine (HRF.out _ HS4.out.bl).mono ?_
    rintro e w5 ⟨v5, rfl, hoR, hb5⟩
    obtain ⟨aR, kR, rfl⟩ := slice_ofI hoR
    have hs4 : w.heap.size ≤ w4.heap.size := HS4.out.bl.size
    have hS5 := HS4.out.next hb5
    have HOR := Lib.hid (And.intro (owns_mono hoR (Nat.le_refl _)) (World.ownsRow.lt hoR))
    have HS5 := Lib.hid hS5
    clear c0 c1 c2 c3 hb5 hoR hS5
    go_wp2_with fail
    refine (tabFind_any _ _ pt _ _ _ _ _ _ W T N f weak HS5.out.t HSI.out.1 HSI.out.2 (by omega)).mono ?_
    rintro e w6 ⟨v6, rfl, hoF, hb6⟩
    obtain ⟨aF, kF, rfl⟩ := slice_ofI hoF
    obtain ⟨l, hl⟩ : ∃ l, l = (findL W N weak).length := ⟨_, rfl⟩
    rw [← hl] at hoF ⊢
    have hl2 : l ≤ N := by rw [hl]; exact hfl
    have HOF := Lib.hid (And.intro hoF hb6)
    have HL := Lib.hid hl
    clear hoF hb6 hl hfl
    go_wp2_with fail
    go_loopw [9] (fun x wr => ∃ k : Nat, x = .int .i64 k ∧ k ≤ l ∧ RowI wr w5.heap.size (.slice aF l kF) (sevens (findL W N weak) k) ∧ Below w5.heap.size w5 wr) (fun x _ => l - (intOf x).toNat)
    case atStart => exact ⟨0, rfl, by omega, by rw [sevens_zero]; exact HOF.out.1, HOF.out.2⟩
    case round =>
      clear HOF
      obtain ⟨k, rfl, hk, hR, hB⟩ := hrel
      by_cases hlt : (k : Int) < (l : Int)
      · obtain ⟨g, rfl, hg, -, fg, ⟨x, cg⟩, hst⟩ := row_store hR (by rw [sevens_len, HL.out]) (by omega : k < l)
        have hst2 := hst (.int .i64 (-7))
        rw [sevens_succ] at hst2
        have hB2 := hB.setCell (p := ⟨g, k, none⟩) hg (.int .i64 (-7))
        have HST := Lib.hid (And.intro hst2 hB2)
        clear hst hst2 hB2 hR hB
        go_wp2
        go_roundw
        case rel => exact ⟨k + 1, by go_num, by omega, by unfold RowI; rw [sevens_len, ← HL.out]; exact HST.out.1, HST.out.2⟩
        case measure => simp [intOf]; omega
      · have HB := Lib.hid hB
        clear hR hB
        go_wp2_with fail
        refine (tabFind_any _ _ pt _ _ _ _ _ _ W T N f weak (HS5.out.next HB.out).t HSI.out.1 HSI.out.2 (by omega)).mono ?_
        rintro e w7 ⟨v7, rfl, hoG, hb7⟩
        obtain ⟨aG, kG, rfl⟩ := slice_ofI hoG
        have hoR7 : RowI w7 w4.heap.size (.slice aR (findL W N weak).length kR) (findL W N weak) := owns_next (owns_next HOR.out.1 HB.out) hb7
        have hin := ints_true w7 aG aR (findL W N weak).length kG kR (findL W N weak) (RowI.rs hoG rfl) (RowI.rs hoR7 rfl) (by have := HL.out; omega)
        rw [← HL.out] at hin
        have HIN := Lib.hid hin
        rw [← HL.out]
        have HB7 := Lib.hid ((HS5.out.next HB.out).next hb7).bl
        clear hoG hoR7 hb7 hin
        go_wp2_with fail
        refine HIN.out.mono ?_
        rintro e w8 ⟨rfl, hb8⟩
        go_wp2_with fail
        refine (awake_sign _).mono ?_
        rintro e w9 ⟨rfl, hb9⟩
        go_wp2
        go_ret
        exact ⟨rfl, bl_nx (bl_nx HB7.out hb8) hb9⟩

  · have HC1 := Lib.hid (newTab_bad V3 b z ao n cap bo m cap2 W T wb wz (HW.out.next HB3.out.2) (HT.out.next HB3.out.2) Hw.out Ht.out (by omega) (by omega) hok)
    have HRR : Hid (∀ wx, Below w.heap.size w wx → Calls Try.prog 28 #[.agg #[.int .i64 b, .int .i64 z, .slice ao n cap, .slice bo m cap2]] wx fun e w' => e = .returned (.bool false) ∧ Below wx.heap.size wx w') := Lib.hid (fun wx h => (refRight_any wx b z ao n cap bo m cap2 W T wb wz (HW.out.next h) (HT.out.next h) Hw.out Ht.out (by omega) (by omega)).mono fun _ _ ⟨h1, h2⟩ => ⟨ret_b h1 (by simp [hok]), h2⟩)
    clear hok
    go_wp2_with fail
    refine HC1.out.mono ?_
    rintro e w4 ⟨rfl, hb4⟩
    have hG4 := HB3.out.1.belowB hb4
    have HG4 := Lib.hid (And.intro hG4 (bl_nx HB3.out.2 hb4))
    clear c0 c1 c2 c3
    have c0 := hG4.cell (i := 0) rfl
    have c1 := hG4.cell (i := 1) rfl
    have c2 := hG4.cell (i := 2) rfl
    have c3 := hG4.cell (i := 3) rfl
    clear hb4 hG4

    go_wp2_with fail
    refine (awake_sign _).mono ?_
    rintro e w6 ⟨rfl, hb6⟩
    go_wp2
    go_ret
    exact ⟨rfl, bl_nx HG4.out.2 hb6⟩
end Go.Proofs.Ytfcfgkhdlpgbdaa
