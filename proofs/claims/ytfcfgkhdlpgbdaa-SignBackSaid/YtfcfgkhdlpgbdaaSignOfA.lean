/- sign.Of: the walk. Conditions: as named in each theorem. -/
import Derived.Test.YtfcfgkhdlpgbdaaSignOf
namespace Go.Proofs.Ytfcfgkhdlpgbdaa
open Go.RowKit
set_option linter.unusedVariables false

theorem errs_rd (w : World) (p : Nat) (s : ByteArray) (z : RSt) (h : RdB 110 w p s z) :
    Calls Try.prog 58 #[.pointer (some ⟨p, 0, none⟩)] w fun e' w' => e' = .returned (.int .i64 (z.2 : Nat)) ∧ w = w' := by
  obtain ⟨a, ha, hl, hb⟩ := h
  exact err_rd w p s a z.2 hb
theorem OfR.zeroed {T : TypeId} {w wr : World} {pz pr pg : Nat} {s : ByteArray} {b z : Int} {wv sv : Value} {LI : List Int} {LS : List ByteArray} {st : RSt} (h : OfR T w wr pz pr pg s b z wv sv LI LS st) (v0 v1 v2 v3 : Value) :
    Blk ((((wr.setCell ⟨pz, 0, none⟩ v0).setCell ⟨pz, 1, none⟩ v1).setCell ⟨pz, 2, none⟩ v2).setCell ⟨pz, 3, none⟩ v3) pz [v0, v1, v2, v3] 31 ∧ Below w.heap.size w ((((wr.setCell ⟨pz, 0, none⟩ v0).setCell ⟨pz, 1, none⟩ v1).setCell ⟨pz, 2, none⟩ v2).setCell ⟨pz, 3, none⟩ v3) :=
  ⟨(((h.zb.set 0 v0).set 1 v1).set 2 v2).set 3 v3, (((h.bl.setCell h.w0 _).setCell h.w0 _).setCell h.w0 _).setCell h.w0 _⟩
theorem OfR.rows {T : TypeId} {w wr : World} {pz pr pg : Nat} {s : ByteArray} {b z : Int} {wv sv : Value} {LI : List Int} {LS : List ByteArray} {st : RSt} (h : OfR T w wr pz pr pg s b z wv sv LI LS st) (v0 v1 v2 v3 : Value) :
    RowI ((((wr.setCell ⟨pz, 0, none⟩ v0).setCell ⟨pz, 1, none⟩ v1).setCell ⟨pz, 2, none⟩ v2).setCell ⟨pz, 3, none⟩ v3) (pg + 1) wv LI ∧ RowS ((((wr.setCell ⟨pz, 0, none⟩ v0).setCell ⟨pz, 1, none⟩ v1).setCell ⟨pz, 2, none⟩ v2).setCell ⟨pz, 3, none⟩ v3) (pg + 1) sv LS := by
  have hg : wr.grownBy ((((wr.setCell ⟨pz, 0, none⟩ v0).setCell ⟨pz, 1, none⟩ v1).setCell ⟨pz, 2, none⟩ v2).setCell ⟨pz, 3, none⟩ v3) (some pz) := grown_set (grown_set (grown_set (grown_set (grown_refl _ _) 0 v0) 1 v1) 2 v2) 3 v3
  have h2 := h.zr; have h3 := h.rg
  exact ⟨World.ownsRow.kept h.i hg (.inr fun e => by have := (World.ownsRow.lt h.i pz e).1; omega), World.ownsRow.kept h.s hg (.inr fun e => by have := (World.ownsRow.lt h.s pz e).1; omega)⟩
theorem rdMany_step {α : Type} (f : RSt → α × RSt) {n k : Nat} (z : RSt) (hk : k < n) : rdMany f (n - k) z = if (f z).2.2 = 0 then ((f z).1 :: (rdMany f (n - (k + 1)) (f z).2).1, (rdMany f (n - (k + 1)) (f z).2).2) else ([], (f z).2) := by
  rw [show n - k = (n - (k + 1)) + 1 by omega, rdMany]

set_option maxRecDepth 100000 in
set_option maxHeartbeats 4000000 in
theorem sgOf_any (w : World) (s : ByteArray) (hs : s.size ≤ 1000000) : Calls Try.prog 36 #[.string s] w (SgAns (sgOfP s.data.toList) w) := by
  obtain ⟨i0, hi, hz0, hz1, hz2⟩ := info_parts infoIntS
  obtain ⟨i1, hj, hy0, hy1, hy2⟩ := info_parts infoStrS
  have hsz := sigZ_run
  obtain ⟨V1, hV1⟩ : ∃ V, V = w.alloc (Obj.cells #[.int .i64 0, .int .i64 0, .slice none 0 0, .slice none 0 0] 31) := ⟨_, rfl⟩
  obtain ⟨pz, hpz⟩ : ∃ p, p = w.heap.size := ⟨_, rfl⟩
  have hZ1 : Blk V1 pz sigZ 31 := by rw [hV1, hpz]; exact Blk.new _ _ _
  have hB1 : Below w.heap.size w V1 := by rw [hV1]; exact bel_alloc _ _
  have HZ1 := Lib.hid (And.intro hZ1 hB1)
  have HV1 := Lib.hid hV1
  have HPZ := Lib.hid hpz
  obtain ⟨P, hP⟩ : ∃ P, P = sgOfP s.data.toList := ⟨_, rfl⟩
  rw [← hP]
  unfold sgOfP at hP
  obtain ⟨R1, hR1⟩ : ∃ R, R = stNum (s.data.toList, 0) := ⟨_, rfl⟩
  have hbA := stNum_le (s.data.toList, 0)
  rw [← hR1] at hP hbA
  obtain ⟨A, z1⟩ := R1
  simp only at hP hbA
  obtain ⟨R2, hR2⟩ : ∃ R, R = stNum z1 := ⟨_, rfl⟩
  have hbZ := stNum_le z1
  rw [← hR2] at hP hbZ
  obtain ⟨Z, st⟩ := R2
  simp only at hP hbZ
  have HP := Lib.hid hP
  have HR1 := Lib.hid hR1
  have HR2 := Lib.hid hR2
  clear hP hR1 hR2 hZ1 hB1 hV1 hpz
  go_enter Try.func36, Try.ntmps36
  go_upto_region 1 with fail
  rw [← HPZ.out, ← HV1.out]
  go_wp2_with fail
  refine (read_any V1 s).mono ?_
  rintro e w2 ⟨rfl, hr2, hb2⟩
  obtain ⟨pr, hpr⟩ : ∃ p, p = V1.heap.size := ⟨_, rfl⟩
  rw [← hpr] at hr2
  rw [← hpr]
  have HPR := Lib.hid hpr
  have H2 := Lib.hid (And.intro hr2 (And.intro (HZ1.out.1.belowW hb2) (bl_next HZ1.out.2 hb2)))
  clear hr2 hb2 hpr
  go_wp2_with fail
  refine (num_rd w2 pr s _ (by omega) H2.out.1).mono ?_
  rw [← HR1.out]
  rintro e w3 ⟨rfl, hr3, hg3⟩
  simp only at hr3 ⊢
  have H3 := Lib.hid (And.intro hr3 (And.intro (H2.out.2.1.grown hg3 (by have := HZ1.out.1.lt; have := HPR.out; simp; omega)) (bl_grow H2.out.2.2 hg3 (by have := HZ1.out.2.size; have := HPR.out; omega))))
  clear hr3 hg3
  go_wp2_with fail
  refine (num_rd w3 pr s _ (by omega) H3.out.1).mono ?_
  rw [← HR2.out]
  rintro e w4 ⟨rfl, hr4, hg4⟩
  simp only at hr4 ⊢
  have H4 := Lib.hid (And.intro hr4 (And.intro (H3.out.2.1.grown hg4 (by have := HZ1.out.1.lt; have := HPR.out; simp; omega)) (bl_grow H3.out.2.2 hg4 (by have := HZ1.out.2.size; have := HPR.out; omega))))
  clear hr4 hg4
  obtain ⟨V5, hV5⟩ : ∃ V, V = w4.alloc (Obj.cells #[.int .i64 A, .int .i64 Z, .slice none 0 0, .slice none 0 0] 31) := ⟨_, rfl⟩
  obtain ⟨pg, hpg⟩ : ∃ p, p = w4.heap.size := ⟨_, rfl⟩
  have HR : Hid (OfR 110 w V5 pz pr pg s A Z (.slice none 0 0) (.slice none 0 0) [] [] st) := by
    have h1 := H4.out.1.lt
    have h2 := HZ1.out.1.lt
    have h3 := HPR.out
    have h4 := HPZ.out
    rw [hV5, hpg]
    exact Lib.hid ⟨H4.out.2.1.alloc _, Blk.new w4 _ _, H4.out.1.grown (World.grownBy_alloc w4 _ none) (by simp), World.ownsRow_nil _ _ _ _, World.ownsRow_nil _ _ _ _, (fun j hj => by simp [Value.ownBlock] at hj), bl_alloc H4.out.2.2 _, by omega, by omega, by omega⟩
  have HV5 := Lib.hid hV5
  have HPG := Lib.hid hpg
  clear hV5 hpg
  go_upto_region 3 with fail
  rw [← HPG.out, ← HV5.out]
  go_wp2_with fail
  refine (errs_rd _ pr s st HR.out.r).mono ?_
  rintro e w6 ⟨rfl, rfl⟩
  by_cases hst : st.2 = 0
  · have d1 : (((st.2 : Nat) : Int) != 0) = false := by simp [hst]
    have hP2 := HP.out
    rw [if_pos hst] at hP2
    have HST := Lib.hid hst
    have g0 := HR.out.g.cell (i := 0) rfl
    have g1 := HR.out.g.cell (i := 1) rfl
    by_cases hf : 16 ≤ A ∧ A ≤ 1024
    · by_cases hz : Z ≤ 524288
      · rw [if_pos ⟨hf.1, hf.2, hz⟩] at hP2
        obtain ⟨n, hn⟩ : ∃ n, n = cnt Z A := ⟨_, rfl⟩
        have HC : Hid (∀ w, Calls Try.prog 42 #[.int .i64 Z, .int .i64 A] w fun e w' => e = .returned (.int .i64 (n : Nat)) ∧ w = w') := Lib.hid (fun w => by rw [hn]; exact sgCount_any w Z A hz hf.1 hf.2)
        have hnb : n ≤ 524288 := by rw [hn]; exact Nat.le_trans (cnt_le (by omega)) hz
        rw [← hn] at hP2
        have hff : decide (16 ≤ (A : Int) ∧ (A : Int) ≤ 1024) = true := by simp; omega
        have HF := Lib.hid hff
        have d2 : decide ((524288 : Int) < (Z : Int)) = false := by simp; omega
        obtain ⟨RW, hRW⟩ : ∃ R, R = rdMany cntI n st := ⟨_, rfl⟩
        rw [← hRW] at hP2
        have HP2 := Lib.hid hP2
        have HRW := Lib.hid hRW
        clear hP2 HP hff hn hRW hst
        go_wp2_with fail
        refine (sgFits_any _ A true HF.out).mono ?_
        rintro e w7 ⟨rfl, rfl⟩
        go_wp2_with fail
        refine (HC.out _).mono ?_
        rintro e w7 ⟨rfl, rfl⟩
        go_wp2_with fail
        go_loopw [39] (fun i wr => ∃ (k : Nat) (wv : Value) (LI : List Int) (z : RSt), i = .int .i64 k ∧ k ≤ n ∧ OfR 110 w wr pz pr pg s A Z wv (.slice none 0 0) LI [] z ∧ z.2 = 0 ∧ LI.length = k ∧ RW = (LI ++ (rdMany cntI (n - k) z).1, (rdMany cntI (n - k) z).2)) (fun i _ => n - (intOf i).toNat)
        case atStart => exact ⟨0, _, [], st, rfl, by omega, HR.out, HST.out, rfl, by rw [HRW.out]; rfl⟩
        case round =>
          clear HR HST g0 g1 HRW
          obtain ⟨k, wv, LI, z, rfl, hk, hR, hz0', hLk, hRk⟩ := hrel
          by_cases hlt : k < n
          · have HCN := Lib.hid (count_rd wr pr s z 4294967295 (by decide) (by omega) hR.r)
            have hstep := rdMany_step cntI z hlt
            rw [hstep] at hRk
            obtain ⟨Q, hQ⟩ : ∃ Q, Q = stCount 4294967295 z := ⟨_, rfl⟩
            have hcI : cntI z = ((((stCount 4294967295 z).1 : Nat) : Int), (stCount 4294967295 z).2) := rfl
            rw [← hQ] at hcI HCN
            rw [hcI] at hRk
            obtain ⟨X, z1'⟩ := Q
            simp only at hRk HCN
            have hXb : z1'.2 = 0 → X ≤ 4294967295 := by
              intro h
              have := stCount_le 4294967295 z
              rw [← hQ] at this
              exact this h
            have HRK := Lib.hid hRk
            have HR := Lib.hid hR
            have HLK := Lib.hid hLk
            have HXB := Lib.hid hXb
            clear hRk hR hLk hstep hcI hQ hXb
            go_wp2_with fail
            refine HCN.out.mono ?_
            rintro e w8 ⟨rfl, hr8, hg8⟩
            have HR8 := Lib.hid (HR.out.read hr8 hg8)
            clear hr8 hg8 HR HCN
            go_wp2_with fail
            refine (errs_rd _ pr s z1' HR8.out.r).mono ?_
            rintro e w9 ⟨rfl, rfl⟩
            by_cases hz1e : z1'.2 = 0
            · have d4 : (((z1'.2 : Nat) : Int) != 0) = false := by simp [hz1e]
              have hRK := HRK.out
              rw [if_pos hz1e] at hRK
              have hRK2 : RW = ((LI ++ [(X : Int)]) ++ (rdMany cntI (n - (k + 1)) z1').1, (rdMany cntI (n - (k + 1)) z1').2) := by rw [hRK, List.append_assoc]; rfl
              have HRK2 := Lib.hid hRK2
              have HZ1E := Lib.hid hz1e
              clear hRK hRK2 HRK hz1e
              obtain ⟨aw, kw, rfl⟩ := slice_of HR8.out.i
              have g2 := HR8.out.g.cell (i := 2) rfl
              have hpgl := HR8.out.g.lt
              have HIa : Hid (w8.ownsRow (pg + 1) 3 1 (.slice aw LI.length kw) LI.length (LI.map (Value.int .i64))) := Lib.hid HR8.out.i
              go_wp2_with (at_builtin; refine wpList_append_own_at _ rfl _ _ 28 rfl (pg + 1) 3 i0 (.int .i64 0) 1 8 Try.underlying28 hi hz0 hz1 hz2 rfl (by decide) _ LI.length (LI.map (Value.int .i64)) rfl (World.ownsRow.alloc HIa.out _) ⟨w8.heap.size, 0, none⟩ 1 1 [.int .i64 X] rfl rfl (cell1_new _ _ _) (one1 _ rfl) (by rw [HLK.out]; unfold maxLen; omega) (by rw [HLK.out]; omega) (by simp; omega) ?_)
              intro v5 w5 hO5 hg5 _ hrb
              obtain ⟨ao5, cap5, rfl⟩ := slice_of hO5
              have hR5 := (HR8.out.alloc _).weak hO5 hg5 (hrb.imp id (fun e => ⟨_, (fun h => by have := (World.ownsRow.lt HR8.out.s _ h).2; omega), e⟩))
              have hG5 := (HR8.out.alloc (.cells #[.int .i64 X] 3)).g.grown hg5 (fun e => by have := (World.ownsRow.lt HIa.out pg e.symm).1; omega)
              have c5 := hG5.cell (i := 2) rfl
              have f5 := hG5.frozen 2
              have HR5 := Lib.hid hR5
              clear hR5 hG5 hO5 hg5 hrb g2 HIa HR8
              go_wp2
              go_roundw
              case rel => exact ⟨k + 1, _, LI ++ [(X : Int)], z1', by go_num, by omega, HR5.out, HZ1E.out, by rw [List.length_append, HLK.out]; rfl, HRK2.out⟩
              case measure => simp [intOf]; omega
            · have d4 : (((z1'.2 : Nat) : Int) != 0) = true := by simp [hz1e]
              have hRK := HRK.out
              rw [if_neg hz1e] at hRK
              have hPe : P = sgBad z1'.2 := by
                rw [HP2.out, hRK]
                unfold sgOfW
                simp only
                rw [if_neg hz1e]
              have HPE := Lib.hid hPe
              clear hRK HRK hz1e hPe
              have zc0 := HR8.out.zb.cell (i := 0) rfl
              have f0 := HR8.out.zb.frozen 0
              have zc1 := HR8.out.zb.cell (i := 1) rfl
              have f1 := HR8.out.zb.frozen 1
              have zc2 := HR8.out.zb.cell (i := 2) rfl
              have f2 := HR8.out.zb.frozen 2
              have zc3 := HR8.out.zb.cell (i := 3) rfl
              have f3 := HR8.out.zb.frozen 3
              go_wp2_with fail
              refine (errs_rd _ pr s z1' HR8.out.r).mono ?_
              rintro e w9 ⟨rfl, rfl⟩
              go_wp2
              refine bodyPost_ret (res_cell_row rfl _ _ pz 31 _ (0, 0) _ rfl (HR8.out.zeroed _ _ _ _).1 Try.underlying31 rfl (by kernel_rfl)) rfl ?_
              rw [HPE.out]
              exact SgAns.bad (HR8.out.zeroed _ _ _ _).2
          · have hkn : k = n := by omega
            have hRk2 : RW = (LI, z) := by rw [hRk, show n - k = 0 by omega, rdMany]; simp
            have hP3 : P = sgOfT A Z LI (rdMany rawB n z) := by rw [HP2.out, hRk2]; unfold sgOfW; simp only; rw [if_pos hz0']
            obtain ⟨RT, hRT⟩ : ∃ R, R = rdMany rawB n z := ⟨_, rfl⟩
            rw [← hRT] at hP3
            have HP3 := Lib.hid hP3
            have HRT := Lib.hid hRT
            have HR := Lib.hid hR
            have HZ0 := Lib.hid hz0'
            have HLN : Hid (LI.length = n) := Lib.hid (by rw [hLk, hkn])
            clear hRk hRk2 hP3 hRT hR hz0' hLk hkn HP2
            go_wp2_with fail
            go_loopw [57] (fun i wr => ∃ (j : Nat) (sv : Value) (LS : List ByteArray) (y : RSt), i = .int .i64 j ∧ j ≤ n ∧ OfR 110 w wr pz pr pg s A Z wv sv LI LS y ∧ y.2 = 0 ∧ LS.length = j ∧ RT = (LS ++ (rdMany rawB (n - j) y).1, (rdMany rawB (n - j) y).2)) (fun i _ => n - (intOf i).toNat)
            case atStart => exact ⟨0, _, [], z, rfl, by omega, HR.out, HZ0.out, rfl, by rw [HRT.out]; rfl⟩
            case round =>
              clear HR HZ0 HRT
              obtain ⟨j, sv, LS, y, rfl, hjn, hR, hy0', hLj, hRj⟩ := hrel
              by_cases hlt2 : j < n
              · have HRN := Lib.hid (raw_rd wr pr s y 32 (by decide) (by omega) hR.r)
                have hstep := rdMany_step rawB y hlt2
                rw [hstep] at hRj
                obtain ⟨Q, hQ⟩ : ∃ Q, Q = stRaw 32 y := ⟨_, rfl⟩
                have hcI : rawB y = (mkB (stRaw 32 y).1, (stRaw 32 y).2) := rfl
                rw [← hQ] at hcI HRN
                rw [hcI] at hRj
                obtain ⟨X0, y1⟩ := Q
                simp only at hRj HRN
                obtain ⟨X, hX⟩ : ∃ X, X = mkB X0 := ⟨_, rfl⟩
                rw [← hX] at hRj HRN
                have HRK := Lib.hid hRj
                have HR := Lib.hid hR
                have HLJ := Lib.hid hLj
                clear hRj hR hLj hstep hcI hQ hX
                go_wp2_with fail
                refine HRN.out.mono ?_
                rintro e w8 ⟨rfl, hr8, hg8⟩
                have HR8 := Lib.hid (HR.out.read hr8 hg8)
                clear hr8 hg8 HR HRN
                go_wp2_with fail
                refine (errs_rd _ pr s y1 HR8.out.r).mono ?_
                rintro e w9 ⟨rfl, rfl⟩
                by_cases hy1e : y1.2 = 0
                · have d4 : (((y1.2 : Nat) : Int) != 0) = false := by simp [hy1e]
                  have hRK := HRK.out
                  rw [if_pos hy1e] at hRK
                  have hRK2 : RT = ((LS ++ [X]) ++ (rdMany rawB (n - (j + 1)) y1).1, (rdMany rawB (n - (j + 1)) y1).2) := by rw [hRK, List.append_assoc]; rfl
                  have HRK2 := Lib.hid hRK2
                  have HY1E := Lib.hid hy1e
                  clear hRK hRK2 HRK hy1e
                  obtain ⟨aw, kw, rfl⟩ := slice_of HR8.out.s
                  have g3 := HR8.out.g.cell (i := 3) rfl
                  have hpgl := HR8.out.g.lt
                  have HIa : Hid (w8.ownsRow (pg + 1) 9 1 (.slice aw LS.length kw) LS.length (LS.map Value.string)) := Lib.hid HR8.out.s
                  go_wp2_with (at_builtin; refine wpList_append_own_at _ rfl _ _ 29 rfl (pg + 1) 9 i1 (.string ByteArray.empty) 1 16 Try.underlying29 hj hy0 hy1 hy2 rfl (by decide) _ LS.length (LS.map Value.string) rfl (World.ownsRow.alloc HIa.out _) ⟨w8.heap.size, 0, none⟩ 1 1 [.string X] rfl rfl (cell1_new _ _ _) (one1 _ rfl) (by rw [HLJ.out]; unfold maxLen; omega) (by rw [HLJ.out]; omega) (by simp; omega) ?_)
                  intro v5 w5 hO5 hg5 _ hrb
                  obtain ⟨ao5, cap5, rfl⟩ := slice_of hO5
                  have hR5 := (HR8.out.alloc _).strong hO5 hg5 (hrb.imp id (fun e => ⟨_, (fun h => by have := (World.ownsRow.lt HR8.out.i _ h).2; omega), e⟩))
                  have hG5 := (HR8.out.alloc (.cells #[.string X] 9)).g.grown hg5 (fun e => by have := (World.ownsRow.lt HIa.out pg e.symm).1; omega)
                  have c5 := hG5.cell (i := 3) rfl
                  have f5 := hG5.frozen 3
                  have HR5 := Lib.hid hR5
                  clear hR5 hG5 hO5 hg5 hrb g3 HIa HR8
                  go_wp2
                  go_roundw
                  case rel => exact ⟨j + 1, _, LS ++ [X], y1, by go_num, by omega, HR5.out, HY1E.out, by rw [List.length_append, HLJ.out]; rfl, HRK2.out⟩
                  case measure => simp [intOf]; omega
                · have d4 : (((y1.2 : Nat) : Int) != 0) = true := by simp [hy1e]
                  have hRK := HRK.out
                  rw [if_neg hy1e] at hRK
                  have hPe : P = sgBad y1.2 := by
                    rw [HP3.out, hRK]
                    unfold sgOfT
                    simp only
                    rw [if_neg hy1e]
                  have HPE := Lib.hid hPe
                  clear hRK HRK hy1e hPe
                  have zc0 := HR8.out.zb.cell (i := 0) rfl
                  have f0 := HR8.out.zb.frozen 0
                  have zc1 := HR8.out.zb.cell (i := 1) rfl
                  have f1 := HR8.out.zb.frozen 1
                  have zc2 := HR8.out.zb.cell (i := 2) rfl
                  have f2 := HR8.out.zb.frozen 2
                  have zc3 := HR8.out.zb.cell (i := 3) rfl
                  have f3 := HR8.out.zb.frozen 3
                  go_wp2_with fail
                  refine (errs_rd _ pr s y1 HR8.out.r).mono ?_
                  rintro e w9 ⟨rfl, rfl⟩
                  go_wp2
                  refine bodyPost_ret (res_cell_row rfl _ _ pz 31 _ (0, 0) _ rfl (HR8.out.zeroed _ _ _ _).1 Try.underlying31 rfl (by kernel_rfl)) rfl ?_
                  rw [HPE.out]
                  exact SgAns.bad (HR8.out.zeroed _ _ _ _).2
              · have hjn2 : j = n := by omega
                have hRj2 : RT = (LS, y) := by rw [hRj, show n - j = 0 by omega, rdMany]; simp
                obtain ⟨E, hE⟩ : ∃ E, E = stEnd y := ⟨_, rfl⟩
                have hP4 : P = if E.2 = 0 then (A, Z, LI, LS, 0) else sgBad E.2 := by rw [HP3.out, hRj2]; unfold sgOfT; simp only; rw [if_pos hy0', ← hE]
                have HP4 := Lib.hid hP4
                clear hP4
                have HEN := Lib.hid (end_rd wr pr s y (by omega) hR.r)
                rw [← hE] at HEN
                have HR := Lib.hid hR
                clear hRj hRj2 hR hy0' hE HP3
                go_wp2_with fail
                refine HEN.out.mono ?_
                rintro e w8 ⟨rfl, hr8, hg8⟩
                have HR8 := Lib.hid (HR.out.read hr8 hg8)
                clear hr8 hg8 HR HEN
                have zc0 := HR8.out.zb.cell (i := 0) rfl
                have f0 := HR8.out.zb.frozen 0
                have zc1 := HR8.out.zb.cell (i := 1) rfl
                have f1 := HR8.out.zb.frozen 1
                have zc2 := HR8.out.zb.cell (i := 2) rfl
                have f2 := HR8.out.zb.frozen 2
                have zc3 := HR8.out.zb.cell (i := 3) rfl
                have f3 := HR8.out.zb.frozen 3
                by_cases hEe : E.2 = 0
                · have d4 : (((E.2 : Nat) : Int) != 0) = false := by simp [hEe]
                  have hP4 := HP4.out
                  rw [if_pos hEe] at hP4
                  have HP4 := Lib.hid hP4
                  have HLJ := Lib.hid hLj
                  obtain ⟨aw, kw, rfl⟩ := slice_of HR8.out.i
                  obtain ⟨av, kv, rfl⟩ := slice_of HR8.out.s
                  have g0 := HR8.out.g.cell (i := 0) rfl
                  have g1 := HR8.out.g.cell (i := 1) rfl
                  have g2 := HR8.out.g.cell (i := 2) rfl
                  have g3 := HR8.out.g.cell (i := 3) rfl
                  clear hP4 hEe hLj
                  go_wp2
                  refine bodyPost_ret (res_cell_row rfl _ _ pz 31 _ (0, 0) _ rfl (HR8.out.zeroed _ _ _ _).1 Try.underlying31 rfl (by kernel_rfl)) rfl ?_
                  rw [HP4.out]
                  obtain ⟨q1, q2⟩ := HR8.out.rows (.int .i64 A) (.int .i64 Z) (.slice aw LI.length kw) (.slice av LS.length kv)
                  exact ⟨aw, kw, av, kv, rfl, RowI.rs q1 rfl, RowS.rs q2 rfl, (HR8.out.zeroed _ _ _ _).2⟩
                · have d4 : (((E.2 : Nat) : Int) != 0) = true := by simp [hEe]
                  have hP4 := HP4.out
                  rw [if_neg hEe] at hP4
                  have HP4 := Lib.hid hP4
                  clear hP4 hEe hLj
                  go_wp2
                  refine bodyPost_ret (res_cell_row rfl _ _ pz 31 _ (0, 0) _ rfl (HR8.out.zeroed _ _ _ _).1 Try.underlying31 rfl (by kernel_rfl)) rfl ?_
                  rw [HP4.out]
                  exact SgAns.bad (HR8.out.zeroed _ _ _ _).2
      · rw [if_neg (fun h => hz h.2.2)] at hP2
        have HP2 := Lib.hid hP2
        have hff : decide (16 ≤ (A : Int) ∧ (A : Int) ≤ 1024) = true := by simp; omega
        have HF := Lib.hid hff
        have d2 : decide ((524288 : Int) < (Z : Int)) = true := by simp; omega
        clear hP2 HP hff
        have zc0 := HR.out.zb.cell (i := 0) rfl
        have f0 := HR.out.zb.frozen 0
        have zc1 := HR.out.zb.cell (i := 1) rfl
        have f1 := HR.out.zb.frozen 1
        have zc2 := HR.out.zb.cell (i := 2) rfl
        have f2 := HR.out.zb.frozen 2
        have zc3 := HR.out.zb.cell (i := 3) rfl
        have f3 := HR.out.zb.frozen 3
        go_wp2_with fail
        refine (sgFits_any _ A true HF.out).mono ?_
        rintro e w7 ⟨rfl, rfl⟩
        go_wp2
        refine bodyPost_ret (res_cell_row rfl _ _ pz 31 _ (0, 0) _ rfl (HR.out.zeroed _ _ _ _).1 Try.underlying31 rfl (by kernel_rfl)) rfl ?_
        rw [HP2.out]
        exact SgAns.bad (HR.out.zeroed _ _ _ _).2
    · rw [if_neg (fun h => hf ⟨h.1, h.2.1⟩)] at hP2
      have HP2 := Lib.hid hP2
      have hff : decide (16 ≤ (A : Int) ∧ (A : Int) ≤ 1024) = false := by simp; omega
      have HF := Lib.hid hff
      clear hP2 HP hff
      have zc0 := HR.out.zb.cell (i := 0) rfl
      have f0 := HR.out.zb.frozen 0
      have zc1 := HR.out.zb.cell (i := 1) rfl
      have f1 := HR.out.zb.frozen 1
      have zc2 := HR.out.zb.cell (i := 2) rfl
      have f2 := HR.out.zb.frozen 2
      have zc3 := HR.out.zb.cell (i := 3) rfl
      have f3 := HR.out.zb.frozen 3
      go_wp2_with fail
      refine (sgFits_any _ A false HF.out).mono ?_
      rintro e w7 ⟨rfl, rfl⟩
      go_wp2
      refine bodyPost_ret (res_cell_row rfl _ _ pz 31 _ (0, 0) _ rfl (HR.out.zeroed _ _ _ _).1 Try.underlying31 rfl (by kernel_rfl)) rfl ?_
      rw [HP2.out]
      exact SgAns.bad (HR.out.zeroed _ _ _ _).2
  · have d1 : (((st.2 : Nat) : Int) != 0) = true := by simp [hst]
    have hP2 := HP.out
    rw [if_neg hst] at hP2
    have HP2 := Lib.hid hP2
    clear hP2 HP
    have zc0 := HR.out.zb.cell (i := 0) rfl
    have f0 := HR.out.zb.frozen 0
    have zc1 := HR.out.zb.cell (i := 1) rfl
    have f1 := HR.out.zb.frozen 1
    have zc2 := HR.out.zb.cell (i := 2) rfl
    have f2 := HR.out.zb.frozen 2
    have zc3 := HR.out.zb.cell (i := 3) rfl
    have f3 := HR.out.zb.frozen 3
    go_wp2_with fail
    refine (errs_rd _ pr s st HR.out.r).mono ?_
    rintro e w6 ⟨rfl, rfl⟩
    go_wp2
    refine bodyPost_ret (res_cell_row rfl _ _ pz 31 _ (0, 0) _ rfl (HR.out.zeroed _ _ _ _).1 Try.underlying31 rfl (by kernel_rfl)) rfl ?_
    rw [HP2.out]
    exact SgAns.bad (HR.out.zeroed _ _ _ _).2
end Go.Proofs.Ytfcfgkhdlpgbdaa
