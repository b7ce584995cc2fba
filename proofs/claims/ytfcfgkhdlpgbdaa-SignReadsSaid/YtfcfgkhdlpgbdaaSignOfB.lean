/- the reference's Of of a signature: the walk. Conditions: as named in each theorem. -/
import Derived.Test.YtfcfgkhdlpgbdaaSignOfA
namespace Go.Proofs.Ytfcfgkhdlpgbdaa
open Go.RowKit
set_option linter.unusedVariables false

/-- a loop's state: so many are read, or an error came -/
def LoopI {α : Type} (f : RSt → α × RSt) (n k : Nat) (R : List α × RSt) (L : List α) (z : RSt) : Prop :=
  L.length ≤ k ∧ ((z.2 = 0 ∧ L.length = k ∧ R = (L ++ (rdMany f (n - k) z).1, (rdMany f (n - k) z).2)) ∨ (z.2 ≠ 0 ∧ R.2 = z))
theorem LoopI.start {α : Type} (f : RSt → α × RSt) (n : Nat) (z : RSt) (h : z.2 = 0) : LoopI f n 0 (rdMany f n z) [] z := ⟨Nat.le_refl _, .inl ⟨h, rfl, rfl⟩⟩
theorem LoopI.step {α : Type} {f : RSt → α × RSt} {n k : Nat} {R : List α × RSt} {L : List α} {z : RSt} (h : LoopI f n k R L z) (hk : k < n) (h0 : z.2 = 0) : LoopI f n (k + 1) R (L ++ [(f z).1]) (f z).2 := by
  obtain ⟨hl, h | h⟩ := h
  · obtain ⟨_, h2, h3⟩ := h
    refine ⟨by simp; omega, ?_⟩
    rw [rdMany_step f z hk] at h3
    by_cases he : (f z).2.2 = 0
    · rw [if_pos he] at h3
      exact .inl ⟨he, by simp; omega, by rw [h3, List.append_assoc]; rfl⟩
    · rw [if_neg he] at h3
      exact .inr ⟨he, by rw [h3]⟩
  · exact absurd h0 h.1
theorem LoopI.full {α : Type} {f : RSt → α × RSt} {n : Nat} {R : List α × RSt} {L : List α} {z : RSt} (h : LoopI f n n R L z) (h0 : z.2 = 0) : L.length = n ∧ R = (L, z) := by
  obtain ⟨hl, h | h⟩ := h
  · obtain ⟨_, h2, h3⟩ := h
    refine ⟨h2, ?_⟩
    rw [h3, show n - n = 0 by omega, rdMany]; simp
  · exact absurd h0 h.1
theorem LoopI.err {α : Type} {f : RSt → α × RSt} {n k : Nat} {R : List α × RSt} {L : List α} {z : RSt} (h : LoopI f n k R L z) (h0 : z.2 ≠ 0) : R.2 = z := by
  obtain ⟨hl, h | h⟩ := h
  · exact absurd h.1 h0
  · exact h.2
theorem rnum_is (w : World) (p : Nat) (s : ByteArray) (z : RSt) (N : Nat) (z' : RSt) (hs : s.size ≤ 1000000000) (he : (N, z') = stNum z) (h : RdB 96 w p s z) :
    Calls Try.prog 62 #[.pointer (some ⟨p, 0, none⟩)] w fun e w' => e = .returned (.int .i64 (N : Nat)) ∧ RdB 96 w' p s z' ∧ w.grownBy w' (some p) := by
  have := rnum_rd w p s z hs h
  rw [← he] at this
  exact this
theorem OfR.num {T : TypeId} {w wr : World} {pz pr pg : Nat} {s : ByteArray} {b z : Int} {wv sv : Value} {LI : List Int} {LS : List ByteArray} {st : RSt} (h : OfR T w wr pz pr pg s b z wv sv LI LS st) (b' : Int) : OfR T w (wr.setCell ⟨pg, 0, none⟩ (.int .i64 b')) pz pr pg s b' z wv sv LI LS st := by
  have h1 := h.w0; have h2 := h.zr; have h3 := h.rg
  have hgs : wr.grownBy (wr.setCell ⟨pg, 0, none⟩ (.int .i64 b')) (some pg) := grown_set (grown_refl _ _) 0 _
  exact ⟨h.zb.setOther (by simp; omega) _, h.g.set 0 _, h.r.grown hgs (by simp; omega), World.ownsRow.kept h.i hgs (.inr fun e => by have := (World.ownsRow.lt h.i pg e).1; omega), World.ownsRow.kept h.s hgs (.inr fun e => by have := (World.ownsRow.lt h.s pg e).1; omega), h.ap, bl_grow h.bl hgs (by omega), h1, h2, h3⟩
theorem OfR.num1 {T : TypeId} {w wr : World} {pz pr pg : Nat} {s : ByteArray} {b z : Int} {wv sv : Value} {LI : List Int} {LS : List ByteArray} {st : RSt} (h : OfR T w wr pz pr pg s b z wv sv LI LS st) (z' : Int) : OfR T w (wr.setCell ⟨pg, 1, none⟩ (.int .i64 z')) pz pr pg s b z' wv sv LI LS st := by
  have h1 := h.w0; have h2 := h.zr; have h3 := h.rg
  have hgs : wr.grownBy (wr.setCell ⟨pg, 1, none⟩ (.int .i64 z')) (some pg) := grown_set (grown_refl _ _) 1 _
  exact ⟨h.zb.setOther (by simp; omega) _, h.g.set 1 _, h.r.grown hgs (by simp; omega), World.ownsRow.kept h.i hgs (.inr fun e => by have := (World.ownsRow.lt h.i pg e).1; omega), World.ownsRow.kept h.s hgs (.inr fun e => by have := (World.ownsRow.lt h.s pg e).1; omega), h.ap, bl_grow h.bl hgs (by omega), h1, h2, h3⟩
theorem RdB.err {T : TypeId} {w : World} {p : Nat} {s : ByteArray} {z : RSt} (h : RdB T w p s z) : w.cell? ⟨p, 2, none⟩ = some (.int .i64 (z.2 : Nat)) := by
  obtain ⟨a, _, _, hb⟩ := h
  exact hb.cell (i := 2) rfl

set_option maxRecDepth 100000 in
set_option maxHeartbeats 4000000 in
theorem refSgOf_any (w : World) (s : ByteArray) (hs : s.size ≤ 1000000) : Calls Try.prog 37 #[.string s] w (SgAns (sgOfP s.data.toList) w) := by
  obtain ⟨i0, hi, hz0, hz1, hz2⟩ := info_parts infoIntS
  obtain ⟨i1, hj, hy0, hy1, hy2⟩ := info_parts infoStrS
  have hsz := sigZ_run
  have hrz : ∀ w, (zeroValue 96).run Try.prog w = .ok (.agg #[.string ByteArray.empty, .int .i64 0, .int .i64 0]) w := fun _ => by kernel_rfl
  obtain ⟨V1, hV1⟩ : ∃ V, V = ((w.alloc (Obj.cells #[.int .i64 0, .int .i64 0, .slice none 0 0, .slice none 0 0] 31)).alloc (Obj.cells #[.string s, .int .i64 0, .int .i64 0] 96)).alloc (Obj.cells #[.int .i64 0, .int .i64 0, .slice none 0 0, .slice none 0 0] 31) := ⟨_, rfl⟩
  obtain ⟨pz, hpz⟩ : ∃ p, p = w.heap.size := ⟨_, rfl⟩
  obtain ⟨pr, hpr⟩ : ∃ p, p = w.heap.size + 1 := ⟨_, rfl⟩
  obtain ⟨pg, hpg⟩ : ∃ p, p = w.heap.size + 1 + 1 := ⟨_, rfl⟩
  have HR1a : Hid (OfR 96 w V1 pz pr pg s 0 0 (.slice none 0 0) (.slice none 0 0) [] [] (s.data.toList, 0)) := by
    have e1 : ∀ (W : World) (a b c : Obj), Blk (((W.alloc a).alloc b).alloc (.cells #[.int .i64 0, .int .i64 0, .slice none 0 0, .slice none 0 0] 31)) (W.heap.size + 1 + 1) sigZ 31 := by
      intro W a b c
      have := Blk.new ((W.alloc a).alloc b) sigZ 31
      rw [World.size_alloc, World.size_alloc] at this
      exact this
    have e2 : Blk ((w.alloc (Obj.cells #[.int .i64 0, .int .i64 0, .slice none 0 0, .slice none 0 0] 31)).alloc (Obj.cells #[.string s, .int .i64 0, .int .i64 0] 96)) (w.heap.size + 1) [.string s, .int .i64 0, .int .i64 0] 96 := by
      have := Blk.new (w.alloc (Obj.cells #[.int .i64 0, .int .i64 0, .slice none 0 0, .slice none 0 0] 31)) [.string s, .int .i64 0, .int .i64 0] 96
      rw [World.size_alloc] at this
      exact this
    rw [hV1, hpz, hpr, hpg]
    exact Lib.hid ⟨((Blk.new w sigZ _).alloc _).alloc _, e1 w _ _ (.cells #[] 0), ⟨0, by omega, rfl, e2.alloc _⟩, World.ownsRow_nil _ _ _ _, World.ownsRow_nil _ _ _ _, (fun j hj => by simp [Value.ownBlock] at hj), bl_alloc (bl_alloc (bel_alloc _ _) _) _, by omega, by omega, by omega⟩
  have HV1 := Lib.hid hV1
  have HPZ := Lib.hid hpz
  have HPR := Lib.hid hpr
  have HPG := Lib.hid hpg
  obtain ⟨P, hP⟩ : ∃ P, P = sgOfP s.data.toList := ⟨_, rfl⟩
  rw [← hP]
  unfold sgOfP at hP
  obtain ⟨R1, hR1⟩ : ∃ R, R = stNum (s.data.toList, 0) := ⟨_, rfl⟩
  have hbA := stNum_le (s.data.toList, 0)
  rw [← hR1] at hP hbA
  obtain ⟨A, z1⟩ := R1
  simp only at hP hbA
  obtain ⟨R2, hR2⟩ : ∃ R, R = stNum z1 := ⟨_, rfl⟩
  have hbZ := stNum_le z1
  rw [← hR2] at hP hbZ
  obtain ⟨Z, st⟩ := R2
  simp only at hP hbZ
  have HP := Lib.hid hP
  have HR1 := Lib.hid hR1
  have HR2 := Lib.hid hR2
  clear hP hR1 hR2 hV1 hpz hpr hpg
  go_enter Try.func37, Try.ntmps37
  go_upto_region 3 with fail
  rw [← HPG.out, ← HPR.out, ← HPZ.out, ← HV1.out]
  go_wp2_with fail
  refine (rnum_is V1 pr s _ A z1 (by omega) HR1.out HR1a.out.r).mono ?_
  rintro e w3 ⟨rfl, hr3, hg3⟩
  have H3 := Lib.hid (HR1a.out.read hr3 hg3)
  have g0 := H3.out.g.cell (i := 0) rfl
  have f0 := H3.out.g.frozen 0
  clear hr3 hg3
  go_wp2_with fail
  have H3b := Lib.hid (H3.out.num A)
  clear g0 f0
  refine (rnum_is _ pr s _ Z st (by omega) HR2.out H3b.out.r).mono ?_
  rintro e w4 ⟨rfl, hr4, hg4⟩
  have H4 := Lib.hid (H3b.out.read hr4 hg4)
  have g1 := H4.out.g.cell (i := 1) rfl
  have f1 := H4.out.g.frozen 1
  clear hr4 hg4
  go_upto_region 5 with fail
  have HR := Lib.hid (H4.out.num1 Z)
  obtain ⟨V5, hV5⟩ : ∃ V, V = w4.setCell ⟨pg, 1, none⟩ (.int .i64 Z) := ⟨_, rfl⟩
  rw [← hV5] at HR
  rw [← hV5]
  have HV5 := Lib.hid hV5
  clear hV5 g1 f1
  have re := HR.out.r.err
  by_cases hst : st.2 = 0
  · have d1 : (((st.2 : Nat) : Int) != 0) = false := by simp [hst]
    have hP2 := HP.out
    rw [if_pos hst] at hP2
    have HST := Lib.hid hst
    have g0 := HR.out.g.cell (i := 0) rfl
    have g1 := HR.out.g.cell (i := 1) rfl
    by_cases hf1 : 16 ≤ A
    · by_cases hf2 : A ≤ 1024
      · by_cases hz : Z ≤ 524288
        · rw [if_pos ⟨hf1, hf2, hz⟩] at hP2
          obtain ⟨n, hn⟩ : ∃ n, n = cnt Z A := ⟨_, rfl⟩
          have hq : ((Z : Int) + A - 1).tdiv (A : Int) = (n : Int) := by
            have e : (Z : Int) + A - 1 = ((Z + A - 1 : Nat) : Int) := by omega
            rw [e, hn]; unfold cnt; rfl
          have hb0 : ¬ (A : Int) = 0 := by omega
          have hnb : n ≤ 524288 := by rw [hn]; exact Nat.le_trans (cnt_le (by omega)) hz
          rw [← hn] at hP2
          have d2 : decide ((524288 : Int) < (Z : Int)) = false := by simp; omega
          have d3 : decide ((A : Int) < 16) = false := by simp; omega
          have d4 : decide ((1024 : Int) < (A : Int)) = false := by simp; omega
          obtain ⟨RW, hRW⟩ : ∃ R, R = rdMany cntI n st := ⟨_, rfl⟩
          rw [← hRW] at hP2
          have HP2 := Lib.hid hP2
          have HRW := Lib.hid hRW
          clear hP2 HP hn hRW hst
          go_wp2_with fail
          go_loopw [7] (fun i wr => ∃ (k : Nat) (wv : Value) (LI : List Int) (z : RSt), i = .int .i64 k ∧ k ≤ n ∧ OfR 96 w wr pz pr pg s A Z wv (.slice none 0 0) LI [] z ∧ LoopI cntI n k RW LI z) (fun i _ => n - (intOf i).toNat)
          case atStart => exact ⟨0, _, [], st, rfl, by omega, HR.out, by rw [HRW.out]; exact LoopI.start cntI n st HST.out⟩
          case round =>
            clear HR HST g0 g1 HRW re d1 hq hb0
            obtain ⟨k, wv, LI, z, rfl, hk, hR, hLI⟩ := hrel
            have re := hR.r.err
            have hLl := hLI.1
            have HR := Lib.hid hR
            have HLI := Lib.hid hLI
            clear hR hLI
            by_cases hlt : k < n
            · by_cases hze : z.2 = 0
              · have d1 : (((z.2 : Nat) : Int) == 0) = true := by simp [hze]
                have HRD := Lib.hid (rcount_rd wr.drew pr s z 4294967295 (by decide) (by omega) HR.out.drew.r)
                have hstep := HLI.out.step hlt hze
                obtain ⟨Q, hQ⟩ : ∃ Q, Q = stCount 4294967295 z := ⟨_, rfl⟩
                have hcI : cntI z = ((((stCount 4294967295 z).1 : Nat) : Int), (stCount 4294967295 z).2) := rfl
                have hXb : (stCount 4294967295 z).1 ≤ 4611686018427387903 := by
                  unfold stCount
                  split
                  · simp
                  · exact stNum_le z
                rw [← hQ] at hcI HRD hXb
                rw [hcI] at hstep
                obtain ⟨X, z2⟩ := Q
                simp only at hstep HRD hXb
                have HST2 := Lib.hid hstep
                obtain ⟨aw, kw, rfl⟩ := slice_of HR.out.i
                have g2 := HR.out.g.cell (i := 2) rfl
                have hpgl := HR.out.g.lt
                clear hstep hcI hQ hze
                go_wp2_with fail
                go_region_law (first
                  | (go_simp; go_at_call 63; refine HRD.out.mono ?_; rintro e w7 ⟨rfl, hr7, hg7⟩; have hR7 := HR.out.drew.read hr7 hg7; have c7 := hR7.g.cell (i := 2) rfl; have a7 : (w7.alloc (Obj.cells #[.int .i64 X] 3)).cell? ⟨pg, 2, none⟩ = some (.slice aw LI.length kw) := (hR7.g.alloc _).cell (i := 2) rfl; have hp7 := hR7.g.lt; have HR7 := Lib.hid hR7; have HSa := Lib.hid hR7.i; clear hr7 hg7 hR7)
                  | (refine step_append_at rfl (.tmp 66) (.tmp 69) 28 rfl (pg + 1) 3 i0 (.int .i64 0) 1 8 Try.underlying28 hi hz0 hz1 hz2 rfl (by decide) (.slice aw LI.length kw) LI.length (LI.map (Value.int .i64)) (by simp [Act.eval]) (World.ownsRow.alloc HSa.out _) ⟨_, 0, none⟩ 1 1 [.int .i64 X] (by simp [Act.eval]) rfl (sg_new _ _ _) (by intro u hu; simp only [List.mem_singleton] at hu; subst hu; rfl) (by unfold maxLen; omega) (by omega) (by simp; omega) ?_; intro v' w8 hO8 hg8 hrb; obtain ⟨ao8, cap8, rfl⟩ := slice_of hO8; have hG8 := (HR7.out.alloc _).g.grown hg8 (fun e => by have := (World.ownsRow.lt HSa.out pg e.symm).1; omega); have c8 := hG8.cell (i := 2) rfl; have f8 := hG8.frozen 2))
                all_goals (
                  have hR9 := (HR7.out.alloc _).weak hO8 hg8 (hrb.imp id (fun e => ⟨_, fresh_ne (HR7.out.alloc _).s, e⟩))
                  obtain ⟨w9, hw9⟩ : ∃ W, W = w8.setCell ⟨pg, 2, none⟩ (.slice ao8 (LI.length + 1) cap8) := ⟨_, rfl⟩
                  rw [← hw9] at hR9
                  rw [← hw9]
                  have HR9 := Lib.hid hR9
                  clear hw9 hR9 hG8 c8 f8 hO8 hg8 hrb c7 a7 HR7 HSa HRD HR w8
                  go_wp2
                  go_roundw
                  case rel => exact ⟨k + 1, _, LI ++ [(X : Int)], z2, by go_num, by omega, HR9.out, HST2.out⟩
                  case measure => simp [intOf]; omega)
              · have d1 : (((z.2 : Nat) : Int) == 0) = false := by simp [hze]
                have hq2 := HLI.out.err hze
                have hPX : P = sgBad z.2 := by rw [HP2.out]; unfold sgOfW; rw [hq2, if_neg hze]
                have hEy : stEnd z = z := by unfold stEnd; rw [if_neg (fun h => hze h.1)]
                have HPX := Lib.hid hPX
                have HEY := Lib.hid hEy
                have d6 : (((z.2 : Nat) : Int) == 0) = false := by simp [hze]
                have d7 : (((z.2 : Nat) : Int) != 0) = true := by simp [hze]
                clear hq2 hPX hEy hze
                go_wp2_with fail
                go_loopw [8] (fun i wr' => i = .int .i64 0 ∧ wr' = wr) (fun _ _ => 0)
                case atStart => exact ⟨rfl, rfl⟩
                case round =>
                  obtain ⟨rfl, rfl⟩ := hrel
                  have hEN := rend_rd _ pr s z (by omega) HR.out.r
                  rw [HEY.out] at hEN
                  have HEN := Lib.hid hEN
                  clear hEN
                  go_wp2_with fail
                  all_goals (
                    refine HEN.out.mono ?_
                    rintro e w8 ⟨rfl, hr8, hg8⟩
                    have HR8 := Lib.hid (HR.out.read hr8 hg8)
                    clear hr8 hg8
                    have zc0 := HR8.out.zb.cell (i := 0) rfl
                    have f0 := HR8.out.zb.frozen 0
                    have zc1 := HR8.out.zb.cell (i := 1) rfl
                    have f1 := HR8.out.zb.frozen 1
                    have zc2 := HR8.out.zb.cell (i := 2) rfl
                    have f2 := HR8.out.zb.frozen 2
                    have zc3 := HR8.out.zb.cell (i := 3) rfl
                    have f3 := HR8.out.zb.frozen 3
                    go_wp2
                    refine bodyPost_ret (res_cell_row rfl _ _ pz 31 _ (0, 0) _ rfl (HR8.out.zeroed _ _ _ _).1 Try.underlying31 rfl (by kernel_rfl)) rfl ?_
                    rw [HPX.out]
                    exact SgAns.bad (HR8.out.zeroed _ _ _ _).2)
            · by_cases hze : z.2 = 0
              · have hkn : k = n := by omega
                subst hkn
                have hq2 := (HLI.out.full hze).2
                have hPX : P = sgOfT A Z LI (rdMany rawB k z) := by rw [HP2.out, hq2]; unfold sgOfW; simp only; rw [if_pos hze]
                have HPX := Lib.hid hPX
                have HZE := Lib.hid hze
                clear hq2 hPX hze
                go_wp2_with fail
                go_loopw [8] (fun i wr => ∃ (j : Nat) (sv : Value) (LS : List ByteArray) (y : RSt), i = .int .i64 j ∧ j ≤ k ∧ OfR 96 w wr pz pr pg s A Z wv sv LI LS y ∧ LoopI rawB k j (rdMany rawB k z) LS y) (fun i _ => k - (intOf i).toNat)
                case atStart => exact ⟨0, _, [], z, rfl, by omega, HR.out, LoopI.start rawB k z HZE.out⟩
                case round =>
                  clear HR re
                  obtain ⟨j, sv, LS, y, rfl, hjn, hR, hLS⟩ := hrel
                  have re := hR.r.err
                  have hLsl := hLS.1
                  have HR := Lib.hid hR
                  have HLS := Lib.hid hLS
                  clear hR hLS
                  by_cases hlt2 : j < k
                  · by_cases hye : y.2 = 0
                    · have d6 : (((y.2 : Nat) : Int) == 0) = true := by simp [hye]
                      have HRD := Lib.hid (rraw_rd wr.drew pr s y 32 (by decide) (by omega) HR.out.drew.r)
                      have hstep := HLS.out.step hlt2 hye
                      obtain ⟨Q, hQ⟩ : ∃ Q, Q = stRaw 32 y := ⟨_, rfl⟩
                      have hcI : rawB y = (mkB (stRaw 32 y).1, (stRaw 32 y).2) := rfl
                      rw [← hQ] at hcI HRD
                      rw [hcI] at hstep
                      obtain ⟨X0, y2⟩ := Q
                      simp only at hstep HRD
                      obtain ⟨X, hX⟩ : ∃ X, X = mkB X0 := ⟨_, rfl⟩
                      rw [← hX] at hstep HRD
                      have HST2 := Lib.hid hstep
                      obtain ⟨aw, kw, rfl⟩ := slice_of HR.out.s
                      have g3 := HR.out.g.cell (i := 3) rfl
                      have hpgl := HR.out.g.lt
                      clear hstep hcI hQ hye hX
                      go_wp2_with fail
                      go_region_law (first
                        | (go_simp; go_at_call 64; refine HRD.out.mono ?_; rintro e w7 ⟨rfl, hr7, hg7⟩; have hR7 := HR.out.drew.read hr7 hg7; have c7 := hR7.g.cell (i := 3) rfl; have a7 : (w7.alloc (Obj.cells #[.string X] 9)).cell? ⟨pg, 3, none⟩ = some (.slice aw LS.length kw) := (hR7.g.alloc _).cell (i := 3) rfl; have hp7 := hR7.g.lt; have HR7 := Lib.hid hR7; have HSa := Lib.hid hR7.s; clear hr7 hg7 hR7)
                        | (refine step_append_at rfl (.tmp 85) (.tmp 88) 29 rfl (pg + 1) 9 i1 (.string ByteArray.empty) 1 16 Try.underlying29 hj hy0 hy1 hy2 rfl (by decide) (.slice aw LS.length kw) LS.length (LS.map (Value.string)) (by simp [Act.eval]) (World.ownsRow.alloc HSa.out _) ⟨_, 0, none⟩ 1 1 [.string X] (by simp [Act.eval]) rfl (sg_new _ _ _) (by intro u hu; simp only [List.mem_singleton] at hu; subst hu; rfl) (by unfold maxLen; omega) (by omega) (by simp; omega) ?_; intro v' w8 hO8 hg8 hrb; obtain ⟨ao8, cap8, rfl⟩ := slice_of hO8; have hG8 := (HR7.out.alloc _).g.grown hg8 (fun e => by have := (World.ownsRow.lt HSa.out pg e.symm).1; omega); have c8 := hG8.cell (i := 3) rfl; have f8 := hG8.frozen 3))
                      all_goals (
                        have hR9 := (HR7.out.alloc _).strong hO8 hg8 (hrb.imp id (fun e => ⟨_, fresh_ne (HR7.out.alloc _).i, e⟩))
                        obtain ⟨w9, hw9⟩ : ∃ W, W = w8.setCell ⟨pg, 3, none⟩ (.slice ao8 (LS.length + 1) cap8) := ⟨_, rfl⟩
                        rw [← hw9] at hR9
                        rw [← hw9]
                        have HR9 := Lib.hid hR9
                        clear hw9 hR9 hG8 c8 f8 hO8 hg8 hrb c7 a7 HR7 HSa HRD HR w8
                        go_wp2
                        go_roundw
                        case rel => exact ⟨j + 1, _, LS ++ [X], y2, by go_num, by omega, HR9.out, HST2.out⟩
                        case measure => simp [intOf]; omega)
                    · have d6 : (((y.2 : Nat) : Int) == 0) = false := by simp [hye]
                      have hye2 : ¬ (y.2 : Nat) = 0 := hye
                      go_wp2_with fail
                      obtain ⟨E, hE⟩ : ∃ E, E = stEnd y := ⟨_, rfl⟩
                      have HEN := Lib.hid (rend_rd wr pr s y (by omega) HR.out.r)
                      rw [← hE] at HEN
                      have hP4 : P = if E.2 = 0 then (A, Z, LI, LS, 0) else sgBad E.2 := by
                        have q2 := HLS.out.err hye
                        have hEy : E = y := by rw [hE]; unfold stEnd; rw [if_neg (fun h => hye h.1)]
                        rw [HPX.out, hEy, if_neg hye]
                        unfold sgOfT
                        rw [q2, if_neg hye]
                      have HP4 := Lib.hid hP4
                      clear hP4 hE
                      refine HEN.out.mono ?_
                      rintro e w8 ⟨rfl, hr8, hg8⟩
                      have HR8 := Lib.hid (HR.out.read hr8 hg8)
                      clear hr8 hg8 HR HEN
                      have zc0 := HR8.out.zb.cell (i := 0) rfl
                      have f0 := HR8.out.zb.frozen 0
                      have zc1 := HR8.out.zb.cell (i := 1) rfl
                      have f1 := HR8.out.zb.frozen 1
                      have zc2 := HR8.out.zb.cell (i := 2) rfl
                      have f2 := HR8.out.zb.frozen 2
                      have zc3 := HR8.out.zb.cell (i := 3) rfl
                      have f3 := HR8.out.zb.frozen 3
                      by_cases hEe : E.2 = 0
                      · have d7 : (((E.2 : Nat) : Int) != 0) = false := by simp [hEe]
                        have hP4 := HP4.out
                        rw [if_pos hEe] at hP4
                        have HP5 := Lib.hid hP4
                        obtain ⟨aw, kw, rfl⟩ := slice_of HR8.out.i
                        obtain ⟨av, kv, rfl⟩ := slice_of HR8.out.s
                        have g0 := HR8.out.g.cell (i := 0) rfl
                        have g1 := HR8.out.g.cell (i := 1) rfl
                        have g2 := HR8.out.g.cell (i := 2) rfl
                        have g3 := HR8.out.g.cell (i := 3) rfl
                        clear hP4 hEe
                        go_wp2
                        refine bodyPost_ret (res_cell_row rfl _ _ pz 31 _ (0, 0) _ rfl (HR8.out.zeroed _ _ _ _).1 Try.underlying31 rfl (by kernel_rfl)) rfl ?_
                        rw [HP5.out]
                        obtain ⟨q1, q2⟩ := HR8.out.rows (.int .i64 A) (.int .i64 Z) (.slice aw LI.length kw) (.slice av LS.length kv)
                        exact ⟨aw, kw, av, kv, rfl, RowI.rs q1 rfl, RowS.rs q2 rfl, (HR8.out.zeroed _ _ _ _).2⟩
                      · have d7 : (((E.2 : Nat) : Int) != 0) = true := by simp [hEe]
                        have hP4 := HP4.out
                        rw [if_neg hEe] at hP4
                        have HP5 := Lib.hid hP4
                        clear hP4 hEe
                        go_wp2
                        refine bodyPost_ret (res_cell_row rfl _ _ pz 31 _ (0, 0) _ rfl (HR8.out.zeroed _ _ _ _).1 Try.underlying31 rfl (by kernel_rfl)) rfl ?_
                        rw [HP5.out]
                        exact SgAns.bad (HR8.out.zeroed _ _ _ _).2
                  · go_wp2_with fail
                    obtain ⟨E, hE⟩ : ∃ E, E = stEnd y := ⟨_, rfl⟩
                    have HEN := Lib.hid (rend_rd wr pr s y (by omega) HR.out.r)
                    rw [← hE] at HEN
                    have hjk2 : j = k := by omega
                    subst hjk2
                    have hP4 : P = if E.2 = 0 then (A, Z, LI, LS, 0) else sgBad E.2 := by
                      by_cases hye : y.2 = 0
                      · obtain ⟨_, q2⟩ := HLS.out.full hye
                        rw [HPX.out]
                        unfold sgOfT
                        rw [q2]
                        simp only
                        rw [if_pos hye, ← hE]
                      · have q2 := HLS.out.err hye
                        have hEy : E = y := by rw [hE]; unfold stEnd; rw [if_neg (fun h => hye h.1)]
                        rw [HPX.out, hEy, if_neg hye]
                        unfold sgOfT
                        rw [q2, if_neg hye]
                    have HP4 := Lib.hid hP4
                    clear hP4 hE
                    refine HEN.out.mono ?_
                    rintro e w8 ⟨rfl, hr8, hg8⟩
                    have HR8 := Lib.hid (HR.out.read hr8 hg8)
                    clear hr8 hg8 HR HEN
                    have zc0 := HR8.out.zb.cell (i := 0) rfl
                    have f0 := HR8.out.zb.frozen 0
                    have zc1 := HR8.out.zb.cell (i := 1) rfl
                    have f1 := HR8.out.zb.frozen 1
                    have zc2 := HR8.out.zb.cell (i := 2) rfl
                    have f2 := HR8.out.zb.frozen 2
                    have zc3 := HR8.out.zb.cell (i := 3) rfl
                    have f3 := HR8.out.zb.frozen 3
                    by_cases hEe : E.2 = 0
                    · have d7 : (((E.2 : Nat) : Int) != 0) = false := by simp [hEe]
                      have hP4 := HP4.out
                      rw [if_pos hEe] at hP4
                      have HP5 := Lib.hid hP4
                      obtain ⟨aw, kw, rfl⟩ := slice_of HR8.out.i
                      obtain ⟨av, kv, rfl⟩ := slice_of HR8.out.s
                      have g0 := HR8.out.g.cell (i := 0) rfl
                      have g1 := HR8.out.g.cell (i := 1) rfl
                      have g2 := HR8.out.g.cell (i := 2) rfl
                      have g3 := HR8.out.g.cell (i := 3) rfl
                      clear hP4 hEe
                      go_wp2
                      refine bodyPost_ret (res_cell_row rfl _ _ pz 31 _ (0, 0) _ rfl (HR8.out.zeroed _ _ _ _).1 Try.underlying31 rfl (by kernel_rfl)) rfl ?_
                      rw [HP5.out]
                      obtain ⟨q1, q2⟩ := HR8.out.rows (.int .i64 A) (.int .i64 Z) (.slice aw LI.length kw) (.slice av LS.length kv)
                      exact ⟨aw, kw, av, kv, rfl, RowI.rs q1 rfl, RowS.rs q2 rfl, (HR8.out.zeroed _ _ _ _).2⟩
                    · have d7 : (((E.2 : Nat) : Int) != 0) = true := by simp [hEe]
                      have hP4 := HP4.out
                      rw [if_neg hEe] at hP4
                      have HP5 := Lib.hid hP4
                      clear hP4 hEe
                      go_wp2
                      refine bodyPost_ret (res_cell_row rfl _ _ pz 31 _ (0, 0) _ rfl (HR8.out.zeroed _ _ _ _).1 Try.underlying31 rfl (by kernel_rfl)) rfl ?_
                      rw [HP5.out]
                      exact SgAns.bad (HR8.out.zeroed _ _ _ _).2
              · have hq2 := HLI.out.err hze
                have hPX : P = sgBad z.2 := by rw [HP2.out]; unfold sgOfW; rw [hq2, if_neg hze]
                have hEy : stEnd z = z := by unfold stEnd; rw [if_neg (fun h => hze h.1)]
                have HPX := Lib.hid hPX
                have HEY := Lib.hid hEy
                have d6 : (((z.2 : Nat) : Int) == 0) = false := by simp [hze]
                have d7 : (((z.2 : Nat) : Int) != 0) = true := by simp [hze]
                clear hq2 hPX hEy hze
                go_wp2_with fail
                go_loopw [8] (fun i wr' => i = .int .i64 0 ∧ wr' = wr) (fun _ _ => 0)
                case atStart => exact ⟨rfl, rfl⟩
                case round =>
                  obtain ⟨rfl, rfl⟩ := hrel
                  have hEN := rend_rd _ pr s z (by omega) HR.out.r
                  rw [HEY.out] at hEN
                  have HEN := Lib.hid hEN
                  clear hEN
                  go_wp2_with fail
                  all_goals (
                    refine HEN.out.mono ?_
                    rintro e w8 ⟨rfl, hr8, hg8⟩
                    have HR8 := Lib.hid (HR.out.read hr8 hg8)
                    clear hr8 hg8
                    have zc0 := HR8.out.zb.cell (i := 0) rfl
                    have f0 := HR8.out.zb.frozen 0
                    have zc1 := HR8.out.zb.cell (i := 1) rfl
                    have f1 := HR8.out.zb.frozen 1
                    have zc2 := HR8.out.zb.cell (i := 2) rfl
                    have f2 := HR8.out.zb.frozen 2
                    have zc3 := HR8.out.zb.cell (i := 3) rfl
                    have f3 := HR8.out.zb.frozen 3
                    go_wp2
                    refine bodyPost_ret (res_cell_row rfl _ _ pz 31 _ (0, 0) _ rfl (HR8.out.zeroed _ _ _ _).1 Try.underlying31 rfl (by kernel_rfl)) rfl ?_
                    rw [HPX.out]
                    exact SgAns.bad (HR8.out.zeroed _ _ _ _).2)
        · rw [if_neg (fun h => hz h.2.2)] at hP2
          have HP2 := Lib.hid hP2
          have d2 : decide ((524288 : Int) < (Z : Int)) = true := by simp; omega
          have d3 : decide ((A : Int) < 16) = false := by simp; omega
          have d4 : decide ((1024 : Int) < (A : Int)) = false := by simp; omega
          clear hP2 HP
          have zc0 := HR.out.zb.cell (i := 0) rfl
          have f0 := HR.out.zb.frozen 0
          have zc1 := HR.out.zb.cell (i := 1) rfl
          have f1 := HR.out.zb.frozen 1
          have zc2 := HR.out.zb.cell (i := 2) rfl
          have f2 := HR.out.zb.frozen 2
          have zc3 := HR.out.zb.cell (i := 3) rfl
          have f3 := HR.out.zb.frozen 3
          go_wp2
          refine bodyPost_ret (res_cell_row rfl _ _ pz 31 _ (0, 0) _ rfl (HR.out.zeroed _ _ _ _).1 Try.underlying31 rfl (by kernel_rfl)) rfl ?_
          rw [HP2.out]
          exact SgAns.bad (HR.out.zeroed _ _ _ _).2
      · rw [if_neg (fun h => hf2 h.2.1)] at hP2
        have HP2 := Lib.hid hP2
        have d3 : decide ((A : Int) < 16) = false := by simp; omega
        have d4 : decide ((1024 : Int) < (A : Int)) = true := by simp; omega
        clear hP2 HP
        have zc0 := HR.out.zb.cell (i := 0) rfl
        have f0 := HR.out.zb.frozen 0
        have zc1 := HR.out.zb.cell (i := 1) rfl
        have f1 := HR.out.zb.frozen 1
        have zc2 := HR.out.zb.cell (i := 2) rfl
        have f2 := HR.out.zb.frozen 2
        have zc3 := HR.out.zb.cell (i := 3) rfl
        have f3 := HR.out.zb.frozen 3
        go_wp2
        refine bodyPost_ret (res_cell_row rfl _ _ pz 31 _ (0, 0) _ rfl (HR.out.zeroed _ _ _ _).1 Try.underlying31 rfl (by kernel_rfl)) rfl ?_
        rw [HP2.out]
        exact SgAns.bad (HR.out.zeroed _ _ _ _).2
    · rw [if_neg (fun h => hf1 h.1)] at hP2
      have HP2 := Lib.hid hP2
      have d3 : decide ((A : Int) < 16) = true := by simp; omega
      clear hP2 HP
      have zc0 := HR.out.zb.cell (i := 0) rfl
      have f0 := HR.out.zb.frozen 0
      have zc1 := HR.out.zb.cell (i := 1) rfl
      have f1 := HR.out.zb.frozen 1
      have zc2 := HR.out.zb.cell (i := 2) rfl
      have f2 := HR.out.zb.frozen 2
      have zc3 := HR.out.zb.cell (i := 3) rfl
      have f3 := HR.out.zb.frozen 3
      go_wp2
      refine bodyPost_ret (res_cell_row rfl _ _ pz 31 _ (0, 0) _ rfl (HR.out.zeroed _ _ _ _).1 Try.underlying31 rfl (by kernel_rfl)) rfl ?_
      rw [HP2.out]
      exact SgAns.bad (HR.out.zeroed _ _ _ _).2
  · have d1 : (((st.2 : Nat) : Int) != 0) = true := by simp [hst]
    have hP2 := HP.out
    rw [if_neg hst] at hP2
    have HP2 := Lib.hid hP2
    clear hP2 HP
    have zc0 := HR.out.zb.cell (i := 0) rfl
    have f0 := HR.out.zb.frozen 0
    have zc1 := HR.out.zb.cell (i := 1) rfl
    have f1 := HR.out.zb.frozen 1
    have zc2 := HR.out.zb.cell (i := 2) rfl
    have f2 := HR.out.zb.frozen 2
    have zc3 := HR.out.zb.cell (i := 3) rfl
    have f3 := HR.out.zb.frozen 3
    have hne1 : ¬ pr = pz := by have := HR.out.zr; omega
    have hne2 : ¬ pz = pr := by have := HR.out.zr; omega
    go_wp2_with fail
    go_region
    go_wp2
    refine bodyPost_ret (res_cell_row rfl _ _ pz 31 _ (0, 0) _ rfl (HR.out.zeroed _ _ _ _).1.drew Try.underlying31 rfl (by kernel_rfl)) rfl ?_
    rw [HP2.out]
    exact SgAns.bad (bl_drew (HR.out.zeroed _ _ _ _).2)
end Go.Proofs.Ytfcfgkhdlpgbdaa
