/- The delta that bytes are: the reference's Read. Conditions: as named in each theorem. -/
import Derived.Test.YtgemhgllifhckaaDlRead
import Derived.Test.YtgemhgllifhckaaDlRefRight
import Derived.Deep.Cut
namespace Go.Proofs.Ytgemhgllifhckaa
open Go.RowKit Sg
set_option linter.unusedVariables false
set_option linter.unusedSimpArgs false

theorem dl_rdNum_bad : ∀ (l : List UInt8) (i acc : Nat), (rdNum i acc l).2.2 ≠ 0 → (rdNum i acc l).1 = 0 := by
  intro l
  induction l with
  | nil => intro i acc _; rfl
  | cons c l ih =>
    intro i acc h
    rw [rdNum] at h ⊢
    split
    · rfl
    · rename_i h1
      rw [if_neg h1] at h
      split
      · rename_i h2; rw [if_pos h2] at h; exact absurd rfl h
      · rename_i h2; rw [if_neg h2] at h; exact ih _ _ h
theorem dl_stNum_bad {z : RSt} (h : (stNum z).2.2 ≠ 0) : (stNum z).1 = 0 := by
  by_cases h0 : z.2 = 0
  · obtain ⟨l, e⟩ := z
    simp only at h0
    subst h0
    rw [stNum_ok] at h ⊢
    exact dl_rdNum_bad l 0 0 h
  · rw [stNum_err h0]
theorem stEnd_keep {z : RSt} (h : z.2 ≠ 0) : stEnd z = z := by unfold stEnd; rw [if_neg (fun k => h k.1)]
section
variable {T : TypeId} {w wr : World} {pz pr pd : Nat} {s b m : ByteArray} {sz : Int} {v : Value} {L : List St} {z : RSt}
/-- a store to the delta's block -/
theorem RdS.setg (h : RdS T w wr pz pr pd s b m sz v L z) (i : Nat) (x : Value) {b' m' : ByteArray} {sz' : Int} (hp : Blk (wr.setCell ⟨pd, i, none⟩ x) pd [.string b', .string m', .int .i64 sz', v] 25) : RdS T w (wr.setCell ⟨pd, i, none⟩ x) pz pr pd s b' m' sz' v L z := by
  have h1 := h.o1; have h2 := h.o2; have h3 := h.o3
  have hg : wr.grownBy (wr.setCell ⟨pd, i, none⟩ x) (some pd) := grown_set (grown_refl _ _) i x
  exact ⟨h.zb.grown hg (by simp; omega), hp, h.r.grown hg (by simp; omega), World.ownsRow.kept h.o hg (.inr fun e => by have := (World.ownsRow.lt h.o pd e).1; omega), h.bl.grown hg h.bl.size (fun k hk => by cases hk; omega), h1, h2, h3⟩
/-- a store beside -/
theorem RdS.setq (h : RdS T w wr pz pr pd s b m sz v L z) (q i : Nat) (x : Value) (hq : pd < q) (hv : v.ownBlock ≠ some q) : RdS T w (wr.setCell ⟨q, i, none⟩ x) pz pr pd s b m sz v L z := by
  have h1 := h.o1; have h2 := h.o2; have h3 := h.o3
  have hg : wr.grownBy (wr.setCell ⟨q, i, none⟩ x) (some q) := grown_set (grown_refl _ _) i x
  exact ⟨h.zb.grown hg (by simp; omega), h.g.grown hg (by simp; omega), h.r.grown hg (by simp; omega), World.ownsRow.kept h.o hg (.inr fun e => hv e), h.bl.grown hg h.bl.size (fun k hk => by cases hk; omega), h1, h2, h3⟩
end

set_option maxRecDepth 100000 in
set_option maxHeartbeats 4000000 in
theorem refRead_d (w : World) (s : ByteArray) (hs : s.size ≤ 1000000) : Calls Try.prog 34 #[.string s] w (ReadR (readD s.data.toList) w) := by
  obtain ⟨i0, hi, hz0, hz1, hz2⟩ := info_parts infoStep
  have hstz := stepZ_run
  have hdz := deltaZ_run
  have hrz : ∀ w, (zeroValue 121).run Try.prog w = .ok (.agg #[.string ByteArray.empty, .int .i64 0, .int .i64 0]) w := fun _ => by kernel_rfl
  obtain ⟨V1, hV1⟩ : ∃ V, V = w.alloc (Obj.cells #[.string ByteArray.empty, .string ByteArray.empty, .int .i64 0, .slice none 0 0] 25) := ⟨_, rfl⟩
  obtain ⟨pz, hpz⟩ : ∃ p, p = w.heap.size := ⟨_, rfl⟩
  obtain ⟨V2, hV2⟩ : ∃ V, V = V1.alloc (Obj.cells #[.string s, .int .i64 0, .int .i64 0] 121) := ⟨_, rfl⟩
  obtain ⟨pr, hpr⟩ : ∃ p, p = V1.heap.size := ⟨_, rfl⟩
  obtain ⟨V3, hV3⟩ : ∃ V, V = V2.alloc (Obj.cells #[.string ByteArray.empty, .string ByteArray.empty, .int .i64 0, .slice none 0 0] 25) := ⟨_, rfl⟩
  obtain ⟨pd, hpd⟩ : ∃ p, p = V2.heap.size := ⟨_, rfl⟩
  have hS3 : RdS 121 w V3 pz pr pd s ByteArray.empty ByteArray.empty 0 (.slice none 0 0) [] (s.data.toList, 0) := by
    have hz1 : Blk V1 pz [.string ByteArray.empty, .string ByteArray.empty, .int .i64 0, .slice none 0 0] 25 := by rw [hV1, hpz]; exact Blk.new _ _ _
    have hr2 : Blk V2 pr [.string s, .int .i64 0, .int .i64 0] 121 := by rw [hV2, hpr]; exact Blk.new _ _ _
    have hz2 : Blk V2 pz [.string ByteArray.empty, .string ByteArray.empty, .int .i64 0, .slice none 0 0] 25 := by rw [hV2]; exact hz1.alloc _
    have b1 : Below w.heap.size w V1 := by rw [hV1]; exact below_alloc _ _
    have b2 : Below w.heap.size w V2 := by rw [hV2]; exact b1.alloc b1.size _
    have b3 : Below w.heap.size w V3 := by rw [hV3]; exact b2.alloc b2.size _
    have l1 := hz1.lt
    have l2 := hr2.lt
    refine ⟨by rw [hV3]; exact hz2.alloc _, by rw [hV3, hpd]; exact Blk.new _ _ _, ⟨0, Nat.zero_le _, rfl, by rw [hV3]; exact hr2.alloc _⟩, Own.nil _ _, b3, by omega, by omega, by omega⟩
  obtain ⟨P, hP⟩ : ∃ P, P = readD s.data.toList := ⟨_, rfl⟩
  rw [← hP]
  unfold readD at hP
  obtain ⟨R1, hR1⟩ : ∃ R, R = stRaw 32 (s.data.toList, 0) := ⟨_, rfl⟩
  rw [← hR1] at hP
  obtain ⟨b1, z1⟩ := R1
  simp only at hP
  obtain ⟨R2, hR2⟩ : ∃ R, R = stRaw 32 z1 := ⟨_, rfl⟩
  rw [← hR2] at hP
  obtain ⟨b2, z2⟩ := R2
  simp only at hP
  obtain ⟨R3, hR3⟩ : ∃ R, R = stNum z2 := ⟨_, rfl⟩
  have hb3 := stNum_le z2
  rw [← hR3] at hP hb3
  obtain ⟨sz, z3⟩ := R3
  simp only at hP hb3
  obtain ⟨R4, hR4⟩ : ∃ R, R = stNum z3 := ⟨_, rfl⟩
  have hb4 := stNum_le z3
  rw [← hR4] at hP hb4
  obtain ⟨n, z4⟩ := R4
  simp only at hP hb4
  have hl4 : z4.1.length ≤ s.size := by
    have a1 := stRaw_left 32 (s.data.toList, 0)
    have a2 := stRaw_left 32 z1
    have a3 := stNum_left z2
    have a4 := stNum_left z3
    rw [← hR1] at a1
    rw [← hR2] at a2
    rw [← hR3] at a3
    rw [← hR4] at a4
    have := a1.len; have := a2.len; have := a3.len; have := a4.len
    simp only [bs_len] at *
    omega
  obtain ⟨B1, hB1e⟩ : ∃ B, B = mkB b1 := ⟨_, rfl⟩
  obtain ⟨B2, hB2e⟩ : ∃ B, B = mkB b2 := ⟨_, rfl⟩
  have hs1 : B1.size ≤ 32 := by rw [hB1e]; have := stRaw_len 32 (s.data.toList, 0); rw [← hR1] at this; simpa [mkB, ByteArray.size] using this
  have hs2 : B2.size ≤ 32 := by rw [hB2e]; have := stRaw_len 32 z1; rw [← hR2] at this; simpa [mkB, ByteArray.size] using this
  rw [← hB1e, ← hB2e] at hP
  obtain ⟨R, hR⟩ : ∃ R, R = rdSteps n [] z4 := ⟨_, rfl⟩
  rw [← hR] at hP
  have HP := Lib.hid hP
  have HR0 := Lib.hid hR
  have HR1 := Lib.hid hR1
  have HR2 := Lib.hid hR2
  have HR3 := Lib.hid hR3
  have HN0 : Hid (z4.2 ≠ 0 → n = 0) := Lib.hid (fun h => by have := dl_stNum_bad (z := z3); rw [← hR4] at this; exact this h)
  have HR4 := Lib.hid hR4
  have HB1E := Lib.hid hB1e
  have HB2E := Lib.hid hB2e
  have HV1 := Lib.hid hV1
  have HPZ := Lib.hid hpz
  have HV2 := Lib.hid hV2
  have HPR := Lib.hid hpr
  have HV3 := Lib.hid hV3
  have HPD := Lib.hid hpd
  have HS3 := Lib.hid hS3
  clear hP hR hR1 hR2 hR3 hR4 hB1e hB2e hV1 hpz hV2 hpr hV3 hpd hS3
  go_enter Try.func34, Try.ntmps34
  go_upto_region 1 with fail
  rw [← HPZ.out, ← HV1.out]
  go_upto_region 2 with fail
  rw [← HPR.out, ← HV2.out]
  go_upto_region 3 with fail
  rw [← HPD.out, ← HV3.out]
  go_wp2_with fail
  refine (rraw_rd V3 pr s _ 32 (by omega) (by omega) HS3.out.r).mono ?_
  rw [← HR1.out]
  rintro e w4 ⟨rfl, hr4, hg4⟩
  simp only at hr4 ⊢
  rw [← HB1E.out]
  have HS4 := Lib.hid (HS3.out.read hr4 hg4)
  have q0 := HS4.out.g.cell (i := 0) rfl
  have f0 := HS4.out.g.frozen 0
  clear hr4 hg4 HS3 HV1 HPZ HV2 HPR HV3 HPD
  go_upto_region 4 with fail
  have HS5 := Lib.hid (HS4.out.setg 0 (.string B1) (HS4.out.g.set 0 _))
  obtain ⟨V5, hV5⟩ : ∃ V, V = w4.setCell ⟨pd, 0, none⟩ (.string B1) := ⟨_, rfl⟩
  rw [← hV5] at HS5
  rw [← hV5]
  clear hV5 q0 f0 HS4
  go_wp2_with fail
  refine (rraw_rd V5 pr s _ 32 (by omega) (by omega) HS5.out.r).mono ?_
  rw [← HR2.out]
  rintro e w6 ⟨rfl, hr6, hg6⟩
  simp only at hr6 ⊢
  rw [← HB2E.out]
  have HS6 := Lib.hid (HS5.out.read hr6 hg6)
  have q1 := HS6.out.g.cell (i := 1) rfl
  have f1 := HS6.out.g.frozen 1
  clear hr6 hg6 HS5
  go_upto_region 5 with fail
  have HS7 := Lib.hid (HS6.out.setg 1 (.string B2) (HS6.out.g.set 1 _))
  obtain ⟨V7, hV7⟩ : ∃ V, V = w6.setCell ⟨pd, 1, none⟩ (.string B2) := ⟨_, rfl⟩
  rw [← hV7] at HS7
  rw [← hV7]
  clear hV7 q1 f1 HS6
  go_wp2_with fail
  refine (rnum_rd V7 pr s _ (by omega) HS7.out.r).mono ?_
  rw [← HR3.out]
  rintro e w8 ⟨rfl, hr8, hg8⟩
  simp only at hr8 ⊢
  have HS8 := Lib.hid (HS7.out.read hr8 hg8)
  have q2 := HS8.out.g.cell (i := 2) rfl
  have f2 := HS8.out.g.frozen 2
  clear hr8 hg8 HS7
  go_upto_region 6 with fail
  have HS9 := Lib.hid (HS8.out.setg 2 (.int .i64 sz) (HS8.out.g.set 2 _))
  obtain ⟨V9, hV9⟩ : ∃ V, V = w8.setCell ⟨pd, 2, none⟩ (.int .i64 sz) := ⟨_, rfl⟩
  rw [← hV9] at HS9
  rw [← hV9]
  clear hV9 q2 f2 HS8
  go_wp2_with fail
  refine (rnum_rd V9 pr s _ (by omega) HS9.out.r).mono ?_
  rw [← HR4.out]
  rintro e wa ⟨rfl, hra, hga⟩
  simp only at hra ⊢
  have HSA := Lib.hid (HS9.out.read hra hga)
  clear hra hga HS9
  go_wp2_with fail
  go_loopw [7] (fun i wr => ∃ (k : Nat) (v : Value) (L : List St) (z : RSt), i = .int .i64 k ∧ k ≤ n ∧ RdS 121 w wr pz pr pd s B1 B2 sz v L z ∧ L.length ≤ 2000000 ∧ (z.2 = 0 → R = rdSteps (n - k) L z ∧ L.length + z.1.length ≤ s.size ∧ ∀ x ∈ L, rightS x) ∧ (z.2 ≠ 0 → P = (dl0, z.2))) (fun i _ => n - (intOf i).toNat)
  case atStart => exact ⟨0, _, [], z4, by go_num, Nat.zero_le _, HSA.out, by simp, fun _ => ⟨HR0.out, by simpa using hl4, by simp⟩, fun h => by
      have h0 := HN0.out h
      rw [HP.out, HR0.out, h0, rdSteps_end]
      have := rdTail_end (b := B1) (m := B2) (s := sz) (R := ([], z4, 0)) (by simp) (by simp only; rw [stEnd_keep h]; exact h)
      rw [this]; simp only; rw [stEnd_keep h]⟩
  case round =>
    clear HSA HR0 hl4 HN0
    obtain ⟨k, v, L, z, rfl, hk, hS, hLL, hOK, hBD⟩ := hrel
    obtain ⟨at_, hat, hzl, hrb⟩ := hS.r
    have r2 := hrb.cell (i := 2) rfl
    clear hat hzl hrb
    have HS := Lib.hid hS
    clear hS
    have HOK := Lib.hid hOK
    have HBD := Lib.hid hBD
    clear hOK hBD
    by_cases hgo : k < n ∧ z.2 = 0
    · obtain ⟨hlt, hz⟩ := hgo
      obtain ⟨hRk, hLz, hLR⟩ := HOK.out hz
      have HLR := Lib.hid hLR
      have dz : (((z.2 : Nat) : Int) == 0) = true := by simp [hz]
      obtain ⟨bd1, bd2, bd3, bd4, bd5⟩ := stepRd_bd z
      have hER : Hid ((stepRd z).2.2 ≠ 0 → R = ([], (stepRd z).2, (stepRd z).2.2)) := Lib.hid (fun h => by rw [hRk]; exact rdSteps_err hlt h)
      have hBAD : Hid (¬ (stepRd z).2.2 ≠ 0 → ¬ rightS (stepRd z).1 → R = ([], (stepRd z).2, 5)) := Lib.hid (fun h h2 => by rw [hRk]; exact rdSteps_bad hlt h h2)
      have hGO : Hid (¬ (stepRd z).2.2 ≠ 0 → rightS (stepRd z).1 → R = rdSteps (n - (k + 1)) (L ++ [(stepRd z).1]) (stepRd z).2) := Lib.hid (fun h h2 => by rw [hRk]; exact rdSteps_go hlt h h2)
      have hLF : Hid ((stepRd z).2.2 = 0 → (stepRd z).2.1.length + 1 ≤ z.1.length) := Lib.hid (stepRd_left z)
      have hle := stNum_le z
      have HNM := Lib.hid (fun (V : World) (h : RdB 121 V pr s z) => rnum_rd V pr s z (by omega) h)
      have HC : Hid ((stNum z).1 % 2 = 1 → stepRd z = (⟨((stNum (stNum z).2).1 : Nat), (((stNum z).1 / 2 : Nat) : Int), ByteArray.empty⟩, (stNum (stNum z).2).2)) := Lib.hid (fun h => stepRd_copy h)
      have HL : Hid (¬ (stNum z).1 % 2 = 1 → 4096 < (stNum z).1 / 2 → stepRd z = (⟨0, -1, ByteArray.empty⟩, (stNum z).2)) := Lib.hid (fun h h2 => stepRd_long h h2)
      have HT : Hid (¬ (stNum z).1 % 2 = 1 → ¬ 4096 < (stNum z).1 / 2 → stepRd z = (⟨0, 0, mkB (stRaw ((stNum z).1 / 2) (stNum z).2).1⟩, (stRaw ((stNum z).1 / 2) (stNum z).2).2)) := Lib.hid (fun h h2 => stepRd_text h h2)
      obtain ⟨NZ, hNZ⟩ : ∃ NZ, NZ = stNum z := ⟨_, rfl⟩
      rw [← hNZ] at HNM HC HL HT hle
      obtain ⟨Q, hQ⟩ : ∃ Q, Q = stepRd z := ⟨_, rfl⟩
      rw [← hQ] at bd1 bd2 bd3 bd4 bd5 hER hBAD hGO hLF HC HL HT
      obtain ⟨x, y⟩ := Q
      obtain ⟨xp, xl, xt⟩ := x
      simp only at bd1 bd2 bd3 bd4 bd5 hER hBAD hGO hLF HC HL HT
      obtain ⟨K, z1⟩ := NZ
      simp only at HNM HC HL HT hle
      have i1 : (k : Int) < (n : Int) := by omega
      have hvq : v.ownBlock ≠ some wr.heap.size := fun e => by have := (World.ownsRow.lt HS.out.o _ e).2; omega
      obtain ⟨Va, hVa⟩ : ∃ V, V = wr.alloc (Obj.cells #[.int .i64 0, .int .i64 0, .string ByteArray.empty] 76) := ⟨_, rfl⟩
      obtain ⟨px, hpx⟩ : ∃ p, p = wr.heap.size := ⟨_, rfl⟩
      have hSa := HS.out.alloc (Obj.cells #[.int .i64 0, .int .i64 0, .string ByteArray.empty] 76)
      have hXa : Blk Va px [.int .i64 0, .int .i64 0, .string ByteArray.empty] 76 := by rw [hVa, hpx]; exact Blk.new _ _ _
      rw [← hVa] at hSa
      rw [← hpx] at hvq
      have HSa := Lib.hid hSa
      have HXa := Lib.hid hXa
      have HVa := Lib.hid hVa
      have HPX := Lib.hid hpx
      have HVQ := Lib.hid hvq
      have hlp : pd < px := by rw [hpx]; exact HS.out.g.lt
      have HLP : Hid (pr < px) := Lib.hid (by have := HS.out.o3; omega)
      have HNM2 := Lib.hid (HNM.out Va hSa.r)
      have HLZ := Lib.hid hLz
      clear hSa hXa hVa hpx hvq HS hQ hNZ hRk hLz hLR hz HNM
      go_upto_region 11 with fail
      rw [← HPX.out, ← HVa.out]
      clear r2
      go_wp2_with fail
      refine HNM2.out.mono ?_
      rintro e wb ⟨rfl, hrb, hgb⟩
      have HSb := Lib.hid (HSa.out.read hrb hgb)
      have HXb := Lib.hid (HXa.out.grown hgb (by have := HLP.out; simp; omega))
      clear hrb hgb HSa HXa HNM2 HVa
      go_upto_if 43 with fail
      go_cut [] (fun wx => RdS 121 w wx pz pr pd s B1 B2 sz v L y ∧ Blk wx px [.int .i64 xp, .int .i64 xl, .string xt] 76)
      case first =>
        by_cases h1 : K % 2 = 1
        · have HE := Lib.hid (HC.out h1)
          have e1 : (((K : Int) % 2) == 1) = true := by simp; omega
          have f1 := HXb.out.frozen 1
          have c1 := HXb.out.cell (i := 1) rfl
          clear HC HL HT h1
          go_upto_region 14 with fail
          have HSc := Lib.hid (HSb.out.setq px 1 (.int .i64 ((K : Int) / 2)) hlp HVQ.out)
          have HXc := Lib.hid (HXb.out.set 1 (.int .i64 ((K : Int) / 2)))
          obtain ⟨Vc, hVc⟩ : ∃ V, V = wb.setCell ⟨px, 1, none⟩ (.int .i64 ((K : Int) / 2)) := ⟨_, rfl⟩
          rw [← hVc] at HSc HXc
          rw [← hVc]
          clear hVc f1 c1
          go_wp2_with fail
          refine (rnum_rd Vc pr s z1 (by omega) HSc.out.r).mono ?_
          rintro e wd ⟨rfl, hrd, hgd⟩
          have HSd := Lib.hid (HSc.out.read hrd hgd)
          have HXd := Lib.hid (HXc.out.grown hgd (by have := HLP.out; simp; omega))
          have c0 := HXd.out.cell (i := 0) rfl
          have f0 := HXd.out.frozen 0
          clear hrd hgd
          go_wp2_with fail
          go_meet
          case rel =>
            have HG := HSd.out.setq px 0 (.int .i64 ((stNum z1).1 : Nat)) hlp HVQ.out
            have HX := HXd.out.set 0 (.int .i64 ((stNum z1).1 : Nat))
            have he := HE.out
            injection he with he1 he2
            injection he1 with e1 e2 e3
            subst e1 e2 e3 he2
            refine ⟨HG, ?_⟩
            have hc : ((K / 2 : Nat) : Int) = (K : Int) / 2 := by omega
            rw [hc]
            exact HX
        · by_cases h2 : 4096 < K / 2
          · have HE := Lib.hid (HL.out h1 h2)
            have e1 : (((K : Int) % 2) == 1) = false := by simp; omega
            have e2 : decide ((4096 : Int) < (K : Int) / 2) = true := decide_eq_true (by omega)
            have f1 := HXb.out.frozen 1
            have c1 := HXb.out.cell (i := 1) rfl
            clear HC HL HT h1 h2
            go_wp2_with fail
            go_meet
            case rel =>
              have HG := HSb.out.setq px 1 (.int .i64 (-1)) hlp HVQ.out
              have HX := HXb.out.set 1 (.int .i64 (-1))
              have he := HE.out
              injection he with he1 he2
              injection he1 with e1 e2 e3
              subst e1 e2 e3 he2
              exact ⟨HG, HX⟩
          · have HE := Lib.hid (HT.out h1 h2)
            have e1 : (((K : Int) % 2) == 1) = false := by simp; omega
            have e2 : decide ((4096 : Int) < (K : Int) / 2) = false := decide_eq_false (by omega)
            have HNT : Hid (Calls Try.prog 76 #[.pointer (some ⟨pr, 0, none⟩), .int .i64 ((K : Int) / 2)] wb fun e w' => e = .returned (.string (mkB (stRaw (K / 2) z1).1)) ∧ RdB 121 w' pr s (stRaw (K / 2) z1).2 ∧ wb.grownBy w' (some pr)) := Lib.hid (by
              have := rraw_rd wb pr s z1 (K / 2) (by omega) (by omega) HSb.out.r
              have hc : ((K / 2 : Nat) : Int) = (K : Int) / 2 := by omega
              rw [hc] at this; exact this)
            clear HC HL HT h1 h2
            go_wp2_with fail
            refine HNT.out.mono ?_
            rintro e wd ⟨rfl, hrd, hgd⟩
            have HSd := Lib.hid (HSb.out.read hrd hgd)
            have HXd := Lib.hid (HXb.out.grown hgd (by have := HLP.out; simp; omega))
            have c2 := HXd.out.cell (i := 2) rfl
            have f2 := HXd.out.frozen 2
            clear hrd hgd
            go_wp2_with fail
            go_meet
            case rel =>
              have HG := HSd.out.setq px 2 (.string (mkB (stRaw (K / 2) z1).1)) hlp HVQ.out
              have HX := HXd.out.set 2 (.string (mkB (stRaw (K / 2) z1).1))
              have he := HE.out
              injection he with he1 he2
              injection he1 with e1 e2 e3
              subst e1 e2 e3 he2
              exact ⟨HG, HX⟩
      case rest =>
        obtain ⟨hSc, hXc⟩ := hcut
        have HSc := Lib.hid hSc
        have HXc := Lib.hid hXc
        clear hSc hXc HSb HXb HC HL HT
        by_cases hy : y.2 = 0
        · have dy : (((y.2 : Nat) : Int) == 0) = true := by simp [hy]
          have HY := Lib.hid hy
          have HST := Lib.hid (step_any wc xp xl xt (wfI _ (by omega) (by omega)) (wfI _ (by omega) (by omega)) (by unfold maxLen; omega))
          obtain ⟨at_, hat, hzl, hrb⟩ := HSc.out.r
          have r2 := hrb.cell (i := 2) rfl
          have y0 := HXc.out.cell (i := 0) rfl
          have y1 := HXc.out.cell (i := 1) rfl
          have y2 := HXc.out.cell (i := 2) rfl
          clear hat hzl hrb hy
          go_wp2_with fail
          refine HST.out.mono ?_
          rintro e we ⟨⟨r, rfl, hr⟩, hbe⟩
          have HSX := Lib.hid (HSc.out.next hbe)
          have HXe := Lib.hid (HXc.out.below hbe HXc.out.lt)
          clear hbe HST HSc HXc y0 y1 y2 r2
          cases r with
          | false =>
            have HPE : Hid (P = (dl0, 5)) := Lib.hid (by
              have := hBAD.out (by rw [HY.out]; simp) (fun h => by have := hr.2 h; cases this)
              rw [HP.out, this]; exact rdTail_err (by simp))
            clear hr hBAD hGO hER hLF
            have zc0 := HSX.out.zb.cell (i := 0) rfl
            have zc1 := HSX.out.zb.cell (i := 1) rfl
            have zc2 := HSX.out.zb.cell (i := 2) rfl
            have zc3 := HSX.out.zb.cell (i := 3) rfl
            have f0 := HSX.out.zb.frozen 0
            have f1 := HSX.out.zb.frozen 1
            have f2 := HSX.out.zb.frozen 2
            have f3 := HSX.out.zb.frozen 3
            go_wp2
            refine bodyPost_ret (res_cell_row rfl _ _ pz 25 _ (0, 0) _ rfl (HSX.out.put _ _ _ _).1 Try.underlying25 rfl (by kernel_rfl)) rfl ?_
            exact ReadR.zero HPE.out (HSX.out.put _ _ _ _).2.1
          | true =>
            have hrx := hr.1 rfl
            have HRK : Hid (R = rdSteps (n - (k + 1)) (L ++ [⟨xp, xl, xt⟩]) y) := Lib.hid (hGO.out (by rw [HY.out]; simp) hrx)
            have HLR2 : Hid (∀ x ∈ L ++ [(⟨xp, xl, xt⟩ : St)], rightS x) := Lib.hid (fun x hx => by rcases List.mem_append.1 hx with h | h; exact HLR.out x h; rw [List.mem_singleton.1 h]; exact hrx)
            have HLL : Hid ((L ++ [(⟨xp, xl, xt⟩ : St)]).length + y.1.length ≤ s.size) := Lib.hid (by have := hLF.out HY.out; have := HLZ.out; rw [List.length_append, List.length_singleton]; omega)
            have HEND : Hid ((y.2 = 0 → R = rdSteps (n - (k + 1)) (L ++ [⟨xp, xl, xt⟩]) y ∧ (L ++ [(⟨xp, xl, xt⟩ : St)]).length + y.1.length ≤ s.size ∧ ∀ x ∈ L ++ [(⟨xp, xl, xt⟩ : St)], rightS x) ∧ (y.2 ≠ 0 → P = (dl0, y.2))) := Lib.hid ⟨fun _ => ⟨HRK.out, HLL.out, HLR2.out⟩, fun h => absurd HY.out h⟩
            clear hr hBAD hGO hER hLF hrx
            obtain ⟨aw, kw, rfl⟩ := owns_slice HSX.out.o
            have q3 := HSX.out.g.cell (i := 3) rfl
            have y0 := HXe.out.cell (i := 0) rfl
            have y1 := HXe.out.cell (i := 1) rfl
            have y2 := HXe.out.cell (i := 2) rfl
            have HOA : Hid (we.ownsRow (pd + 1) 76 3 (.slice aw L.length kw) L.length (L.flatMap St.c)) := Lib.hid HSX.out.o
            have HLB : Hid (L.length ≤ 2000000) := Lib.hid hLL
            have HL2 : Hid ((L ++ [(⟨xp, xl, xt⟩ : St)]).length ≤ 2000000) := Lib.hid (by have := HLZ.out; rw [List.length_append, List.length_singleton]; omega)
            have hpdl : pd + 1 ≤ we.heap.size := HSX.out.g.lt
            clear hLL
            go_wp2_with (at_builtin; refine wpList_append_own_at _ rfl _ _ 23 rfl (pd + 1) 76 i0 (.agg #[.int .i64 0, .int .i64 0, .string ByteArray.empty]) 3 32 Try.underlying23 hi hz0 hz1 hz2 rfl (by decide) _ L.length (L.flatMap St.c) rfl (World.ownsRow.alloc HOA.out _) ⟨we.heap.size, 0, none⟩ 1 1 [.int .i64 xp, .int .i64 xl, .string xt] rfl rfl (cells_new we _ _) (sc_one ⟨xp, xl, xt⟩) (by have := HLB.out; unfold maxLen; omega) (by have := HLB.out; omega) (by simp; omega) ?_)
            intro v5 w5 hO5 hg5 _ _
            obtain ⟨a5, k5, rfl⟩ := owns_slice hO5
            have hS5 := (HSX.out.alloc (.cells #[.int .i64 xp, .int .i64 xl, .string xt] 76)).app (x := ⟨xp, xl, xt⟩) hO5 hg5
            have hG5 := (HSX.out.alloc (.cells #[.int .i64 xp, .int .i64 xl, .string xt] 76)).g.grown hg5 (fun e => by have := (World.ownsRow.lt HOA.out pd e.symm).1; omega)
            have c5 := hG5.cell (i := 3) rfl
            have g5 := hG5.frozen 3
            have HS5 := Lib.hid hS5
            clear hS5 hG5 hO5 hg5 q3 y0 y1 y2 HOA HSX
            go_wp2
            go_roundw
            case rel => exact ⟨k + 1, _, L ++ [⟨xp, xl, xt⟩], y, by go_num, by omega, HS5.out, HL2.out, HEND.out.1, HEND.out.2⟩
            case measure => simp [intOf]; omega
        · have dy : (((y.2 : Nat) : Int) == 0) = false := by simp [hy]
          have HPE : Hid (P = (dl0, y.2)) := Lib.hid (by rw [HP.out, hER.out hy]; exact rdTail_err hy)
          have HEND : Hid ((y.2 = 0 → R = rdSteps (n - (k + 1)) (L ++ [⟨xp, xl, xt⟩]) y ∧ (L ++ [(⟨xp, xl, xt⟩ : St)]).length + y.1.length ≤ s.size ∧ ∀ x ∈ L ++ [(⟨xp, xl, xt⟩ : St)], rightS x) ∧ (y.2 ≠ 0 → P = (dl0, y.2))) := Lib.hid ⟨fun h => absurd h hy, fun _ => HPE.out⟩
          obtain ⟨at_, hat, hzl, hrb⟩ := HSc.out.r
          have r2 := hrb.cell (i := 2) rfl
          have HSX := HSc
          have HXe := HXc
          clear hat hzl hrb hy HSc HXc hBAD hGO hER hLF
          obtain ⟨aw, kw, rfl⟩ := owns_slice HSX.out.o
          have q3 := HSX.out.g.cell (i := 3) rfl
          have y0 := HXe.out.cell (i := 0) rfl
          have y1 := HXe.out.cell (i := 1) rfl
          have y2 := HXe.out.cell (i := 2) rfl
          have HOA : Hid (wc.ownsRow (pd + 1) 76 3 (.slice aw L.length kw) L.length (L.flatMap St.c)) := Lib.hid HSX.out.o
          have HLB : Hid (L.length ≤ 2000000) := Lib.hid hLL
          have HL2 : Hid ((L ++ [(⟨xp, xl, xt⟩ : St)]).length ≤ 2000000) := Lib.hid (by have := HLZ.out; rw [List.length_append, List.length_singleton]; omega)
          have hpdl : pd + 1 ≤ wc.heap.size := HSX.out.g.lt
          clear hLL
          go_wp2_with (at_builtin; refine wpList_append_own_at _ rfl _ _ 23 rfl (pd + 1) 76 i0 (.agg #[.int .i64 0, .int .i64 0, .string ByteArray.empty]) 3 32 Try.underlying23 hi hz0 hz1 hz2 rfl (by decide) _ L.length (L.flatMap St.c) rfl (World.ownsRow.alloc HOA.out _) ⟨wc.heap.size, 0, none⟩ 1 1 [.int .i64 xp, .int .i64 xl, .string xt] rfl rfl (cells_new wc _ _) (sc_one ⟨xp, xl, xt⟩) (by have := HLB.out; unfold maxLen; omega) (by have := HLB.out; omega) (by simp; omega) ?_)
          intro v5 w5 hO5 hg5 _ _
          obtain ⟨a5, k5, rfl⟩ := owns_slice hO5
          have hS5 := (HSX.out.alloc (.cells #[.int .i64 xp, .int .i64 xl, .string xt] 76)).app (x := ⟨xp, xl, xt⟩) hO5 hg5
          have hG5 := (HSX.out.alloc (.cells #[.int .i64 xp, .int .i64 xl, .string xt] 76)).g.grown hg5 (fun e => by have := (World.ownsRow.lt HOA.out pd e.symm).1; omega)
          have c5 := hG5.cell (i := 3) rfl
          have g5 := hG5.frozen 3
          have HS5 := Lib.hid hS5
          clear hS5 hG5 hO5 hg5 q3 y0 y1 y2 HOA HSX
          go_wp2
          go_roundw
          case rel => exact ⟨k + 1, _, L ++ [⟨xp, xl, xt⟩], y, by go_num, by omega, HS5.out, HL2.out, HEND.out.1, HEND.out.2⟩
          case measure => simp [intOf]; omega
    · have hEX : Hid ((k < n → z.2 ≠ 0)) := Lib.hid (fun h h2 => hgo ⟨h, h2⟩)
      have HEN := Lib.hid (rend_rd wr pr s z (by omega) HS.out.r)
      have HEN0 : Hid (z.2 = 0 → R = (L, z, 0) ∧ ∀ x ∈ L, rightS x) := Lib.hid (fun h => by
        obtain ⟨a1, a2, a3⟩ := HOK.out h
        have : ¬ k < n := fun h2 => hEX.out h2 h
        exact ⟨by rw [a1, show n - k = 0 by omega]; rfl, a3⟩)
      have HEN1 : Hid ((stEnd z).2 ≠ 0 → P = (dl0, (stEnd z).2)) := Lib.hid (fun h => by
        by_cases hz : z.2 = 0
        · rw [HP.out, (HEN0.out hz).1]; exact rdTail_end (by simp) h
        · rw [stEnd_keep hz]; exact HBD.out hz)
      have HENZ : Hid ((stEnd z).2 = 0 → z.2 = 0) := Lib.hid (fun h => by
        by_cases hz : z.2 = 0
        · exact hz
        · rw [stEnd_keep hz] at h; exact h)
      have HEN2 : Hid ((stEnd z).2 = 0 → (∀ x ∈ L, rightS x) ∧ (RightP ⟨B1, B2, sz, L⟩ → P = (⟨B1, B2, sz, L⟩, 0)) ∧ (¬ RightP ⟨B1, B2, sz, L⟩ → P = (dl0, 5))) := Lib.hid (fun h => by
        obtain ⟨a1, a2⟩ := HEN0.out (HENZ.out h)
        exact ⟨a2, fun h2 => by rw [HP.out, a1]; exact rdTail_yes (by simp) (by simp only; rw [h]; simp) h2, fun h2 => by rw [HP.out, a1]; exact rdTail_no (by simp) (by simp only; rw [h]; simp) h2⟩)
      obtain ⟨y, hy⟩ : ∃ y, y = stEnd z := ⟨_, rfl⟩
      rw [← hy] at HEN HEN1 HEN2 HENZ
      have HLLH := Lib.hid hLL
      clear hy hgo HEN0
      by_cases hlt : k < n
      case' pos =>
        have hg2 : (((z.2 : Nat) : Int) == 0) = false := by simpa using hEX.out hlt
        have i1 : (k : Int) < (n : Int) := by omega
      all_goals
        go_wp2_with fail
        refine HEN.out.mono ?_
        rintro e w8 ⟨rfl, hr8, hg8⟩
        have HSX := Lib.hid (HS.out.read hr8 hg8)
        clear hr8 hg8 HS HEN
        by_cases hy : y.2 = 0
        · have d1 : (((y.2 : Nat) : Int) != 0) = false := by simp [hy]
          obtain ⟨hLR, hY, hN⟩ := HEN2.out hy
          have HYN := Lib.hid (And.intro hY hN)
          obtain ⟨aw, kw, rfl⟩ := owns_slice HSX.out.o
          have HLB : Hid (L.length ≤ maxLen) := Lib.hid (by have := HLLH.out; unfold maxLen; omega)
          have HRT := Lib.hid (refRight_any w8 B1 B2 sz aw L.length kw L (wfI _ (by omega) (by omega)) (by unfold maxLen; omega) (by unfold maxLen; omega) (Own.rs rfl HSX.out.o) (fun x hx => rightS_ok (hLR x hx)))
          have q0 := HSX.out.g.cell (i := 0) rfl
          have q1 := HSX.out.g.cell (i := 1) rfl
          have q2 := HSX.out.g.cell (i := 2) rfl
          have q3 := HSX.out.g.cell (i := 3) rfl
          have HS8 := HSX
          clear HSX hy hLR hY hN HEN1 HEN2 HENZ
          go_wp2_with fail
          refine HRT.out.mono ?_
          rintro e wa ⟨⟨r, rfl, hr⟩, hba⟩
          have HSX := Lib.hid (HS8.out.next hba)
          clear hba HRT HS8 q0 q1 q2 q3
          cases r with
          | false =>
            have HPE : Hid (P = (dl0, 5)) := Lib.hid (HYN.out.2 (fun h => by have := hr.2 h; cases this))
            clear hr HYN
            have zc0 := HSX.out.zb.cell (i := 0) rfl
            have zc1 := HSX.out.zb.cell (i := 1) rfl
            have zc2 := HSX.out.zb.cell (i := 2) rfl
            have zc3 := HSX.out.zb.cell (i := 3) rfl
            have f0 := HSX.out.zb.frozen 0
            have f1 := HSX.out.zb.frozen 1
            have f2 := HSX.out.zb.frozen 2
            have f3 := HSX.out.zb.frozen 3
            go_wp2
            refine bodyPost_ret (res_cell_row rfl _ _ pz 25 _ (0, 0) _ rfl (HSX.out.put _ _ _ _).1 Try.underlying25 rfl (by kernel_rfl)) rfl ?_
            exact ReadR.zero HPE.out (HSX.out.put _ _ _ _).2.1
          | true =>
            have HPE : Hid (P = (⟨B1, B2, sz, L⟩, 0)) := Lib.hid (HYN.out.1 (hr.1 rfl))
            clear hr HYN
            have q0 := HSX.out.g.cell (i := 0) rfl
            have q1 := HSX.out.g.cell (i := 1) rfl
            have q2 := HSX.out.g.cell (i := 2) rfl
            have q3 := HSX.out.g.cell (i := 3) rfl
            have zc0 := HSX.out.zb.cell (i := 0) rfl
            have zc1 := HSX.out.zb.cell (i := 1) rfl
            have zc2 := HSX.out.zb.cell (i := 2) rfl
            have zc3 := HSX.out.zb.cell (i := 3) rfl
            have f0 := HSX.out.zb.frozen 0
            have f1 := HSX.out.zb.frozen 1
            have f2 := HSX.out.zb.frozen 2
            have f3 := HSX.out.zb.frozen 3
            go_wp2
            refine bodyPost_ret (res_cell_row rfl _ _ pz 25 _ (0, 0) _ rfl (HSX.out.put _ _ _ _).1 Try.underlying25 rfl (by kernel_rfl)) rfl ?_
            rw [HPE.out]
            exact ⟨_, rfl, (HSX.out.put _ _ _ _).2.2, (HSX.out.put _ _ _ _).2.1⟩
        · have d1 : (((y.2 : Nat) : Int) != 0) = true := by simp [hy]
          have HPE : Hid (P = (dl0, y.2)) := Lib.hid (HEN1.out hy)
          clear HEN1 HEN2 HENZ hy
          have zc0 := HSX.out.zb.cell (i := 0) rfl
          have zc1 := HSX.out.zb.cell (i := 1) rfl
          have zc2 := HSX.out.zb.cell (i := 2) rfl
          have zc3 := HSX.out.zb.cell (i := 3) rfl
          have f0 := HSX.out.zb.frozen 0
          have f1 := HSX.out.zb.frozen 1
          have f2 := HSX.out.zb.frozen 2
          have f3 := HSX.out.zb.frozen 3
          go_wp2
          refine bodyPost_ret (res_cell_row rfl _ _ pz 25 _ (0, 0) _ rfl (HSX.out.put _ _ _ _).1 Try.underlying25 rfl (by kernel_rfl)) rfl ?_
          exact ReadR.zero HPE.out (HSX.out.put _ _ _ _).2.1
end Go.Proofs.Ytgemhgllifhckaa
