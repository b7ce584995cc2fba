/- Do's partly. Conditions: as named in each theorem. -/
import Derived.Test.YtgkcnocfijckoaaGreatSD
import Derived.Laws.EntriesVeiled
namespace Go.Proofs.YtgkcnocfijckoaaGreat
open Go.RowKit Sg
set_option linter.unusedVariables false
set_option linter.unusedSimpArgs false
set_option maxRecDepth 100000 in
set_option maxHeartbeats 4000000 in
theorem stDoD_any (w : World) (ps p m base pr : Nat) (v : Value) (S : Bk) (l : List Gn) (im : Int → ByteArray) (s : ByteArray) (z : RSt) (hA : StA w w ps p m base pr v S l s z) (hinv : Inv S l im) (hS : S.length ≤ 90000000) (hs : s.size ≤ 1000000) :
    Calls Tryz.prog 42 #[.pointer (some ⟨ps, 0, none⟩), .pointer (some ⟨pr, 0, none⟩)] w (DoP ps p m base v (TouchD ps m pr v) (doD S l im z) w) := by
  have hgz := gnZ_run
  have hdz := dlZ_run
  have hl := hinv.len
  obtain ⟨D, hD⟩ : ∃ D, D = doD S l im z := ⟨_, rfl⟩
  rw [← hD]
  unfold doD at hD
  have a0 := stNum_left z
  obtain ⟨R0, hR0⟩ : ∃ R, R = stNum z := ⟨_, rfl⟩
  have hb0 := stNum_le z
  rw [← hR0] at hD hb0 a0
  obtain ⟨n, z0⟩ := R0
  simp only at hD hb0 a0
  have a1 := stNum_left z0
  obtain ⟨R1, hR1⟩ : ∃ R, R = stNum z0 := ⟨_, rfl⟩
  have hb1 := stNum_le z0
  rw [← hR1] at hD hb1 a1
  obtain ⟨b, z1⟩ := R1
  simp only at hD hb1 a1
  have a2 := stRaw_left 32 z1
  have hb2 := stRaw_len 32 z1
  obtain ⟨R2, hR2⟩ : ∃ R, R = stRaw 32 z1 := ⟨_, rfl⟩
  rw [← hR2] at hD a2 hb2
  obtain ⟨b2, z2⟩ := R2
  simp only at hD a2 hb2
  have a3 := stRaw_left z2.1.length z2
  have hb3 := stRaw_len z2.1.length z2
  obtain ⟨NL, hNL⟩ : ∃ N, N = z2.1.length := ⟨_, rfl⟩
  rw [← hNL] at hD a3 hb3
  obtain ⟨R3, hR3⟩ : ∃ R, R = stRaw NL z2 := ⟨_, rfl⟩
  rw [← hR3] at hD a3 hb3
  obtain ⟨b3, z3⟩ := R3
  simp only at hD a3 hb3
  have hNs : NL ≤ 1000000 := by
    have h0 : z.1.length ≤ s.size := by
      obtain ⟨a, ha, hz, _⟩ := hA.rd
      rw [hz]; simp
    have := a0.len; have := a1.len; have := a2.len
    omega
  obtain ⟨M, hM⟩ : ∃ M, M = mkB b2 := ⟨_, rfl⟩
  obtain ⟨X, hX⟩ : ∃ X, X = mkB b3 := ⟨_, rfl⟩
  have hMs : M.size ≤ 32 := by rw [hM]; simpa [mkB, ByteArray.size] using hb2
  have hXs : X.size ≤ 1000000 := by rw [hX]; have : b3.length ≤ 1000000 := by omega
                                    simpa [mkB, ByteArray.size] using this
  have hXl : b3 = X.data.toList := by rw [hX, mkB_list]
  rw [← hM, ← hX, hXl] at hD
  obtain ⟨RD, hRD⟩ : ∃ R, R = readD X.data.toList := ⟨_, rfl⟩
  have HRR : Hid (RD.2 = 0 → RightP RD.1) := Lib.hid (by rw [hRD]; exact readD_right)
  rw [← hRD] at hD
  obtain ⟨⟨db, dm, ds, dl⟩, de⟩ := RD
  simp only at hD HRR
  obtain ⟨RH, hRH⟩ : ∃ R, R = hasN l (b : Int) := ⟨_, rfl⟩
  rw [← hRH] at hD
  obtain ⟨tx, htx⟩ : ∃ t, t = im (b : Int) := ⟨_, rfl⟩
  rw [← htx] at hD
  obtain ⟨AR, hAR⟩ : ∃ R, R = applyI S tx ⟨db, dm, ds, dl⟩ := ⟨_, rfl⟩
  obtain ⟨S', hS'⟩ : ∃ R, R = applyB S tx ⟨db, dm, ds, dl⟩ := ⟨_, rfl⟩
  rw [← hAR, ← hS'] at hD
  obtain ⟨at_, ae⟩ := AR
  simp only at hD
  have HTS : Hid (RH = true → tx.size ≤ 524288) := Lib.hid (fun h => by
    rw [hRH] at h
    obtain ⟨g, hg, hgn⟩ := hasN_at h
    have := (hinv.each g (List.mem_of_getElem? hg)).ilen
    rw [hgn] at this
    rw [htx]; exact this)
  have HD := Lib.hid hD
  have HR0 := Lib.hid hR0
  have HR1 := Lib.hid hR1
  have HR2 := Lib.hid hR2
  have HR3 := Lib.hid hR3
  have HNL := Lib.hid hNL
  have HM := Lib.hid hM
  have HX := Lib.hid hX
  have HRD := Lib.hid hRD
  have HRH := Lib.hid hRH
  have HTX := Lib.hid htx
  have HAR := Lib.hid hAR
  have HSS := Lib.hid hS'
  have HA := Lib.hid hA
  have HINV := Lib.hid hinv
  obtain ⟨Q, hQ⟩ : ∃ Q : Ending → World → Prop, Q = DoP ps p m base v (TouchD ps m pr v) D w := ⟨_, rfl⟩
  rw [← hQ]
  have HQ := Lib.hid hQ
  clear hD hR0 hR1 hR2 hR3 hNL hM hX hRD hRH htx hAR hS' hA hQ hinv a0 a1 a2 a3 hb2 hb3 hXl
  go_enter Tryz.func42, Tryz.ntmps42
  go_wp2_with fail
  refine (num_rd w pr s z (by omega) HA.out.rd).mono ?_
  rw [← HR0.out]
  rintro e w0 ⟨rfl, hr0, hg0⟩
  simp only at hr0 ⊢
  have HA0 := Lib.hid (HA.out.read hg0 hr0)
  clear hr0 hg0
  go_wp2_with fail
  refine (num_rd w0 pr s z0 (by omega) HA0.out.rd).mono ?_
  rw [← HR1.out]
  rintro e w1 ⟨rfl, hr1, hg1⟩
  simp only at hr1 ⊢
  have HA1 := Lib.hid (HA0.out.read hg1 hr1)
  clear hr1 hg1
  go_wp2_with fail
  refine (raw_rd w1 pr s z1 32 (by omega) (by omega) HA1.out.rd).mono ?_
  rw [← HR2.out]
  rintro e w2 ⟨rfl, hr2, hg2⟩
  simp only at hr2 ⊢
  rw [← HM.out]
  have HA2 := Lib.hid (HA1.out.read hg2 hr2)
  clear hr2 hg2
  obtain ⟨V, hV⟩ : ∃ V, V = w2.alloc (Obj.cells #[.int .i64 n, .int .i64 b, .string M, .string ByteArray.empty] 92) := ⟨_, rfl⟩
  obtain ⟨q, hq⟩ : ∃ q, q = w2.heap.size := ⟨_, rfl⟩
  have hqw : w.heap.size ≤ q := by rw [hq]; exact HA2.out.kept.size
  have hG : Blk V q [.int .i64 n, .int .i64 b, .string M, .string ByteArray.empty] 92 := by rw [hV, hq]; exact Blk.new _ _ _
  have HAV := Lib.hid (HA2.out.below (by rw [hV]; exact below_alloc _ _ : Below w2.heap.size w2 V))
  have HV := Lib.hid (And.intro hV hq)
  have HG := Lib.hid hG
  have HQW := Lib.hid hqw
  clear hV hq hG hqw
  go_upto_region 2 with fail
  rw [← HV.out.1, ← HV.out.2]
  go_wp2_with fail
  refine (left_rdb V pr s z2 (by omega) HAV.out.rd).mono ?_
  rw [← HNL.out]
  rintro e w3 ⟨rfl, hb3⟩
  have HA4 := Lib.hid (HAV.out.below hb3)
  have HG3 := Lib.hid (HG.out.below hb3 HG.out.lt)
  clear hb3
  go_wp2_with fail
  refine (raw_rd w3 pr s z2 NL (by omega) (by omega) HA4.out.rd).mono ?_
  rw [← HR3.out]
  rintro e w4 ⟨rfl, hr4, hg4⟩
  simp only at hr4 ⊢
  rw [← HX.out]
  have HA5 := Lib.hid (HA4.out.read hg4 hr4)
  have hqp : some q ≠ some pr := by have := HA.out.lt.2.2.2.1; have := HQW.out; simp; omega
  have HG4 := Lib.hid (HG3.out.grown hg4 hqp)
  have f3 := HG4.out.frozen 3
  have c3 := HG4.out.cell (i := 3) rfl
  clear hr4 hg4 hqp
  go_upto_region 3 with fail
  obtain ⟨V4, hV4⟩ : ∃ V4, V4 = w4.setCell ⟨q, 3, none⟩ (.string X) := ⟨_, rfl⟩
  rw [← hV4]
  have HG5 : Hid (Blk V4 q [.int .i64 n, .int .i64 b, .string M, .string X] 92) := Lib.hid (by rw [hV4]; exact HG4.out.set 3 _)
  have HA6 : Hid (StA w V4 ps p m base pr v S l s z3) := Lib.hid (by rw [hV4]; exact HA5.out.setq HQW.out _ _)
  clear hV4 f3 c3
  have HER := Lib.hid (errs_d V4 pr s z3 HA6.out.rd)
  obtain ⟨r3, er⟩ := z3
  simp only at HER
  go_wp2_with fail
  refine HER.out.mono ?_
  rintro e w5 ⟨rfl, rfl⟩
  by_cases he : er = 0
  case neg =>
    have hne : (((er : Nat) : Int) != 0) = true := by simpa using he
    have HF : Hid (Q (.returned (.int .i64 (er : Nat))) V4) := Lib.hid (by
      rw [HQ.out]
      exact HA6.out.out (im := im) (by rw [HD.out, if_pos he]))
    clear he
    go_wp2_with fail
    refine HER.out.mono ?_
    rintro e w5 ⟨rfl, rfl⟩
    go_wp2
    exact HF.out
  subst he
  have q0 := HG5.out.cell (i := 0) rfl
  have q1 := HG5.out.cell (i := 1) rfl
  have q3 := HG5.out.cell (i := 3) rfl
  by_cases hx : n ≤ b
  case pos =>
    have d1 : decide ((n : Int) ≤ (b : Int)) = true := decide_eq_true (by omega)
    have d1' : decide (n ≤ b) = true := decide_eq_true hx
    have HF : Hid (Q (.returned (.int .i64 2)) V4) := Lib.hid (by
      rw [HQ.out]
      exact HA6.out.out (im := im) (by rw [HD.out, if_neg (by simp), if_pos hx]))
    clear hx
    go_wp2
    exact HF.out
  have d1 : decide ((n : Int) ≤ (b : Int)) = false := decide_eq_false (by omega)
  have d1' : decide (n ≤ b) = false := decide_eq_false hx
  have HXX := Lib.hid hx
  clear hx
  have HDR := Lib.hid (read_d V4 X hXs)
  rw [← HRD.out] at HDR
  go_wp2_with fail
  refine HDR.out.mono ?_
  rintro e w5 ⟨v5, rfl, hO5, hb5⟩
  simp only at hO5
  obtain ⟨a5, k5, rfl⟩ := owns_slice hO5
  simp only
  obtain ⟨U, hU⟩ : ∃ U, U = w5.alloc (Obj.cells #[.string db, .string dm, .int .i64 ds, .slice a5 dl.length k5] 55) := ⟨_, rfl⟩
  obtain ⟨qd, hqd⟩ : ∃ q, q = w5.heap.size := ⟨_, rfl⟩
  have hDB : Blk U qd [.string db, .string dm, .int .i64 ds, .slice a5 dl.length k5] 55 := by rw [hU, hqd]; exact Blk.new _ _ _
  have hbU : Below V4.heap.size V4 U := by rw [hU]; exact bl_nx hb5 (below_alloc _ _)
  have hOU : Own U V4.heap.size (.slice a5 dl.length k5) dl := by rw [hU]; exact hO5.alloc _
  have hqdq : V4.heap.size ≤ qd := by rw [hqd]; exact hb5.size
  have HAU := Lib.hid (HA6.out.below hbU)
  have HGU := Lib.hid (HG5.out.below hbU HG5.out.lt)
  have HU := Lib.hid (And.intro hU hqd)
  have HDB := Lib.hid hDB
  have HOU := Lib.hid hOU
  have HVU := Lib.hid (And.intro hbU.size hqdq)
  clear hU hqd hDB hbU hOU hqdq hO5 hb5 HDR q0 q1 q3
  go_upto_region 8 with fail
  rw [← HU.out.1, ← HU.out.2]
  by_cases he : de = 0
  case neg =>
    have hne : (((de : Nat) : Int) != 0) = true := by simpa using he
    have HF : Hid (Q (.returned (.int .i64 (de : Nat))) U) := Lib.hid (by
      rw [HQ.out]
      exact HAU.out.out (im := im) (by rw [HD.out, if_neg (by simp), if_neg HXX.out, if_pos he]))
    clear he
    go_wp2
    exact HF.out
  subst he
  have q1 := HGU.out.cell (i := 1) rfl
  have HMD := Lib.hid (made_any U ps p m base v S l im HAU.out.st HAU.out.bk HINV.out hS HA.out.bs.2.1 (Nat.le_trans HA.out.bs.2.2.2 HAU.out.kept.size) HA.out.ne.2.2.2.2.2 (b : Int))
  rw [← HRH.out, ← HTX.out] at HMD
  cases RH
  case false =>
    go_wp2_with fail
    refine HMD.out.mono ?_
    rintro e w6 ⟨rfl, hI6, hk6⟩
    have HF : Hid (Q (.returned (.int .i64 8)) w6) := Lib.hid (by
      rw [HQ.out]
      exact (HAU.out.book hk6 hI6).out (im := im) (by rw [HD.out, if_neg (by simp), if_neg HXX.out, if_neg (by simp), if_pos (by first | rfl | trivial)]))
    clear hI6 hk6 HMD
    go_wp2
    exact HF.out
  have hts := HTS.out rfl
  go_wp2_with fail
  refine HMD.out.mono ?_
  rintro e w6 ⟨rfl, hI6, hk6⟩
  have hmq : ¬ (some m = some q) := fun e => by injection e with e; have := HA.out.lt.2.2.1; have := HQW.out; omega
  have hmV : m < V4.heap.size := HA6.out.bk.2.2.2.2.1.2
  have hmd : ¬ (some m = some qd) := fun e => by injection e with e; have := HVU.out.2; omega
  have HA7 := Lib.hid (HAU.out.book hk6 hI6)
  have hG7 := blkKept HGU.out hk6 hmq
  have hDB7 := blkKept HDB.out hk6 hmd
  have hO7 : Own w6 V4.heap.size (.slice a5 dl.length k5) dl := row_kept HOU.out hk6 hmV
  have HG7 := Lib.hid hG7
  have HDB7 := Lib.hid hDB7
  have hRP := HRR.out (by first | rfl | trivial)
  have hdl1 := sum2_len hRP.2.2.2.2.1
  have hdl2 := hRP.2.2.2.2.2
  have hdl3 := hRP.2.2.2.1
  simp only at hdl1 hdl2 hdl3
  have t0 := HA7.out.st.1.cell (i := 0) rfl
  have x0 := hDB7.cell (i := 0) rfl
  have x1 := hDB7.cell (i := 1) rfl
  have x2 := hDB7.cell (i := 2) rfl
  have x3 := hDB7.cell (i := 3) rfl
  have HAP := Lib.hid (apply_i w6.drew p m S (hI6.next (bl_drew (Below.refl _ w6))) (by omega) tx db dm ds a5 dl.length k5 dl (wfI _ (by have := hRP.2.2.1; simp only at this; omega) (by omega)) (by have := hRP.1; simp only at this; rw [this]; decide) (by have := hRP.2.1; simp only at this; rw [this]; decide) (Own.rs rfl (hO7.below (bl_drew (Below.refl _ w6)))) (fun z hz => by
    obtain ⟨r1, r2, r3, r4, r5⟩ := rightS_pos (hRP.2.2.2.2.1 z hz)
    exact ⟨wfI _ (by omega) (by omega), wfI _ (by omega) (by omega), by unfold maxLen; omega⟩) (by omega) hts (fun W hW => Own.rs rfl (row_kept (hO7.below (bl_drew (Below.refl _ w6))) hW hmV)))
  rw [← HAR.out, ← HSS.out] at HAP
  simp only at HAP
  have hpsm : ¬ (some m = some ps) := fun e => by injection e with e; exact HA.out.ne.2.2.2.2.2 e.symm
  have hpl : ps < w6.drew.heap.size := HA7.out.st.lt
  have hdl : qd < w6.drew.heap.size := hDB7.lt
  have hdm : dm.size = 32 := hRP.2.1
  clear hI6 hk6 hG7 hDB7 hO7 hRP hdl1 hdl2 hdl3 HMD q1
  go_upto_region 13 with fail
  go_region_held3 (fun w' => w'.cell? ⟨ps, 0, none⟩ = some (.pointer (some ⟨p, 0, none⟩)) ∧ w'.cell? ⟨qd, 0, none⟩ = some (.string db) ∧ w'.cell? ⟨qd, 1, none⟩ = some (.string dm) ∧ w'.cell? ⟨qd, 2, none⟩ = some (.int .i64 ds) ∧ w'.cell? ⟨qd, 3, none⟩ = some (.slice a5 dl.length k5))
    (first | exact ⟨t0, x0, x1, x2, x3⟩)
    (first | (go_at_call 72; refine HAP.out.mono ?_; rintro e w7 ⟨rfl, hI7, hk7⟩; replace t0 := (hk7.cell (i := 0) hpl hpsm).trans t0; replace x0 := (hk7.cell (i := 0) hdl hmd).trans x0; replace x1 := (hk7.cell (i := 1) hdl hmd).trans x1; replace x2 := (hk7.cell (i := 2) hdl hmd).trans x2; replace x3 := (hk7.cell (i := 3) hdl hmd).trans x3))
  all_goals
    have hk67 : Kept (fun k => some m = some k) w6 w7 := (Kept.of_below (fun k => some m = some k) (bl_drew (Below.refl _ w6))).trans hk7 (fun _ _ h => h)
    have HA8 := Lib.hid (HA7.out.book hk67 hI7)
    have hG8 := blkKept HG7.out hk67 hmq
    have HG8 := Lib.hid hG8
    have HD8 := Lib.hid (blkKept HDB7.out hk67 hmd)
    clear hk67 hk7 hI7 t0 x0 x1 x2 x3 HAP
    by_cases he : ae = 0
    case neg =>
      have hne : (ae != 0) = true := by simpa using he
      have HF : Hid (Q (.returned (.int .i64 ae)) w7) := Lib.hid (by
        rw [HQ.out]
        exact HA8.out.out (im := im) (by rw [HD.out, if_neg (by simp), if_neg HXX.out, if_neg (by simp), if_neg (by simp), if_pos he]))
      clear he
      go_wp2
      exact HF.out
    have hne : (ae != 0) = false := by simpa using he
    have HAE := Lib.hid he
    have x1 := HD8.out.cell (i := 1) rfl
    have q2 := hG8.cell (i := 2) rfl
    clear he
    by_cases hdM : dm = M
    case neg =>
      have hne2 : (dm.toList == M.toList) = false := beqS_f (fun e => hdM (ByteArray.ext (Array.ext' e)))
      have HF : Hid (Q (.returned (.int .i64 6)) w7) := Lib.hid (by
        rw [HQ.out]
        exact HA8.out.out (im := im) (by rw [HD.out, if_neg (by simp), if_neg HXX.out, if_neg (by simp), if_neg (by simp), if_neg (by simpa using HAE.out), if_pos hdM]))
      clear hdM
      go_wp2
      exact HF.out
    have hne2 : (dm.toList == M.toList) = true := beqS_t (by rw [hdM])
    have HDM := Lib.hid hdM
    clear hdM
    have HMK := Lib.hid (stMark_b w7 ps p base v l (n : Int) HA8.out.st (by omega))
    obtain ⟨RG, hRG⟩ : ∃ R, R = hasN l (n : Int) := ⟨_, rfl⟩
    obtain ⟨MK, hMK⟩ : ∃ R, R = markN l (n : Int) := ⟨_, rfl⟩
    rw [← hRG, ← hMK] at HMK
    have HRG := Lib.hid hRG
    have HMM := Lib.hid hMK
    have q0 := HG8.out.cell (i := 0) rfl
    clear hRG hMK
    go_wp2_with fail
    refine HMK.out.mono ?_
    rintro e w8 ⟨rfl, hb8⟩
    have HA9 := Lib.hid (HA8.out.below hb8)
    have hG9 := HG8.out.below hb8 HG8.out.lt
    have HG9 := Lib.hid hG9
    replace q0 := hG9.cell (i := 0) rfl
    have q1 := hG9.cell (i := 1) rfl
    replace q2 := hG9.cell (i := 2) rfl
    have q3 := hG9.cell (i := 3) rfl
    clear hb8 hG8 hG9 HMK x1
    have HDN : Hid (¬ blockN l (n : Int) M → D = (0, setN l ⟨n, b, M, X⟩, updI im n at_, S')) := Lib.hid (fun hn => by
      rw [HD.out, if_neg (by simp), if_neg HXX.out, if_neg (by simp), if_neg (by simp), if_neg (by simpa using HAE.out), if_neg (fun h => h HDM.out), if_neg hn])
    have HDY : Hid (blockN l (n : Int) M → D = (15, l, im, S')) := Lib.hid (fun hn => by
      rw [HD.out, if_neg (by simp), if_neg HXX.out, if_neg (by simp), if_neg (by simp), if_neg (by simpa using HAE.out), if_neg (fun h => h HDM.out), if_pos hn])
    have HGO : Hid (¬ blockN l (n : Int) M → Calls Tryz.prog 71 #[.pointer (some ⟨ps, 0, none⟩), .agg #[.int .i64 n, .int .i64 b, .string M, .string X]] w8 fun e w' => (∃ r, e = .returned r) ∧ Q (.returned (.int .i64 0)) w') := Lib.hid (fun hn => by
      rw [HQ.out]
      exact HA9.out.setCall (x := ⟨n, b, M, X⟩) hl (im := updI im n at_) (HDN.out hn))
    cases RG
    case false =>
      have HSE := Lib.hid (HGO.out (blkB_no (.inl HRG.out.symm)))
      go_wp2_with fail
      refine HSE.out.mono ?_
      rintro e w9 ⟨⟨r, rfl⟩, hF⟩
      have HF := Lib.hid hF
      clear hF
      go_wp2
      exact HF.out
    case true =>
      by_cases hmm : MK = M
      case pos =>
        have HSE := Lib.hid (HGO.out (blkB_no (.inr (.inl (HMM.out.symm.trans hmm)))))
        have hne : (MK.toList == M.toList) = true := beqS_t (by rw [hmm])
        clear hmm
        go_wp2_with fail
        refine HSE.out.mono ?_
        rintro e w9 ⟨⟨r, rfl⟩, hF⟩
        have HF := Lib.hid hF
        clear hF
        go_wp2
        exact HF.out
      case neg =>
        have hne : (MK.toList == M.toList) = false := beqS_f (fun e => hmm (ByteArray.ext (Array.ext' e)))
        have HMN : Hid (markN l (n : Int) ≠ M) := Lib.hid (fun e => hmm (HMM.out.trans e))
        have HHG := Lib.hid (stHangs_any w8 ps p base v l HA9.out.st (by omega) (n : Int))
        obtain ⟨HH, hHH⟩ : ∃ R, R = hangsN l (n : Int) := ⟨_, rfl⟩
        rw [← hHH] at HHG
        have HHE := Lib.hid hHH
        clear hHH hmm
        go_wp2_with fail
        refine HHG.out.mono ?_
        rintro e w9 ⟨rfl, hb9⟩
        have HAa := Lib.hid (HA9.out.below hb9)
        have hGa := HG9.out.below hb9 HG9.out.lt
        replace q0 := hGa.cell (i := 0) rfl
        replace q1 := hGa.cell (i := 1) rfl
        replace q2 := hGa.cell (i := 2) rfl
        replace q3 := hGa.cell (i := 3) rfl
        clear hb9 hGa HHG
        cases HH
        case true =>
          have HF : Hid (Q (.returned (.int .i64 15)) w9) := Lib.hid (by
            rw [HQ.out]
            exact HAa.out.out (im := im) (HDY.out (blkB_yes HRG.out.symm HMN.out HHE.out.symm)))
          go_wp2
          exact HF.out
        case false =>
          have HSE : Hid (Calls Tryz.prog 71 #[.pointer (some ⟨ps, 0, none⟩), .agg #[.int .i64 n, .int .i64 b, .string M, .string X]] w9 fun e w' => (∃ r, e = .returned r) ∧ Q (.returned (.int .i64 0)) w') := Lib.hid (by
            rw [HQ.out]
            exact HAa.out.setCall (x := ⟨n, b, M, X⟩) hl (im := updI im n at_) (HDN.out (blkB_no (.inr (.inr HHE.out.symm)))))
          go_wp2_with fail
          refine HSE.out.mono ?_
          rintro e wa ⟨⟨r, rfl⟩, hF⟩
          have HF := Lib.hid hF
          clear hF
          go_wp2
          exact HF.out
end Go.Proofs.YtgkcnocfijckoaaGreat
namespace Go.Proofs.YtgkcnocfijckoaaGreat
open Go.RowKit Sg Go.Shelf
set_option linter.unusedVariables false
set_option linter.unusedSimpArgs false
def goB (f c : Int) (g : Gn) : Bool := !staysN f c g.gen
def stayB (f c : Int) (g : Gn) : Bool := staysN f c g.gen
theorem clear_gn (w : World) (ty : TypeId) (r o n cp : Nat) (hn : 0 < n) (hc : ∀ j, j < n * 4 → (w.cell? ⟨r, o + j, none⟩).isSome = true) (hf : ∀ j, j < n * 4 → w.frozen? ⟨r, o + j, none⟩ = false) :
    (Builtin.clear_ #[86] ty #[.slice (some ⟨r, o, none⟩) n cp]).run Tryz.prog w = .ok (.tuple #[]) (w.setCells r o (Builtin.zeroCells (Value.agg #[.int .i64 0, .int .i64 0, .string ByteArray.empty, .string ByteArray.empty]).cells n).toList) := by
  obtain ⟨Z, hZ⟩ : ∃ Z, Z = (Value.agg #[.int .i64 0, .int .i64 0, .string ByteArray.empty, .string ByteArray.empty]).cells := ⟨_, rfl⟩
  have hZs : Z.size = 4 := by rw [hZ]; rfl
  have hZ1 : ∀ i, i < 4 → (Z[i]!).oneCell' = true := by
    intro i hi
    rw [hZ]
    match i, hi with
    | 0, _ => rfl
    | 1, _ => rfl
    | 2, _ => rfl
    | 3, _ => rfl
  have hl : (Builtin.zeroCells Z n).toList.length = n * 4 := by rw [Array.length_toList, size_zeroCells, hZs]
  have h1 : ∀ v ∈ (Builtin.zeroCells Z n).toList, v.oneCell' = true := by
    intro v hv
    unfold Builtin.zeroCells at hv
    rw [Array.toList_map, List.mem_map] at hv
    obtain ⟨i, _, rfl⟩ := hv
    exact hZ1 _ (by rw [hZs]; omega)
  rw [← hZ]
  have hst := run_storeCells_cells (P := Tryz.prog) r o (Builtin.zeroCells Z n).toList 0 w (by simpa [hl] using hc) (by simpa [hl] using hf) h1
  simp only [Nat.add_zero] at hst
  have hv := gnZ_run w
  obtain ⟨m, rfl⟩ : ∃ m, n = m + 1 := ⟨n - 1, by omega⟩
  simp [Builtin.clear_, run_underlying underGs, hv, ← hZ, hst]
theorem set_flat {dk : List Gn} {tl : List Value} {a : Nat} (x : Gn) (ha : a < dk.length) : sets (dk.flatMap Gn.c ++ tl) (a * 4) x.c = (dk.set a x).flatMap Gn.c ++ tl := by
  have hl := gnFlat_len dk
  rw [sets_eq x.c _ (a * 4) (by rw [gn_len, List.length_append, hl]; omega), gn_len, List.set_eq_take_append_cons_drop, if_pos ha, List.flatMap_append, List.flatMap_cons, take_flat, drop_flat,
    List.take_append_of_le_length (by rw [hl]; omega), List.drop_append_of_le_length (by rw [hl]; omega), show a * 4 + 4 = (a + 1) * 4 by omega]
  simp only [List.append_assoc]
/-- the row in the midst of DeleteFunc -/
structure DelI (keep : Gn → Bool) (l dk : List Gn) (a b : Nat) : Prop where
  len : dk.length = l.length
  lt : a < b
  le : b ≤ l.length
  head : dk.take a = (l.take b).filter keep
  tail : dk.drop b = l.drop b
theorem DelI.a_len {keep : Gn → Bool} {l dk : List Gn} {a b : Nat} (h : DelI keep l dk a b) : ((l.take b).filter keep).length = a := by
  rw [← h.head, List.length_take, h.len]; have := h.lt; have := h.le; omega
theorem DelI.at {keep : Gn → Bool} {l dk : List Gn} {a b : Nat} (h : DelI keep l dk a b) : dk[b]? = l[b]? := by
  have h1 := congrArg (fun x : List Gn => x[0]?) h.tail
  simpa [List.getElem?_drop] using h1
theorem DelI.skip {keep : Gn → Bool} {l dk : List Gn} {a b : Nat} {g : Gn} (h : DelI keep l dk a b) (hg : l[b]? = some g) (hk : keep g = false) : DelI keep l dk a (b + 1) := by
  have hb : b < l.length := (List.getElem?_eq_some_iff.1 hg).1
  refine ⟨h.len, by have := h.lt; omega, hb, ?_, ?_⟩
  · rw [List.take_add_one, hg, List.filter_append, ← h.head]; simp [hk]
  · rw [show dk.drop (b + 1) = (dk.drop b).drop 1 by rw [List.drop_drop], show l.drop (b + 1) = (l.drop b).drop 1 by rw [List.drop_drop], h.tail]
theorem DelI.take {keep : Gn → Bool} {l dk : List Gn} {a b : Nat} {g : Gn} (h : DelI keep l dk a b) (hg : l[b]? = some g) (hk : keep g = true) : DelI keep l (dk.set a g) (a + 1) (b + 1) := by
  have hb : b < l.length := (List.getElem?_eq_some_iff.1 hg).1
  have hlt := h.lt
  refine ⟨by rw [List.length_set]; exact h.len, by omega, hb, ?_, ?_⟩
  · rw [List.take_add_one (l := l), hg, List.filter_append, ← h.head, List.take_add_one, List.take_set_of_le (Nat.le_refl _), List.getElem?_set_self (by rw [h.len]; omega)]; simp [hk]
  · rw [List.drop_set_of_lt (by omega), show dk.drop (b + 1) = (dk.drop b).drop 1 by rw [List.drop_drop], show l.drop (b + 1) = (l.drop b).drop 1 by rw [List.drop_drop], h.tail]
theorem DelI.start {keep : Gn → Bool} {l : List Gn} {k : Nat} {g : Gn} (hg : l[k]? = some g) (hk : keep g = false) (ha : ∀ x ∈ l.take k, keep x = true) : DelI keep l l k (k + 1) := by
  have hb : k < l.length := (List.getElem?_eq_some_iff.1 hg).1
  refine ⟨rfl, by omega, hb, ?_, rfl⟩
  rw [List.take_add_one, hg, List.filter_append, List.filter_eq_self.2 ha]; simp [hk]
set_option maxRecDepth 100000 in
set_option maxHeartbeats 2000000 in
theorem indexGo_any (w : World) (qs qf qc : Nat) (f c : Int) (ao : Option Addr) (N cp : Nat) (l : List Gn) (hR : Rs w ao N cp 4 l Gn.c) (hl : N ≤ 100000) (hs : w.cell? ⟨qs, 0, none⟩ = some (.func (.func 73) #[] #[.pointer (some ⟨qf, 0, none⟩), .pointer (some ⟨qc, 0, none⟩)])) (hf : w.cell? ⟨qf, 0, none⟩ = some (.int .i64 f)) (hc : w.cell? ⟨qc, 0, none⟩ = some (.int .i64 c)) :
    Calls Tryz.prog 96 #[.slice ao N cp, .func (.func 75) #[] #[.pointer (some ⟨qs, 0, none⟩)]] w fun e w' => ∃ i : Int, e = .returned (.int .i64 i) ∧ ((i = -1 ∧ ∀ x ∈ l, goB f c x = false) ∨ ∃ k g, i = (k : Nat) ∧ l[k]? = some g ∧ goB f c g = true ∧ ∀ x ∈ l.take k, goB f c x = false) ∧ Below w.heap.size w w' := by
  have hgz := gnZ_run
  have hlen : l.length = N := hR.2.2.1
  have HN := Lib.hid hlen
  have HR := Lib.hid hR
  have HQ := Lib.hid (And.intro hs (And.intro hf hc))
  clear hlen hR hs hf hc
  go_enter Tryz.func96, Tryz.ntmps96
  go_wp2_with fail
  go_loopw [8] (fun i wr => ∃ k : Nat, i = .int .i64 k ∧ k ≤ N ∧ Hid (∀ x ∈ l.take k, goB f c x = false) ∧ Below w.heap.size w wr) (fun i _ => N - (intOf i).toNat)
  case atStart => exact ⟨0, by go_num, Nat.zero_le _, Lib.hid (by simp), Below.refl _ _⟩
  case round =>
    obtain ⟨k, rfl, hk, hA, hB⟩ := hrel
    have hS := hB.size
    by_cases hlt : k < N
    case pos =>
      obtain ⟨g, hg⟩ : ∃ g, l[k]? = some g := ⟨_, List.getElem?_eq_getElem (by rw [HN.out]; exact hlt)⟩
      obtain ⟨b, off, rfl, hb, hcc⟩ := rs_gn (HR.out.below hB (Nat.le_refl _)) (by omega)
      obtain ⟨c0, c1, c2, c3⟩ := hcc k g hg
      have i1 : (k : Int) < (N : Int) := by omega
      have hcw : ∀ q u, w.cell? ⟨q, 0, none⟩ = some u → wr.cell? ⟨q, 0, none⟩ = some u := fun q u h => (hB.cell (p := ⟨q, 0, none⟩) (World.block_lt_of_cell? _ _ h)).trans h
      have HC := Lib.hid (goes_any wr qs qf qc f c g (hcw _ _ HQ.out.1) (hcw _ _ HQ.out.2.1) (hcw _ _ HQ.out.2.2))
      have HG := Lib.hid hg
      obtain ⟨Y, hY⟩ : ∃ Y, Y = !staysN f c g.gen := ⟨_, rfl⟩
      rw [← hY] at HC
      have HY := Lib.hid hY
      clear hcc hg hY hcw
      go_wp2_with fail
      refine HC.out.mono ?_
      rintro e w2 ⟨rfl, hb2⟩
      have HB2 : Hid (Below w.heap.size w w2) := Lib.hid (hB.trans (hb2.mono hB.size))
      clear hb2 hB c0 c1 c2 c3
      cases Y
      case true =>
        go_wp2
        go_ret
        exact ⟨k, rfl, .inr ⟨k, g, rfl, HG.out, HY.out.symm, hA.out⟩, HB2.out⟩
      case false =>
        go_wp2
        go_roundw
        case rel =>
          refine ⟨k + 1, by go_num, by omega, Lib.hid ?_, HB2.out⟩
          intro x hx
          rw [List.take_add_one, HG.out] at hx
          rcases List.mem_append.1 hx with hx | hx
          · exact hA.out x hx
          · simp at hx; rw [hx]; exact HY.out.symm
        case measure => simp [intOf]; omega
    case neg =>
      have i1 : ¬ (k : Int) < (N : Int) := by omega
      have HT : Hid (∀ x ∈ l, goB f c x = false) := Lib.hid (by
        have h1 := hA.out
        rw [List.take_of_length_le (by rw [HN.out]; omega)] at h1
        exact h1)
      have HB2 := Lib.hid hB
      clear hA hB
      go_wp2
      go_ret
      exact ⟨-1, rfl, .inl ⟨rfl, HT.out⟩, HB2.out⟩
end Go.Proofs.YtgkcnocfijckoaaGreat
namespace Go.Proofs.YtgkcnocfijckoaaGreat
open Go.RowKit Sg Go.Shelf
set_option linter.unusedVariables false
set_option linter.unusedSimpArgs false
theorem flat_at {dk : List Gn} {tl : List Value} {b j : Nat} {g : Gn} (h : dk[b]? = some g) (hj : j < 4) : (dk.flatMap Gn.c ++ tl)[b * 4 + j]? = g.c[j]? := by
  have hb : b < dk.length := (List.getElem?_eq_some_iff.1 h).1
  have hl := gnFlat_len dk
  rw [List.getElem?_append_left (by rw [hl]; omega), ← List.getElem?_drop, ← drop_flat]
  have h2 : dk.drop b = g :: dk.drop (b + 1) := by
    rw [List.drop_eq_getElem_cons hb]
    obtain ⟨_, h3⟩ := List.getElem?_eq_some_iff.1 h
    rw [h3]
  rw [h2, List.flatMap_cons, List.getElem?_append_left (by rw [gn_len]; exact hj)]
set_option maxRecDepth 100000 in
set_option maxHeartbeats 4000000 in
theorem delete_any (w : World) (base : Nat) (v : Value) (l : List Gn) (qs qf qc : Nat) (f c : Int) (hO : w.ownsRow base 92 4 v l.length (l.flatMap Gn.c)) (hl : l.length ≤ 100000) (hs : w.cell? ⟨qs, 0, none⟩ = some (.func (.func 73) #[] #[.pointer (some ⟨qf, 0, none⟩), .pointer (some ⟨qc, 0, none⟩)])) (hf : w.cell? ⟨qf, 0, none⟩ = some (.int .i64 f)) (hc : w.cell? ⟨qc, 0, none⟩ = some (.int .i64 c)) (hq : v.ownBlock ≠ some qs ∧ v.ownBlock ≠ some qf ∧ v.ownBlock ≠ some qc) :
    Calls Tryz.prog 74 #[v, .func (.func 75) #[] #[.pointer (some ⟨qs, 0, none⟩)]] w fun e w' => ∃ v', e = .returned v' ∧ w'.ownsRow base 92 4 v' (l.filter (stayB f c)).length ((l.filter (stayB f c)).flatMap Gn.c) ∧ Kept (fun k => v.ownBlock = some k) w w' ∧ v'.ownBlock = v.ownBlock := by
  have hgz := gnZ_run
  obtain ⟨ao, cp, rfl⟩ := owns_slice hO
  have hR : Rs w ao l.length cp 4 l Gn.c := Rs.of_owns gn_len rfl hO
  have HIX := Lib.hid (indexGo_any w qs qf qc f c ao l.length cp l hR hl hs hf hc)
  have HO := Lib.hid hO
  have HQ := Lib.hid (And.intro hs (And.intro hf hc))
  obtain ⟨N, hN⟩ : ∃ N, N = l.length := ⟨_, rfl⟩
  have HN := Lib.hid hN
  rw [← hN] at HIX hl
  rw [← hN]
  have HQN := Lib.hid hq
  clear hR hO hs hf hc hN hq
  go_enter Tryz.func74, Tryz.ntmps74
  go_wp2_with fail
  refine HIX.out.mono ?_
  rintro e w1 ⟨i, rfl, ⟨rfl, hall⟩ | ⟨k, g, rfl, hg, hgo, hno⟩, hb1⟩
  · have HF : Hid (w1.ownsRow base 92 4 (.slice ao N cp) (l.filter (stayB f c)).length ((l.filter (stayB f c)).flatMap Gn.c) ∧ Kept (fun k => (Value.slice ao N cp).ownBlock = some k) w w1) := Lib.hid (by
      have e1 : l.filter (stayB f c) = l := List.filter_eq_self.2 (fun x hx => by
        have := hall x hx
        unfold goB at this
        unfold stayB
        simpa using this)
      rw [e1]
      refine ⟨?_, Kept.of_below _ hb1⟩
      rw [HN.out]
      exact row_below HO.out hb1)
    clear hall hb1
    go_wp2
    go_ret
    exact ⟨_, rfl, HF.out.1, HF.out.2, rfl⟩
  · have hne : ((k : Int) == -1) = false := beq_eq_false_iff_ne.2 (by omega)
    have hk : k < N := by rw [HN.out]; exact (List.getElem?_eq_some_iff.1 hg).1
    have HD0 := Lib.hid (DelI.start (keep := stayB f c) hg (by unfold goB at hgo; unfold stayB; simpa using hgo) (fun x hx => by have := hno x hx; unfold goB at this; unfold stayB; simpa using this))
    have hO1 := row_below HO.out hb1
    rcases blk_of_own hO1 with ⟨_, h0⟩ | ⟨r, c2, cs, hv, hbr, hB, hnc, hcm, hcl, hct⟩
    · have := HN.out; omega
    rw [← HN.out] at hv hnc hct
    injection hv with hv1 hv2 hv3
    subst hv1 hv3
    obtain ⟨tl, htl⟩ : ∃ tl, tl = cs.drop (N * 4) := ⟨_, rfl⟩
    have hcs : cs = l.flatMap Gn.c ++ tl := by rw [htl, ← hct, List.take_append_drop]
    rw [hcs] at hB hcl
    have HCL := Lib.hid (And.intro hcl (And.intro hbr (And.intro hnc hcm)))
    have hrq : r ≠ qs ∧ r ≠ qf ∧ r ≠ qc := ⟨fun e => HQN.out.1 (by rw [e]; rfl), fun e => HQN.out.2.1 (by rw [e]; rfl), fun e => HQN.out.2.2 (by rw [e]; rfl)⟩
    have HRQ := Lib.hid hrq
    have hcw : ∀ q u, w.cell? ⟨q, 0, none⟩ = some u → w1.cell? ⟨q, 0, none⟩ = some u := fun q u h => (hb1.cell (p := ⟨q, 0, none⟩) (World.block_lt_of_cell? _ _ h)).trans h
    have HQ1 := Lib.hid (And.intro (hcw _ _ HQ.out.1) (And.intro (hcw _ _ HQ.out.2.1) (hcw _ _ HQ.out.2.2)))
    have HB0 := Lib.hid hB
    have HB1 := Lib.hid hb1
    have hncN : N ≤ cp := hnc
    have hcc : ¬ (cp < N) := by omega
    clear hg hgo hno hO1 hbr hB hcm hcl hct htl hcs hrq hcw hb1 hv2 HIX hnc
    go_wp2_with fail
    go_loopw [5, 6, 7] (fun i j _ wr => ∃ (a b : Nat) (dk : List Gn), i = .int .i64 a ∧ j = .int .i64 b ∧ Hid (DelI (stayB f c) l dk a b) ∧ a < b ∧ b ≤ N ∧ Hid (Blk wr r (dk.flatMap Gn.c ++ tl) 92) ∧ Hid (Kept (fun k => k = r) w1 wr)) (fun _ j _ _ => N - (intOf j).toNat)
    case atStart => exact ⟨k, k + 1, l, rfl, by go_num, HD0, by omega, by omega, HB0, Lib.hid (Kept.refl _ _)⟩
    case round =>
      obtain ⟨a, b, dk, rfl, rfl, hD, hab, hbN, hB, hK⟩ := hrel
      by_cases hlt : b < N
      case pos =>
        obtain ⟨g, hg⟩ : ∃ g, l[b]? = some g := ⟨_, List.getElem?_eq_getElem (by rw [← HN.out]; exact hlt)⟩
        have hgd : dk[b]? = some g := hD.out.at.trans hg
        have c0 := hB.out.cell (i := b * 4) (by have := flat_at (tl := tl) (j := 0) hgd (by omega); simpa [Gn.c] using this)
        have c1 := hB.out.cell (i := b * 4 + 1) (by have := flat_at (tl := tl) (j := 1) hgd (by omega); simpa [Gn.c] using this)
        have cp' := hB.out.cell (i := b * 4 + 2) (by have := flat_at (tl := tl) (j := 2) hgd (by omega); simpa [Gn.c] using this)
        have c3 := hB.out.cell (i := b * 4 + 3) (by have := flat_at (tl := tl) (j := 3) hgd (by omega); simpa [Gn.c] using this)
        have i1 : (b : Int) < (N : Int) := by omega
        have i2 : (a : Int) < (N : Int) := by omega
        obtain ⟨V, hV⟩ : ∃ V, V = wr.alloc (Obj.cells #[.int .i64 g.gen, .int .i64 g.basis, .string g.mark, .string g.text] 92) := ⟨_, rfl⟩
        obtain ⟨q, hq⟩ : ∃ q, q = wr.heap.size := ⟨_, rfl⟩
        have hG : Blk V q [.int .i64 g.gen, .int .i64 g.basis, .string g.mark, .string g.text] 92 := by rw [hV, hq]; exact Blk.new _ _ _
        have hbV : Below wr.heap.size wr V := by rw [hV]; exact below_alloc _ _
        have hcw : ∀ z u, z ≠ r → w1.cell? ⟨z, 0, none⟩ = some u → V.cell? ⟨z, 0, none⟩ = some u := fun z u hz h => by
          have h1 := World.block_lt_of_cell? _ _ h
          have h2 := (hK.out.cell (b := z) (i := 0) h1 hz).trans h
          exact (hbV.cell (p := ⟨z, 0, none⟩) (World.block_lt_of_cell? _ _ h2)).trans h2
        have HC := Lib.hid (goes_any V qs qf qc f c g (hcw _ _ (fun e => HRQ.out.1 e.symm) HQ1.out.1) (hcw _ _ (fun e => HRQ.out.2.1 e.symm) HQ1.out.2.1) (hcw _ _ (fun e => HRQ.out.2.2 e.symm) HQ1.out.2.2))
        have hqr : q ≠ r := by rw [hq]; have := hB.out.lt; omega
        have HV := Lib.hid (And.intro hV (And.intro hq (And.intro hbV hqr)))
        have HG := Lib.hid hg
        have HQB := Lib.hid hG
        obtain ⟨Y, hY⟩ : ∃ Y, Y = staysN f c g.gen := ⟨_, rfl⟩
        rw [← hY] at HC
        have HY := Lib.hid hY
        have q0 := hG.cell (i := 0) rfl
        have q1 := hG.cell (i := 1) rfl
        have q2 := hG.cell (i := 2) rfl
        have q3 := hG.cell (i := 3) rfl
        clear hg hgd hV hq hG hbV hcw hqr hY
        go_upto_region 8 with fail
        rw [← HV.out.1, ← HV.out.2.1]
        go_wp2_with fail
        refine HC.out.mono ?_
        rintro e w2 ⟨rfl, hb2⟩
        have hQ2 := HQB.out.below hb2 HQB.out.lt
        replace q0 := hQ2.cell (i := 0) rfl
        replace q1 := hQ2.cell (i := 1) rfl
        replace q2 := hQ2.cell (i := 2) rfl
        replace q3 := hQ2.cell (i := 3) rfl
        have hbr2 := bl_nx HV.out.2.2.1 hb2
        have hB2 := hB.out.below hbr2 hB.out.lt
        have hK2 : Kept (fun k => k = r) w1 w2 := kept_bel hK.out hbr2
        cases Y
        case false =>
          have HF := Lib.hid (And.intro (hD.out.skip HG.out (show stayB f c g = false from HY.out.symm)) (And.intro hB2 hK2))
          clear hb2 hQ2 hbr2 hB2 hK2 c0 c1 cp' c3 q0 q1 q2 q3 HC
          go_wp2
          go_roundw
          case rel => exact ⟨a, b + 1, dk, rfl, by go_num, Lib.hid HF.out.1, by omega, by omega, Lib.hid HF.out.2.1, Lib.hid HF.out.2.2⟩
          case measure => simp [intOf]; omega
        case true =>
          have hda : a < dk.length := by rw [hD.out.len, ← HN.out]; omega
          have hfl : (dk.flatMap Gn.c ++ tl).length = cp * 4 := by
            rw [List.length_append, gnFlat_len, hD.out.len, ← gnFlat_len l, ← List.length_append]; exact HCL.out.1
          have hcK : ∀ j, j < 4 → ∃ u, w2.cell? ⟨r, a * 4 + j, none⟩ = some u := fun j hj => ⟨_, hB2.cell (List.getElem?_eq_getElem (by rw [hfl]; omega))⟩
          obtain ⟨u0, z0⟩ := hcK 0 (by omega)
          obtain ⟨u1, z1⟩ := hcK 1 (by omega)
          obtain ⟨u2, z2⟩ := hcK 2 (by omega)
          obtain ⟨u3, z3⟩ := hcK 3 (by omega)
          rw [Nat.add_zero] at z0
          have f0 := hB2.frozen (a * 4)
          have f1 := hB2.frozen (a * 4 + 1)
          have f2 := hB2.frozen (a * 4 + 2)
          have f3 := hB2.frozen (a * 4 + 3)
          have HF := Lib.hid (And.intro (hD.out.take HG.out (show stayB f c g = true from HY.out.symm)) (And.intro hB2 (And.intro hK2 hda)))
          clear hb2 hQ2 hbr2 hB2 hK2 c0 c1 cp' c3 HC hcK hda hfl
          go_upto_region 10 with fail
          obtain ⟨W, hW⟩ : ∃ W, W = (((w2.setCell ⟨r, a * 4, none⟩ (.int .i64 g.gen)).setCell ⟨r, a * 4 + 1, none⟩ (.int .i64 g.basis)).setCell ⟨r, a * 4 + 2, none⟩ (.string g.mark)).setCell ⟨r, a * 4 + 3, none⟩ (.string g.text) := ⟨_, rfl⟩
          rw [← hW]
          have HW : Hid (Blk W r ((dk.set a g).flatMap Gn.c ++ tl) 92 ∧ Kept (fun k => k = r) w1 W) := Lib.hid (by
            rw [hW]
            refine ⟨?_, ?_⟩
            · rw [← set_flat g HF.out.2.2.2]
              exact HF.out.2.1.sets g.c (a * 4)
            · exact (((HF.out.2.2.1.set (p := r) rfl _ _).set (p := r) rfl _ _).set (p := r) rfl _ _).set (p := r) rfl _ _)
          clear hW z0 z1 z2 z3 f0 f1 f2 f3 q0 q1 q2 q3
          go_wp2
          go_roundw
          case rel => exact ⟨a + 1, b + 1, dk.set a g, by go_num, by go_num, Lib.hid HF.out.1, by omega, by omega, Lib.hid HW.out.1, Lib.hid HW.out.2⟩
          case measure => simp [intOf]; omega
      case neg =>
        obtain rfl : b = N := by omega
        have i1 : ¬ ((b : Int) < (b : Int)) := by omega
        have hfl : (dk.flatMap Gn.c ++ tl).length = cp * 4 := by
          rw [List.length_append, gnFlat_len, hD.out.len, ← gnFlat_len l, ← List.length_append]; exact HCL.out.1
        have hcl : ∀ ty cp', (Builtin.clear_ #[86] ty #[.slice (some ⟨r, a * 4, none⟩) (b - a) cp']).run Tryz.prog wr = .ok (.tuple #[]) (wr.setCells r (a * 4) (Builtin.zeroCells (Value.agg #[.int .i64 0, .int .i64 0, .string ByteArray.empty, .string ByteArray.empty]).cells (b - a)).toList) := fun ty cp' =>
          clear_gn wr ty r (a * 4) (b - a) cp' (by omega) (fun j hj => hB.out.some (by rw [hfl]; omega)) (fun j hj => hB.out.frozen _)
        obtain ⟨Z, hZ⟩ : ∃ Z, Z = (Builtin.zeroCells (Value.agg #[.int .i64 0, .int .i64 0, .string ByteArray.empty, .string ByteArray.empty]).cells (b - a)).toList := ⟨_, rfl⟩
        rw [← hZ] at hcl
        have hZl : Z.length = (b - a) * 4 := by rw [hZ, Array.length_toList, size_zeroCells]; rfl
        obtain ⟨W, hW⟩ : ∃ W, W = wr.setCells r (a * 4) Z := ⟨_, rfl⟩
        rw [← hW] at hcl
        have HF : Hid (W.ownsRow base 92 4 (.slice (some ⟨r, 0, none⟩) a cp) (l.filter (stayB f c)).length ((l.filter (stayB f c)).flatMap Gn.c) ∧ Kept (fun k => k = r) w W) := Lib.hid (by
          have hfe : l.filter (stayB f c) = dk.take a := by rw [hD.out.head, List.take_of_length_le (by rw [HN.out]; exact Nat.le_refl _)]
          have hfn : (dk.take a).length = a := by rw [List.length_take, hD.out.len, ← HN.out]; omega
          rw [hfe, hfn, hW]
          refine ⟨?_, ?_⟩
          · refine own_of_blk (hB.out.sets Z (a * 4)) HCL.out.2.1 (by omega) HCL.out.2.2.2 (by rw [sets_len]; exact hfl) ?_ (by rw [gnFlat_len, hfn])
            rw [sets_eq Z _ _ (by rw [hfl, hZl]; omega), take_flat]
            have hl3 : (dk.flatMap Gn.c).length = b * 4 := by rw [gnFlat_len, hD.out.len, ← HN.out]
            rw [List.append_assoc, List.take_append_of_le_length (by rw [List.length_take, hfl]; omega), List.take_take, Nat.min_self, List.take_append_of_le_length (by rw [hl3]; omega)]
          · exact ((Kept.of_below (fun k => k = r) HB1.out).trans hK.out (fun _ _ h => h)).sets rfl Z (a * 4))
        have hb3 : (a : Int) ≤ (b : Int) := by omega
        have hb4 : ¬ (cp = a) := by omega
        have hb5 : (0 : Int) ≤ (a : Int) := by omega
        have hb6 : a ≤ b := by omega
        have hb7 : a ≤ cp := by omega
        clear hfl hZ hZl hW hD hB hK
        go_wp2
        go_ret
        exact ⟨_, rfl, HF.out.1, HF.out.2.mono (fun k _ e => by rw [e]; rfl), rfl⟩
end Go.Proofs.YtgkcnocfijckoaaGreat
namespace Go.Proofs.YtgkcnocfijckoaaGreat
open Go.RowKit Sg
set_option linter.unusedVariables false
set_option linter.unusedSimpArgs false
set_option maxRecDepth 100000 in
set_option maxHeartbeats 4000000 in
theorem stDoG_any (w : World) (ps p m base pr : Nat) (v : Value) (S : Bk) (l : List Gn) (im : Int → ByteArray) (s : ByteArray) (z : RSt) (hA : StA w w ps p m base pr v S l s z) (hl : l.length ≤ 4096) (hs : s.size ≤ 1000000) :
    Calls Tryz.prog 43 #[.pointer (some ⟨ps, 0, none⟩), .pointer (some ⟨pr, 0, none⟩)] w (DoP ps p m base v (TouchD ps m pr v) (doG S l im z) w) := by
  have hgz := gnZ_run
  obtain ⟨D, hD⟩ : ∃ D, D = doG S l im z := ⟨_, rfl⟩
  rw [← hD]
  unfold doG at hD
  obtain ⟨R0, hR0⟩ : ∃ R, R = stNum z := ⟨_, rfl⟩
  have hb0 := stNum_le z
  rw [← hR0] at hD hb0
  obtain ⟨f, z0⟩ := R0
  simp only at hD hb0
  obtain ⟨R1, hR1⟩ : ∃ R, R = stNum z0 := ⟨_, rfl⟩
  have hb1 := stNum_le z0
  rw [← hR1] at hD hb1
  obtain ⟨c, z1⟩ := R1
  simp only at hD hb1
  obtain ⟨z2, hz2⟩ : ∃ R, R = stEnd z1 := ⟨_, rfl⟩
  rw [← hz2] at hD
  have HD := Lib.hid hD
  have HR0 := Lib.hid hR0
  have HR1 := Lib.hid hR1
  have HZ2 := Lib.hid hz2
  have HA := Lib.hid hA
  obtain ⟨Q, hQ⟩ : ∃ Q : Ending → World → Prop, Q = DoP ps p m base v (TouchD ps m pr v) D w := ⟨_, rfl⟩
  rw [← hQ]
  have HQ := Lib.hid hQ
  clear hD hR0 hR1 hz2 hA hQ
  go_enter Tryz.func43, Tryz.ntmps43
  go_wp2_with fail
  refine (num_rd w pr s z (by omega) HA.out.rd).mono ?_
  rw [← HR0.out]
  rintro e w0 ⟨rfl, hr0, hg0⟩
  simp only at hr0 ⊢
  have HA0 := Lib.hid (HA.out.read hg0 hr0)
  clear hr0 hg0
  go_wp2_with fail
  refine (num_rd w0 pr s z0 (by omega) HA0.out.rd).mono ?_
  rw [← HR1.out]
  rintro e w1 ⟨rfl, hr1, hg1⟩
  simp only at hr1 ⊢
  have HA1 := Lib.hid (HA0.out.read hg1 hr1)
  clear hr1 hg1
  obtain ⟨V, hV⟩ : ∃ V, V = (w1.alloc (Obj.cells #[.int .i64 f] 3)).alloc (Obj.cells #[.int .i64 c] 3) := ⟨_, rfl⟩
  obtain ⟨qf, hqf⟩ : ∃ q, q = w1.heap.size := ⟨_, rfl⟩
  obtain ⟨qc, hqc⟩ : ∃ q, q = w1.heap.size + 1 := ⟨_, rfl⟩
  have hbV : Below w1.heap.size w1 V := by rw [hV]; exact bl_nx (below_alloc _ _) (below_alloc _ _)
  have hBf : Blk V qf [.int .i64 f] 3 := by rw [hV, hqf]; exact (Blk.new w1 [.int .i64 f] _).below (below_alloc _ _) (Blk.new w1 [.int .i64 f] _).lt
  have hBc : Blk V qc [.int .i64 c] 3 := by
    have h := Blk.new (w1.alloc (Obj.cells #[.int .i64 f] 3)) [.int .i64 c] 3
    rw [World.size_alloc] at h
    rw [hV, hqc]; exact h
  have HV := Lib.hid (And.intro hqc (And.intro hqf hV))
  have HAV := Lib.hid (HA1.out.below hbV)
  have HBF := Lib.hid hBf
  have HBC := Lib.hid hBc
  have HQF : Hid (w.heap.size ≤ qf ∧ w.heap.size ≤ qc) := Lib.hid (by have := HA1.out.kept.size; omega)
  clear hV hqf hqc hbV hBf hBc
  go_upto_region 2 with fail
  rw [← HV.out.1, ← HV.out.2.1, ← HV.out.2.2]
  have HEN := Lib.hid (end_rd V pr s z1 (by omega) HAV.out.rd)
  rw [← HZ2.out] at HEN
  go_wp2_with fail
  refine HEN.out.mono ?_
  rintro e w3 ⟨rfl, hr3, hg3⟩
  have HA3 := Lib.hid (HAV.out.read hg3 hr3)
  have hnf : some qf ≠ some pr := by have := HA.out.lt.2.2.2.1; have := HQF.out; simp; omega
  have hnc : some qc ≠ some pr := by have := HA.out.lt.2.2.2.1; have := HQF.out; simp; omega
  have HF3 := Lib.hid (HBF.out.grown hg3 hnf)
  have HC3 := Lib.hid (HBC.out.grown hg3 hnc)
  clear hr3 hg3 hnf hnc HEN
  obtain ⟨r2, er⟩ := z2
  simp only
  by_cases he : er = 0
  case neg =>
    have hne : (((er : Nat) : Int) != 0) = true := by simpa using he
    have HF : Hid (Q (.returned (.int .i64 (er : Nat))) w3) := Lib.hid (by
      rw [HQ.out]
      exact HA3.out.out (im := im) (by rw [HD.out, if_pos he]))
    clear he
    go_wp2
    exact HF.out
  subst he
  obtain ⟨U, hU⟩ : ∃ U, U = w3.alloc (Obj.cells #[.func (.func 73) #[] #[.pointer (some ⟨qf, 0, none⟩), .pointer (some ⟨qc, 0, none⟩)]] 128) := ⟨_, rfl⟩
  obtain ⟨qs, hqs⟩ : ∃ q, q = w3.heap.size := ⟨_, rfl⟩
  have hbU : Below w3.heap.size w3 U := by rw [hU]; exact below_alloc _ _
  have hBs : Blk U qs [.func (.func 73) #[] #[.pointer (some ⟨qf, 0, none⟩), .pointer (some ⟨qc, 0, none⟩)]] 128 := by rw [hU, hqs]; exact Blk.new _ _ _
  have HU := Lib.hid (And.intro hqs hU)
  have HA4 := Lib.hid (HA3.out.below hbU)
  have hf0 := (HF3.out.below hbU HF3.out.lt).cell (i := 0) rfl
  have hc0 := (HC3.out.below hbU HC3.out.lt).cell (i := 0) rfl
  have hs0 := hBs.cell (i := 0) rfl
  have HQ0 := Lib.hid (And.intro hs0 (And.intro hf0 hc0))
  have HQS : Hid (w.heap.size ≤ qs) := Lib.hid (by rw [hqs]; exact HA3.out.kept.size)
  clear hU hqs hbU hBs hf0 hc0 hs0
  go_upto_region 6 with fail
  rw [← HU.out.1, ← HU.out.2]
  obtain ⟨ao, cp, rfl⟩ := owns_slice HA4.out.st.2
  have s1 := HA4.out.st.1.cell (i := 1) rfl
  obtain ⟨N, hN⟩ : ∃ N, N = l.length := ⟨_, rfl⟩
  have HN := Lib.hid hN
  rw [← hN] at s1 hl
  clear hN
  go_wp2_with fail
  go_loopw [26] (fun i wr => ∃ k : Nat, i = .int .i64 k ∧ k ≤ N ∧ Hid (∀ x ∈ l.take k, ¬ (staysN f c x.gen = true ∧ staysN f c x.basis = false)) ∧ Below U.heap.size U wr) (fun i _ => N - (intOf i).toNat)
  case atStart => exact ⟨0, by go_num, Nat.zero_le _, Lib.hid (by simp), Below.refl _ _⟩
  case round =>
    obtain ⟨k, rfl, hk, hNo, hB⟩ := hrel
    have HAR := Lib.hid (HA4.out.below hB)
    have hcw : ∀ q u, U.cell? ⟨q, 0, none⟩ = some u → wr.cell? ⟨q, 0, none⟩ = some u := fun q u h => (hB.cell (p := ⟨q, 0, none⟩) (World.block_lt_of_cell? _ _ h)).trans h
    have hs0 := hcw _ _ HQ0.out.1
    have hf0 := hcw _ _ HQ0.out.2.1
    have hc0 := hcw _ _ HQ0.out.2.2
    clear hcw
    by_cases hlt : k < N
    case pos =>
      obtain ⟨g, hg⟩ : ∃ g, l[k]? = some g := ⟨_, List.getElem?_eq_getElem (by rw [← HN.out]; exact hlt)⟩
      obtain ⟨b, off, rfl, hb, hcc⟩ := rs_gn (HAR.out.st.rs rfl) (by rw [← HN.out]; omega)
      obtain ⟨c0, c1, c2, c3⟩ := hcc k g hg
      have i1 : (k : Int) < (N : Int) := by omega
      obtain ⟨V6, hV6⟩ : ∃ V, V = wr.alloc (Obj.cells #[.int .i64 g.gen, .int .i64 g.basis, .string g.mark, .string g.text] 92) := ⟨_, rfl⟩
      obtain ⟨q, hq⟩ : ∃ q, q = wr.heap.size := ⟨_, rfl⟩
      have hG : Blk V6 q [.int .i64 g.gen, .int .i64 g.basis, .string g.mark, .string g.text] 92 := by rw [hV6, hq]; exact Blk.new _ _ _
      have hbV : Below wr.heap.size wr V6 := by rw [hV6]; exact below_alloc _ _
      have HB6 := Lib.hid (bl_nx hB hbV)
      have hcw : ∀ q u, wr.cell? ⟨q, 0, none⟩ = some u → V6.cell? ⟨q, 0, none⟩ = some u := fun q u h => (hbV.cell (p := ⟨q, 0, none⟩) (World.block_lt_of_cell? _ _ h)).trans h
      have e0 := hcw _ _ hs0
      have e1 := hcw _ _ hf0
      have e2 := hcw _ _ hc0
      have HC1 := Lib.hid (stays_any V6 qf qc f c g.gen e1 e2)
      have HC2 := Lib.hid (stays_any V6 qf qc f c g.basis e1 e2)
      obtain ⟨Y1, hY1⟩ : ∃ Y, Y = staysN f c g.gen := ⟨_, rfl⟩
      obtain ⟨Y2, hY2⟩ : ∃ Y, Y = staysN f c g.basis := ⟨_, rfl⟩
      rw [← hY1] at HC1
      rw [← hY2] at HC2
      have HY1 := Lib.hid hY1
      have HY2 := Lib.hid hY2
      have HG := Lib.hid hg
      have HV6 := Lib.hid (And.intro hq hV6)
      have q0 := hG.cell (i := 0) rfl
      have q1 := hG.cell (i := 1) rfl
      have HNX : Hid (¬ (Y1 = true ∧ Y2 = false) → ∀ x ∈ l.take (k + 1), ¬ (staysN f c x.gen = true ∧ staysN f c x.basis = false)) := Lib.hid (by
        intro hn x hx
        rw [List.take_add_one, HG.out] at hx
        rcases List.mem_append.1 hx with hx | hx
        · exact hNo.out x hx
        · simp at hx; rw [hx, ← HY1.out, ← HY2.out]; exact hn)
      have HAV6 := Lib.hid (HAR.out.below hbV)
      clear hcc hg hV6 hq hG hbV hcw hY1 hY2 hs0 hf0 hc0 hB
      go_upto_region 9 with fail
      rw [← HV6.out.1, ← HV6.out.2]
      go_wp2_with fail
      refine HC1.out.mono ?_
      rintro e w7 ⟨rfl, rfl⟩
      cases Y1
      case false =>
        go_wp2
        go_roundw
        case rel => exact ⟨k + 1, by go_num, by omega, Lib.hid (HNX.out (by simp)), HB6.out⟩
        case measure => simp [intOf]; omega
      case true =>
        go_wp2_with fail
        refine HC2.out.mono ?_
        rintro e w7 ⟨rfl, rfl⟩
        cases Y2
        case false =>
          have HF : Hid (Q (.returned (.int .i64 13)) V6) := Lib.hid (by
            rw [HQ.out]
            exact HAV6.out.out (im := im) (by rw [HD.out, if_neg (by simp), if_pos ⟨g, List.mem_of_getElem? HG.out, HY1.out.symm, HY2.out.symm⟩]))
          go_wp2
          exact HF.out
        case true =>
          go_wp2
          go_roundw
          case rel => exact ⟨k + 1, by go_num, by omega, Lib.hid (HNX.out (by simp)), HB6.out⟩
          case measure => simp [intOf]; omega
    case neg =>
      have i1 : ¬ (k : Int) < (N : Int) := by omega
      have s1r := HAR.out.st.1.cell (i := 1) rfl
      rw [← HN.out] at s1r
      have hqn : (Value.slice ao l.length cp).ownBlock ≠ some qs ∧ (Value.slice ao l.length cp).ownBlock ≠ some qf ∧ (Value.slice ao l.length cp).ownBlock ≠ some qc := by
        have h1 := HA.out.lt.2.2.2.2
        have h2 := HQF.out
        have h3 := HQS.out
        exact ⟨fun e => by have := h1 _ e; omega, fun e => by have := h1 _ e; omega, fun e => by have := h1 _ e; omega⟩
      have HDL := Lib.hid (delete_any wr base _ l qs qf qc (f : Int) (c : Int) HAR.out.st.2 (by rw [← HN.out]; omega) hs0 hf0 hc0 hqn)
      rw [← HN.out] at HDL
      have HNA : Hid (∀ x ∈ l, ¬ (staysN f c x.gen = true ∧ staysN f c x.basis = false)) := Lib.hid (by
        have h := hNo.out
        rw [List.take_of_length_le (by rw [← HN.out]; omega)] at h
        exact h)
      have hpv : ¬ (Value.slice ao N cp).ownBlock = some ps := fun e => by rw [HN.out] at e; have := (World.ownsRow.lt HAR.out.st.2 ps e).1; have := HAR.out.bs.2.2.1; omega
      have HPV := Lib.hid hpv
      clear hs0 hf0 hc0 hqn hNo hB s1 hpv
      go_wp2_with fail
      refine HDL.out.mono ?_
      rintro e w8 ⟨v8, rfl, hO8, hk8, hv8⟩
      obtain ⟨a8, k8, rfl⟩ := owns_slice hO8
      have hP8 := blkKept HAR.out.st.1 hk8 HPV.out
      have s1f := hP8.frozen 1
      have s18 := hP8.cell (i := 1) rfl
      have HP8 := Lib.hid hP8
      have HF : Hid (Q (.returned (.int .i64 0)) (w8.setCell ⟨ps, 1, none⟩ (.slice a8 (l.filter (stayB f c)).length k8))) := Lib.hid (by
        rw [HQ.out, HD.out, if_neg (by simp), if_neg (by rintro ⟨g, hg, h2⟩; exact HNA.out g hg h2)]
        have hp := HAR.out.bs.1
        have hm := HAR.out.bs.2.1
        have hO := HAR.out.st.2
        have hown : ∀ k, (Value.slice ao N cp).ownBlock = some k → base ≤ k := fun k e => by rw [HN.out] at e; exact (World.ownsRow.lt hO k e).1
        obtain ⟨n1, n2, n3, n4, n5, n6⟩ := HAR.out.ne
        have hI8 : BookI w8 p m S := HAR.out.bk.kept hk8 (fun e => by have := hown _ e; omega) (fun e => by have := hown _ e; omega)
        have hkT : Kept (TouchD ps m pr (.slice ao l.length cp)) w w8 := HAR.out.kept.trans hk8 (fun k _ e => .inr (.inr (.inr (by rw [← HN.out]; exact e))))
        refine ⟨rfl, _, ⟨HP8.out.set 1 _, ?_⟩, hI8.kept ((Kept.refl (fun k => k = ps) w8).set rfl 1 _) (fun e => n5 e.symm) (fun e => n6 e.symm), hkT.set (p := ps) (.inl rfl) _ _, .inl ?_⟩
        · exact World.ownsRow.kept hO8 (grown_set (grown_refl w8 (some ps)) 1 _) (.inr (fun e => by have := (World.ownsRow.lt hO8 ps e).1; have := HAR.out.bs.2.2.1; omega))
        · rw [← HN.out]; exact hv8)
      clear hO8 hk8 hv8 hP8
      go_wp2
      exact HF.out
end Go.Proofs.YtgkcnocfijckoaaGreat
