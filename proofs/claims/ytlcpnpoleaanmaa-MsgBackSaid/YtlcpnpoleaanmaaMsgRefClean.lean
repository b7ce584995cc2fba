/- What is left of a message without the fields that its kind has not: the document's Clean. Conditions: none beyond the row. -/
import Derived.Test.YtlcpnpoleaanmaaMsgSet
import Derived.Test.YtlcpnpoleaanmaaMsgUse
namespace Go.Proofs.Ytlcpnpoleaanmaa
open Go.RowKit
set_option linter.unusedVariables false
set_option linter.unusedSimpArgs false

theorem set_is (w : World) (m : Mg) (ao : Option Addr) (n cap : Nat) (c : UInt8) (y x : Int) (hy : y = (c.toNat : Nat)) :
    Calls Try.prog 41 #[.agg (mgC m (.slice ao n cap)).toArray, .int .u8 y, .int .i64 x] w fun e w' => e = .returned (.agg (mgC (setM m c x) (.slice ao n cap)).toArray) ∧ Below w.heap.size w w' := by
  rw [hy]; exact set_any w m ao n cap c x
theorem set_n (w : World) (m : Mg) (ao : Option Addr) (n cap : Nat) (c : UInt8) (y x : Int) (hy : y = (c.toNat : Nat)) (M : Mg) (hM : Hid (setM m c x = M)) :
    Calls Try.prog 41 #[.agg #[.int .i64 m.kind, .int .i64 m.src, .int .i64 m.dst, .int .i64 m.ballot, .int .i64 m.gen, .int .i64 m.basis, .int .i64 m.floor, .int .i64 m.top, .int .i64 m.read, .string m.mark, .int .i64 m.pat, .int .i64 m.pof, .string m.ptext, .slice ao n cap], .int .u8 y, .int .i64 x] w fun e w' => e = .returned (.agg #[.int .i64 M.kind, .int .i64 M.src, .int .i64 M.dst, .int .i64 M.ballot, .int .i64 M.gen, .int .i64 M.basis, .int .i64 M.floor, .int .i64 M.top, .int .i64 M.read, .string M.mark, .int .i64 M.pat, .int .i64 M.pof, .string M.ptext, .slice ao n cap]) ∧ Below w.heap.size w w' := by
  rw [hy]
  refine (set_any w m ao n cap c x).mono ?_
  rintro e w' ⟨rfl, hb⟩
  rw [hM.out]
  exact ⟨rfl, hb⟩
theorem number_m (w : World) (m : Mg) (ao : Option Addr) (n cap : Nat) (c : UInt8) (x : Int) (hx : x = (c.toNat : Nat)) (N : Int) (hN : Hid (numM m c = N)) :
    Calls Try.prog 32 #[.agg #[.int .i64 m.kind, .int .i64 m.src, .int .i64 m.dst, .int .i64 m.ballot, .int .i64 m.gen, .int .i64 m.basis, .int .i64 m.floor, .int .i64 m.top, .int .i64 m.read, .string m.mark, .int .i64 m.pat, .int .i64 m.pof, .string m.ptext, .slice ao n cap], .int .u8 x] w fun e w' => e = .returned (.int .i64 N) ∧ Below w.heap.size w w' := by
  rw [hx, ← hN.out]; exact number_below w m ao n cap c
/-- where the list lies behind some letters -/
def aoOf (L : List UInt8) (ao : Option Addr) : Option Addr := if 76 ∈ L then ao else none
def nOf (L : List UInt8) (n : Nat) : Nat := if 76 ∈ L then n else 0
def vOf (L : List UInt8) (ao : Option Addr) (n cap : Nat) : Value := .slice (aoOf L ao) (nOf L n) (nOf L cap)
theorem vOf_snoc (L : List UInt8) (u : UInt8) (h : u ≠ 76) (ao : Option Addr) (n cap : Nat) : aoOf (L ++ [u]) ao = aoOf L ao ∧ nOf (L ++ [u]) n = nOf L n ∧ nOf (L ++ [u]) cap = nOf L cap := by
  have e : (76 ∈ L ++ [u]) ↔ 76 ∈ L := by simp [Ne.symm h]
  unfold aoOf nOf
  simp only [e, and_self]
theorem vOf_76 (L : List UInt8) (ao : Option Addr) (n cap : Nat) : vOf (L ++ [76]) ao n cap = .slice ao n cap := by
  unfold vOf aoOf nOf
  simp
theorem vOf_rows {w : World} {m : Mg} {ao : Option Addr} {n cap : Nat} (h : Rs w ao n cap 3 m.list enC) (L : List UInt8) : Rs w (aoOf L ao) (nOf L n) (nOf L cap) 3 (restr m L).list enC := by
  by_cases h76 : 76 ∈ L
  · have e : (restr m L).list = m.list := if_pos h76
    unfold aoOf nOf
    rw [if_pos h76, if_pos h76, if_pos h76, e]; exact h
  · have e : (restr m L).list = [] := if_neg h76
    unfold aoOf nOf
    rw [if_neg h76, if_neg h76, if_neg h76, e]
    exact ⟨by omega, by decide, rfl, fun h => absurd h (by decide)⟩
theorem cpF_num (m : Mg) (L : List UInt8) (u : UInt8) (h : u ∈ nine) (h1 : u ≠ 77) (h2 : u ≠ 80) (h3 : u ≠ 76) : setM (restr m L) u (numM m u) = restr m (L ++ [u]) := by
  rw [← restr_snoc m L u h]
  unfold cpF
  rw [if_neg h1, if_neg h2, if_neg h3]

set_option maxRecDepth 100000 in
set_option maxHeartbeats 20000000 in
theorem rclean_any (w : World) (m : Mg) (ao : Option Addr) (n cap : Nat) (hR : Rs w ao n cap 3 m.list enC) :
    Calls Try.prog 21 #[.agg (mgC m (.slice ao n cap)).toArray] w (CleanP m w) := by
  have hmz := mgZ_run
  obtain ⟨V1, hV1⟩ : ∃ V, V = w.alloc (.cells (mgC m (.slice ao n cap)).toArray 26) := ⟨_, rfl⟩
  obtain ⟨p1, hp1⟩ : ∃ p, p = w.heap.size := ⟨_, rfl⟩
  obtain ⟨V2, hV2⟩ : ∃ V, V = V1.alloc (.cells mgZ.toArray 26) := ⟨_, rfl⟩
  obtain ⟨p2, hp2⟩ : ∃ p, p = w.heap.size + 1 := ⟨_, rfl⟩
  obtain ⟨V, hV⟩ : ∃ V, V = V2.alloc (.cells (mgC (mg0 m.kind m.src m.dst) (.slice none 0 0)).toArray 26) := ⟨_, rfl⟩
  obtain ⟨p3, hp3⟩ : ∃ p, p = V2.heap.size := ⟨_, rfl⟩
  have hG1 : Blk V2 p1 (mgC m (.slice ao n cap)) 26 := by rw [hV2, hV1, hp1]; exact (Blk.new _ _ _).alloc _
  have hG2 : Blk V2 p2 mgZ 26 := by
    have := Blk.new V1 mgZ 26
    rw [hV1, World.size_alloc] at this
    rw [hV2, hp2, hV1]; exact this
  have hs2 : V2.heap.size = w.heap.size + 2 := by rw [hV2, hV1]; simp
  have hB2 : Below w.heap.size w V2 := by rw [hV2, hV1]; exact (below_alloc' w _).alloc (by simp) _
  have hBV : Below V2.heap.size V2 V := by rw [hV]; exact below_alloc' _ _
  have hG3 : Blk V p3 (mgC (mg0 m.kind m.src m.dst) (.slice none 0 0)) 26 := by rw [hV, hp3]; exact Blk.new _ _ _
  have c0 := hG1.cell (i := 0) rfl
  have c1 := hG1.cell (i := 1) rfl
  have c2 := hG1.cell (i := 2) rfl
  have hGV1 := hG1.below hBV hG1.lt
  have hGV2 := hG2.below hBV hG2.lt
  have d0 := hGV1.cell (i := 0) rfl
  have hB := below_then' hB2 hBV
  have HRW : Hid (∀ W, Below w.heap.size w W → Rs W ao n cap 3 m.list enC) := Lib.hid (fun W h => hR.below h (Nat.le_refl _))
  have hwp : w.heap.size ≤ p3 := by omega
  have hwp2 : w.heap.size ≤ p2 := by omega
  have HST : Hid (Blk V p1 (mgC m (.slice ao n cap)) 26 ∧ Blk V p2 mgZ 26 ∧ Blk V p3 (mgC (restr m ((flds m.kind).take 0)) (vOf ((flds m.kind).take 0) ao n cap)) 26 ∧ Below w.heap.size w V) := by
    refine Lib.hid ⟨hGV1, hGV2, ?_, hB⟩
    rw [List.take_zero, restr_nil]; exact hG3
  have hne : p1 ≠ p3 ∧ p2 ≠ p3 := by omega
  unfold mgC at hV1 hV ⊢
  unfold mgZ mgC mg0 at hV2
  unfold mg0 at hV
  simp only at hV hV2 ⊢
  have HV := Lib.hid hV
  have HV1 := Lib.hid hV1
  have HV2 := Lib.hid hV2
  have HP1 := Lib.hid hp1
  have HP2 := Lib.hid hp2
  have HP3 := Lib.hid hp3
  have HNE := Lib.hid hne
  clear hV hV1 hV2 hp1 hp2 hp3 hG1 hG2 hs2 hB2 hBV hG3 hGV1 hGV2 hB hne hR
  go_enter Try.func21, Try.ntmps21
  go_upto_region 1 with fail
  rw [← HP2.out, ← HP1.out, ← HV1.out, ← HV2.out]
  go_upto_region 2 with fail
  rw [← HP3.out, ← HV.out]
  clear c0 c1 c2 hmz
  go_wp2_with fail
  refine (fields_any V m.kind).mono ?_
  rintro e wf ⟨rfl, rfl⟩
  go_wp2_with fail
  clear d0
  obtain ⟨S, hS⟩ : ∃ S, S = fldS m.kind := ⟨_, rfl⟩
  have hsz : S.size = (flds m.kind).length := by rw [hS]; rfl
  have h5 : S.size ≤ 5 := by rw [hsz]; exact flds_len _
  rw [← hS]
  have HS := Lib.hid hS
  have HSZ := Lib.hid hsz
  clear hS hsz
  go_loopw [5] (fun i wr => ∃ k : Nat, k ≤ S.size ∧ i = .int .i64 k ∧ Blk wr p1 (mgC m (.slice ao n cap)) 26 ∧ Blk wr p2 mgZ 26 ∧ Blk wr p3 (mgC (restr m ((flds m.kind).take k)) (vOf ((flds m.kind).take k) ao n cap)) 26 ∧ Below w.heap.size w wr) (fun i _ => S.size - (intOf i).toNat)
  case atStart => exact ⟨0, by omega, rfl, HST.out.1, HST.out.2.1, HST.out.2.2.1, HST.out.2.2.2⟩
  case round =>
    clear HST
    obtain ⟨k, hk, rfl, b1, b2, b3, hBw⟩ := hrel
    by_cases hlt : k < S.size
    case neg =>
      have hkn : k = S.size := by omega
      have e : (flds m.kind).take k = flds m.kind := by rw [hkn, HSZ.out, List.take_length]
      rw [e] at b3
      have HB2 := Lib.hid b2
      have HB3 := Lib.hid b3
      have HBW := Lib.hid hBw
      clear b1 b2 b3 hBw hkn e
      go_wp2_with (first | (refine ld_mg HB3.out rfl rfl rfl ?_) | (refine st_mg (m := restr m (flds m.kind)) (ao := aoOf (flds m.kind) ao) (n := nOf (flds m.kind) n) (cap := nOf (flds m.kind) cap) HB2.out rfl rfl rfl rfl ?_))
      refine bodyPost_ret (results_cell_row rfl _ _ p2 26 _ (0, 0) _ rfl (putM_blk HB2.out) Try.underlying26 rfl (by kernel_rfl)) rfl ?_
      have hBF := putM_below HBW.out hwp2 (restr m (flds m.kind)) (.slice (aoOf (flds m.kind) ao) (nOf (flds m.kind) n) (nOf (flds m.kind) cap))
      exact ⟨_, _, _, rfl, vOf_rows (HRW.out _ hBF) _, hBF⟩
    have hkf : k < (flds m.kind).length := by rw [← HSZ.out]; exact hlt
    obtain ⟨u, hu⟩ : ∃ u, u = S[k] := ⟨_, rfl⟩
    have hue : u = (flds m.kind)[k] := by rw [hu]; have h2 := HS.out; subst h2; rfl
    have hum : u ∈ flds m.kind := by rw [hue]; exact List.getElem_mem hkf
    have h9 := flds_nine m.kind u hum
    have htk : (flds m.kind).take (k + 1) = (flds m.kind).take k ++ [u] := by rw [hue]; exact List.take_succ_eq_append_getElem hkf
    have HTK := Lib.hid htk
    have H9 := Lib.hid h9
    have hnine := nine_cases h9
    have HU := Lib.hid hu
    have HBW := Lib.hid hBw
    have HB1 := Lib.hid b1
    have HB2 := Lib.hid b2
    obtain ⟨Lk, hLk⟩ : ∃ Lk, Lk = (flds m.kind).take k := ⟨_, rfl⟩
    rw [← hLk] at HTK b3
    have HB3 := Lib.hid b3
    clear hue hum htk hLk hBw b1 b2 b3 h9
    by_cases h77 : u = 77
    case pos =>
      have d : (((S[k]).toNat : Int) == 77) = true := by rw [← hu]; exact chEq (d := 77) rfl h77
      have g := HB1.out.cell (i := 9) rfl
      have x := HB3.out.cell (i := 9) rfl
      have y := HB3.out.frozen 9
      have HN : Hid (Blk (wr.setCell ⟨p3, 9, none⟩ (.string m.mark)) p3 (mgC (restr m ((flds m.kind).take (k + 1))) (vOf ((flds m.kind).take (k + 1)) ao n cap)) 26) := by
        refine Lib.hid ?_
        rw [HTK.out, h77]
        obtain ⟨e1, e2, e3⟩ := vOf_snoc Lk 77 (by decide) ao n cap
        unfold vOf; rw [e1, e2, e3, ← restr_77]; exact HB3.out.set 9 _
      have HN1 := Lib.hid (HB1.out.setOther (a := ⟨p3, 9, none⟩) HNE.out.1 (.string m.mark))
      have HN2 := Lib.hid (HB2.out.setOther (a := ⟨p3, 9, none⟩) HNE.out.2 (.string m.mark))
      have HB5 := Lib.hid (HBW.out.setCell (p := ⟨p3, 9, none⟩) hwp (.string m.mark))
      clear hu h77 hnine
      go_wp2
      go_roundw
      case rel => exact ⟨k + 1, by omega, by go_num, HN1.out, HN2.out, HN.out, HB5.out⟩
      case measure => simp [intOf]; omega
    have d77 : (((S[k]).toNat : Int) == 77) = false := by rw [← hu]; exact chNe (d := 77) rfl h77
    by_cases h80 : u = 80
    case pos =>
      have d : (((S[k]).toNat : Int) == 80) = true := by rw [← hu]; exact chEq (d := 80) rfl h80
      have g10 := HB1.out.cell (i := 10) rfl
      have g11 := HB1.out.cell (i := 11) rfl
      have g12 := HB1.out.cell (i := 12) rfl
      have x10 := HB3.out.cell (i := 10) rfl
      have y10 := HB3.out.frozen 10
      have x11 := HB3.out.cell (i := 11) rfl
      have y11 := HB3.out.frozen 11
      have x12 := HB3.out.cell (i := 12) rfl
      have y12 := HB3.out.frozen 12
      have HN : Hid (Blk (((wr.setCell ⟨p3, 10, none⟩ (.int .i64 m.pat)).setCell ⟨p3, 11, none⟩ (.int .i64 m.pof)).setCell ⟨p3, 12, none⟩ (.string m.ptext)) p3 (mgC (restr m ((flds m.kind).take (k + 1))) (vOf ((flds m.kind).take (k + 1)) ao n cap)) 26) := by
        refine Lib.hid ?_
        rw [HTK.out, h80]
        obtain ⟨e1, e2, e3⟩ := vOf_snoc Lk 80 (by decide) ao n cap
        unfold vOf; rw [e1, e2, e3, ← restr_80]; exact Blk.set (Blk.set (Blk.set HB3.out 10 _) 11 _) 12 _
      have HN1 := Lib.hid (((HB1.out.setOther (a := ⟨p3, 10, none⟩) HNE.out.1 (.int .i64 m.pat)).setOther (a := ⟨p3, 11, none⟩) HNE.out.1 (.int .i64 m.pof)).setOther (a := ⟨p3, 12, none⟩) HNE.out.1 (.string m.ptext))
      have HN2 := Lib.hid (((HB2.out.setOther (a := ⟨p3, 10, none⟩) HNE.out.2 (.int .i64 m.pat)).setOther (a := ⟨p3, 11, none⟩) HNE.out.2 (.int .i64 m.pof)).setOther (a := ⟨p3, 12, none⟩) HNE.out.2 (.string m.ptext))
      have HB5 := Lib.hid (((HBW.out.setCell (p := ⟨p3, 10, none⟩) hwp (.int .i64 m.pat)).setCell (p := ⟨p3, 11, none⟩) hwp (.int .i64 m.pof)).setCell (p := ⟨p3, 12, none⟩) hwp (.string m.ptext))
      clear hu h80 hnine h77
      go_wp2
      go_roundw
      case rel => exact ⟨k + 1, by omega, by go_num, HN1.out, HN2.out, HN.out, HB5.out⟩
      case measure => simp [intOf]; omega
    have d80 : (((S[k]).toNat : Int) == 80) = false := by rw [← hu]; exact chNe (d := 80) rfl h80
    by_cases h76 : u = 76
    case pos =>
      have d : (((S[k]).toNat : Int) == 76) = true := by rw [← hu]; exact chEq (d := 76) rfl h76
      have g := HB1.out.cell (i := 13) rfl
      have x := HB3.out.cell (i := 13) rfl
      have y := HB3.out.frozen 13
      have HN : Hid (Blk (wr.setCell ⟨p3, 13, none⟩ (.slice ao n cap)) p3 (mgC (restr m ((flds m.kind).take (k + 1))) (vOf ((flds m.kind).take (k + 1)) ao n cap)) 26) := by
        refine Lib.hid ?_
        rw [HTK.out, h76, vOf_76, ← restr_76 m Lk (vOf Lk ao n cap)]
        exact HB3.out.set 13 _
      have HN1 := Lib.hid (HB1.out.setOther (a := ⟨p3, 13, none⟩) HNE.out.1 (.slice ao n cap))
      have HN2 := Lib.hid (HB2.out.setOther (a := ⟨p3, 13, none⟩) HNE.out.2 (.slice ao n cap))
      have HB5 := Lib.hid (HBW.out.setCell (p := ⟨p3, 13, none⟩) hwp (.slice ao n cap))
      clear hu h80 h76 hnine h77
      go_wp2
      go_roundw
      case rel => exact ⟨k + 1, by omega, by go_num, HN1.out, HN2.out, HN.out, HB5.out⟩
      case measure => simp [intOf]; omega
    have d76 : (((S[k]).toNat : Int) == 76) = false := by rw [← hu]; exact chNe (d := 76) rfl h76
    have HNUM := Lib.hid (cpF_num m Lk u H9.out h77 h80 h76)
    have HSN := Lib.hid (vOf_snoc Lk u h76 ao n cap)
    have i1 : (0 : Int) ≤ (k : Int) := by omega
    have i2 : (k : Int) < (S.size : Int) := by omega
    obtain ⟨N, hN⟩ : ∃ N, N = numM m u := ⟨_, rfl⟩
    have HN : Hid (numM m u = N) := Lib.hid hN.symm
    obtain ⟨R, hR⟩ : ∃ R, R = restr m Lk := ⟨_, rfl⟩
    have HM : Hid (setM R u N = restr m (Lk ++ [u])) := Lib.hid (by rw [hR, hN]; exact HNUM.out)
    rw [← hR] at HB3
    have HB3' : Hid (Blk wr p3 (mgC R (.slice (aoOf Lk ao) (nOf Lk n) (nOf Lk cap))) 26) := Lib.hid HB3.out
    obtain ⟨R2, hR2⟩ : ∃ R2, R2 = restr m (Lk ++ [u]) := ⟨_, rfl⟩
    rw [← hR2] at HM
    have HR2 := Lib.hid hR2
    -- [region
    have hu' := Try.underlying26
    have hT : Two wr.drew p1 p3 m R (.slice ao n cap) (.slice (aoOf Lk ao) (nOf Lk n) (nOf Lk cap)) := ⟨HB1.out, HB3'.out⟩
    have hT2 : Blk wr.drew p2 mgZ 26 := HB2.out
    have hbw : Below w.heap.size w wr.drew := below_drewN' HBW.out 1
    have HX : Hid (((S[k]).toNat : Int) = (u.toNat : Nat)) := Lib.hid (by rw [← hu])
    clear hu h80 h76 hnine h77 hN hR hR2
    go_wp2_with fail
    refine wp_region_any (by kernel_rfl) ?_
    change wpAny _ _ _ _ _ _ _ (World.drew _)
    refine wpAny_take (i := 1) (v := ?_) rfl (by kernel_rfl) (by kernel_rfl) (by kernel_rfl) (fun _ _ _ h => h) (Or.inl ⟨by rfl, ?_⟩) ?_
    rotate_left
    · intro w; go_simp; first | done | with_reducible rfl
    try simp only [Act.put, List.getElem_toArray, List.getElem_cons_succ, List.getElem_cons_zero, List.setIfInBounds_toArray, List.set_cons_zero, List.set_cons_succ]
    refine wpAny_take (i := 2) (v := ?_) rfl (by kernel_rfl) (by kernel_rfl) (by kernel_rfl) (fun _ _ _ h => h) (Or.inl ⟨by rfl, ?_⟩) ?_
    rotate_left
    · intro w; go_simp; first | done | with_reducible rfl
    try simp only [Act.put, List.getElem_toArray, List.getElem_cons_succ, List.getElem_cons_zero, List.setIfInBounds_toArray, List.set_cons_zero, List.set_cons_succ]
    refine wpAny_take (i := 3) (v := ?_) rfl (by kernel_rfl) (by kernel_rfl) (by kernel_rfl) (fun _ _ _ h => h) (Or.inl ⟨by rfl, ?_⟩) ?_
    rotate_left
    · intro w; go_simp; first | done | with_reducible rfl
    try simp only [Act.put, List.getElem_toArray, List.getElem_cons_succ, List.getElem_cons_zero, List.setIfInBounds_toArray, List.set_cons_zero, List.set_cons_succ]
    refine wpAny_take (i := 5) (v := ?_) rfl (by kernel_rfl) (by kernel_rfl) (by kernel_rfl) (fun _ _ _ h => h) (Or.inl ⟨by rfl, ?_⟩) ?_
    rotate_left
    · intro w; go_simp; first | done | with_reducible rfl
    try simp only [Act.put, List.getElem_toArray, List.getElem_cons_succ, List.getElem_cons_zero, List.setIfInBounds_toArray, List.set_cons_zero, List.set_cons_succ]
    refine wpAny_take (i := 6) (v := ?_) rfl (by kernel_rfl) (by kernel_rfl) (by kernel_rfl) (fun _ _ _ h => h) (Or.inl ⟨by rfl, ?_⟩) ?_
    rotate_left
    · intro w; go_simp; first | done | with_reducible rfl
    try simp only [Act.put, List.getElem_toArray, List.getElem_cons_succ, List.getElem_cons_zero, List.setIfInBounds_toArray, List.set_cons_zero, List.set_cons_succ]
    refine wpAny_take (i := 7) (v := ?_) rfl (by kernel_rfl) (by kernel_rfl) (by kernel_rfl) (fun _ _ _ h => h) (Or.inl ⟨by rfl, ?_⟩) ?_
    rotate_left
    · intro w; go_simp; first | done | with_reducible rfl
    try simp only [Act.put, List.getElem_toArray, List.getElem_cons_succ, List.getElem_cons_zero, List.setIfInBounds_toArray, List.set_cons_zero, List.set_cons_succ]
    refine wpAny_ready (rs := [0, 4]) (by kernel_rfl) (by simp) ?_
    refine AllReady.cons rfl (fun K hK => ?_) ?_
    ·
      refine step_want rfl ?_
      refine wp_load_mid 26 _ rfl p3 0 rfl _ _ (Blk.range hT.2) hu' rfl (mgInfo _ _) ?_
      refine hK _ _ ?_
      clear hK K
      try simp only [Act.put, List.getElem_toArray, List.getElem_cons_succ, List.getElem_cons_zero, List.setIfInBounds_toArray, List.set_cons_zero, List.set_cons_succ]
      refine wpAny_ready (rs := [4]) (by kernel_rfl) (by simp) ?_
      refine AllReady.cons rfl (fun K hK => ?_) ?_
      ·
        refine step_want rfl ?_
        refine wp_load_mid 26 _ rfl p1 0 rfl _ _ (Blk.range hT.1) hu' rfl (mgInfo _ _) ?_
        refine hK _ _ ?_
        clear hK K
        try simp only [Act.put, List.getElem_toArray, List.getElem_cons_succ, List.getElem_cons_zero, List.setIfInBounds_toArray, List.set_cons_zero, List.set_cons_succ]
        refine wpAny_ready (rs := [8]) (by kernel_rfl) (by simp) ?_
        refine AllReady.cons rfl (fun K hK => ?_) ?_
        ·
          go_simp
          go_wp2_with (refine (number_n _ m ao n cap u _ HX.out N HN).mono ?_; rintro e w4 ⟨rfl, hb4⟩; replace hT := Two.next hT hb4; replace hT2 := hT2.below hb4 hT2.lt; replace hbw := below_then' hbw hb4; clear hb4)
          try (refine hK _ _ ?_)
          try clear hK K
          try simp only [Act.put, List.getElem_toArray, List.getElem_cons_succ, List.getElem_cons_zero, List.setIfInBounds_toArray, List.set_cons_zero, List.set_cons_succ]
          refine wpAny_ready (rs := [9]) (by kernel_rfl) (by simp) ?_
          refine AllReady.cons rfl (fun K hK => ?_) ?_
          ·
            go_simp
            go_wp2_with (refine (set_is _ R (aoOf Lk ao) (nOf Lk n) (nOf Lk cap) u _ N HX.out).mono ?_; rintro e w4 ⟨rfl, hb4⟩; replace hT := Two.next hT hb4; replace hT2 := hT2.below hb4 hT2.lt; replace hbw := below_then' hbw hb4; clear hb4)
            try (refine hK _ _ ?_)
            try clear hK K
            try simp only [Act.put, List.getElem_toArray, List.getElem_cons_succ, List.getElem_cons_zero, List.setIfInBounds_toArray, List.set_cons_zero, List.set_cons_succ]
            refine wpAny_ready (rs := [10]) (by kernel_rfl) (by simp) ?_
            refine AllReady.cons rfl (fun K hK => ?_) ?_
            ·
              refine step_want rfl ?_
              refine wp_store_mid 26 _ _ rfl p3 0 (mgC (setM R u N) (.slice (aoOf Lk ao) (nOf Lk n) (nOf Lk cap))).toArray rfl rfl (Blk.there hT.2 _ _ rfl) (mgInfo _ _) (mgOne _ _ _ _) ?_
              refine hK _ _ ?_
              clear hK K
              have hS1 := putM_other hT.1 HNE.out.1 (setM R u N) (.slice (aoOf Lk ao) (nOf Lk n) (nOf Lk cap))
              have hS2 := putM_other hT2 HNE.out.2 (setM R u N) (.slice (aoOf Lk ao) (nOf Lk n) (nOf Lk cap))
              have hS3 := putM_blk (m := setM R u N) (v := (.slice (aoOf Lk ao) (nOf Lk n) (nOf Lk cap))) hT.2
              have hB5 := putM_below hbw hwp (setM R u N) (.slice (aoOf Lk ao) (nOf Lk n) (nOf Lk cap))
              change wpAny _ _ _ _ _ _ _ (putM _ p3 (setM R u N) (.slice (aoOf Lk ao) (nOf Lk n) (nOf Lk cap)))
              generalize putM _ p3 (setM R u N) (.slice (aoOf Lk ao) (nOf Lk n) (nOf Lk cap)) = W5 at hS1 hS2 hS3 hB5 ⊢
              try simp only [Act.put, List.getElem_toArray, List.getElem_cons_succ, List.getElem_cons_zero, List.setIfInBounds_toArray, List.set_cons_zero, List.set_cons_succ]
              refine wpAny_done (by kernel_rfl) ?_ _
              rw [HM.out] at hS3
              have HN3 : Hid (Blk W5 p3 (mgC (restr m ((flds m.kind).take (k + 1))) (vOf ((flds m.kind).take (k + 1)) ao n cap)) 26) := by
                refine Lib.hid ?_
                rw [HTK.out, ← HR2.out]
                unfold vOf; rw [HSN.out.1, HSN.out.2.1, HSN.out.2.2]; exact hS3
              have HN1 := Lib.hid hS1
              have HN2 := Lib.hid hS2
              have HB5 := Lib.hid hB5
              clear hS1 hS2 hS3 hB5 hT hT2 hbw
              go_wp2
              go_roundw
              case rel => exact ⟨k + 1, by omega, by go_num, HN1.out, HN2.out, HN3.out, HB5.out⟩
              case measure => simp [intOf]; omega
            exact AllReady.nil
          exact AllReady.nil
        exact AllReady.nil
      exact AllReady.nil
    refine AllReady.cons rfl (fun K hK => ?_) ?_
    ·
      refine step_want rfl ?_
      refine wp_load_mid 26 _ rfl p1 0 rfl _ _ (Blk.range hT.1) hu' rfl (mgInfo _ _) ?_
      refine hK _ _ ?_
      clear hK K
      try simp only [Act.put, List.getElem_toArray, List.getElem_cons_succ, List.getElem_cons_zero, List.setIfInBounds_toArray, List.set_cons_zero, List.set_cons_succ]
      refine wpAny_ready (rs := [0, 8]) (by kernel_rfl) (by simp) ?_
      refine AllReady.cons rfl (fun K hK => ?_) ?_
      ·
        refine step_want rfl ?_
        refine wp_load_mid 26 _ rfl p3 0 rfl _ _ (Blk.range hT.2) hu' rfl (mgInfo _ _) ?_
        refine hK _ _ ?_
        clear hK K
        try simp only [Act.put, List.getElem_toArray, List.getElem_cons_succ, List.getElem_cons_zero, List.setIfInBounds_toArray, List.set_cons_zero, List.set_cons_succ]
        refine wpAny_ready (rs := [8]) (by kernel_rfl) (by simp) ?_
        refine AllReady.cons rfl (fun K hK => ?_) ?_
        ·
          go_simp
          go_wp2_with (refine (number_n _ m ao n cap u _ HX.out N HN).mono ?_; rintro e w4 ⟨rfl, hb4⟩; replace hT := Two.next hT hb4; replace hT2 := hT2.below hb4 hT2.lt; replace hbw := below_then' hbw hb4; clear hb4)
          try (refine hK _ _ ?_)
          try clear hK K
          try simp only [Act.put, List.getElem_toArray, List.getElem_cons_succ, List.getElem_cons_zero, List.setIfInBounds_toArray, List.set_cons_zero, List.set_cons_succ]
          refine wpAny_ready (rs := [9]) (by kernel_rfl) (by simp) ?_
          refine AllReady.cons rfl (fun K hK => ?_) ?_
          ·
            go_simp
            go_wp2_with (refine (set_is _ R (aoOf Lk ao) (nOf Lk n) (nOf Lk cap) u _ N HX.out).mono ?_; rintro e w4 ⟨rfl, hb4⟩; replace hT := Two.next hT hb4; replace hT2 := hT2.below hb4 hT2.lt; replace hbw := below_then' hbw hb4; clear hb4)
            try (refine hK _ _ ?_)
            try clear hK K
            try simp only [Act.put, List.getElem_toArray, List.getElem_cons_succ, List.getElem_cons_zero, List.setIfInBounds_toArray, List.set_cons_zero, List.set_cons_succ]
            refine wpAny_ready (rs := [10]) (by kernel_rfl) (by simp) ?_
            refine AllReady.cons rfl (fun K hK => ?_) ?_
            ·
              refine step_want rfl ?_
              refine wp_store_mid 26 _ _ rfl p3 0 (mgC (setM R u N) (.slice (aoOf Lk ao) (nOf Lk n) (nOf Lk cap))).toArray rfl rfl (Blk.there hT.2 _ _ rfl) (mgInfo _ _) (mgOne _ _ _ _) ?_
              refine hK _ _ ?_
              clear hK K
              have hS1 := putM_other hT.1 HNE.out.1 (setM R u N) (.slice (aoOf Lk ao) (nOf Lk n) (nOf Lk cap))
              have hS2 := putM_other hT2 HNE.out.2 (setM R u N) (.slice (aoOf Lk ao) (nOf Lk n) (nOf Lk cap))
              have hS3 := putM_blk (m := setM R u N) (v := (.slice (aoOf Lk ao) (nOf Lk n) (nOf Lk cap))) hT.2
              have hB5 := putM_below hbw hwp (setM R u N) (.slice (aoOf Lk ao) (nOf Lk n) (nOf Lk cap))
              change wpAny _ _ _ _ _ _ _ (putM _ p3 (setM R u N) (.slice (aoOf Lk ao) (nOf Lk n) (nOf Lk cap)))
              generalize putM _ p3 (setM R u N) (.slice (aoOf Lk ao) (nOf Lk n) (nOf Lk cap)) = W5 at hS1 hS2 hS3 hB5 ⊢
              try simp only [Act.put, List.getElem_toArray, List.getElem_cons_succ, List.getElem_cons_zero, List.setIfInBounds_toArray, List.set_cons_zero, List.set_cons_succ]
              refine wpAny_done (by kernel_rfl) ?_ _
              rw [HM.out] at hS3
              have HN3 : Hid (Blk W5 p3 (mgC (restr m ((flds m.kind).take (k + 1))) (vOf ((flds m.kind).take (k + 1)) ao n cap)) 26) := by
                refine Lib.hid ?_
                rw [HTK.out, ← HR2.out]
                unfold vOf; rw [HSN.out.1, HSN.out.2.1, HSN.out.2.2]; exact hS3
              have HN1 := Lib.hid hS1
              have HN2 := Lib.hid hS2
              have HB5 := Lib.hid hB5
              clear hS1 hS2 hS3 hB5 hT hT2 hbw
              go_wp2
              go_roundw
              case rel => exact ⟨k + 1, by omega, by go_num, HN1.out, HN2.out, HN3.out, HB5.out⟩
              case measure => simp [intOf]; omega
            exact AllReady.nil
          exact AllReady.nil
        exact AllReady.nil
      refine AllReady.cons rfl (fun K hK => ?_) ?_
      ·
        go_simp
        go_wp2_with (refine (number_n _ m ao n cap u _ HX.out N HN).mono ?_; rintro e w4 ⟨rfl, hb4⟩; replace hT := Two.next hT hb4; replace hT2 := hT2.below hb4 hT2.lt; replace hbw := below_then' hbw hb4; clear hb4)
        try (refine hK _ _ ?_)
        try clear hK K
        try simp only [Act.put, List.getElem_toArray, List.getElem_cons_succ, List.getElem_cons_zero, List.setIfInBounds_toArray, List.set_cons_zero, List.set_cons_succ]
        refine wpAny_ready (rs := [0]) (by kernel_rfl) (by simp) ?_
        refine AllReady.cons rfl (fun K hK => ?_) ?_
        ·
          refine step_want rfl ?_
          refine wp_load_mid 26 _ rfl p3 0 rfl _ _ (Blk.range hT.2) hu' rfl (mgInfo _ _) ?_
          refine hK _ _ ?_
          clear hK K
          try simp only [Act.put, List.getElem_toArray, List.getElem_cons_succ, List.getElem_cons_zero, List.setIfInBounds_toArray, List.set_cons_zero, List.set_cons_succ]
          refine wpAny_ready (rs := [9]) (by kernel_rfl) (by simp) ?_
          refine AllReady.cons rfl (fun K hK => ?_) ?_
          ·
            go_simp
            go_wp2_with (refine (set_is _ R (aoOf Lk ao) (nOf Lk n) (nOf Lk cap) u _ N HX.out).mono ?_; rintro e w4 ⟨rfl, hb4⟩; replace hT := Two.next hT hb4; replace hT2 := hT2.below hb4 hT2.lt; replace hbw := below_then' hbw hb4; clear hb4)
            try (refine hK _ _ ?_)
            try clear hK K
            try simp only [Act.put, List.getElem_toArray, List.getElem_cons_succ, List.getElem_cons_zero, List.setIfInBounds_toArray, List.set_cons_zero, List.set_cons_succ]
            refine wpAny_ready (rs := [10]) (by kernel_rfl) (by simp) ?_
            refine AllReady.cons rfl (fun K hK => ?_) ?_
            ·
              refine step_want rfl ?_
              refine wp_store_mid 26 _ _ rfl p3 0 (mgC (setM R u N) (.slice (aoOf Lk ao) (nOf Lk n) (nOf Lk cap))).toArray rfl rfl (Blk.there hT.2 _ _ rfl) (mgInfo _ _) (mgOne _ _ _ _) ?_
              refine hK _ _ ?_
              clear hK K
              have hS1 := putM_other hT.1 HNE.out.1 (setM R u N) (.slice (aoOf Lk ao) (nOf Lk n) (nOf Lk cap))
              have hS2 := putM_other hT2 HNE.out.2 (setM R u N) (.slice (aoOf Lk ao) (nOf Lk n) (nOf Lk cap))
              have hS3 := putM_blk (m := setM R u N) (v := (.slice (aoOf Lk ao) (nOf Lk n) (nOf Lk cap))) hT.2
              have hB5 := putM_below hbw hwp (setM R u N) (.slice (aoOf Lk ao) (nOf Lk n) (nOf Lk cap))
              change wpAny _ _ _ _ _ _ _ (putM _ p3 (setM R u N) (.slice (aoOf Lk ao) (nOf Lk n) (nOf Lk cap)))
              generalize putM _ p3 (setM R u N) (.slice (aoOf Lk ao) (nOf Lk n) (nOf Lk cap)) = W5 at hS1 hS2 hS3 hB5 ⊢
              try simp only [Act.put, List.getElem_toArray, List.getElem_cons_succ, List.getElem_cons_zero, List.setIfInBounds_toArray, List.set_cons_zero, List.set_cons_succ]
              refine wpAny_done (by kernel_rfl) ?_ _
              rw [HM.out] at hS3
              have HN3 : Hid (Blk W5 p3 (mgC (restr m ((flds m.kind).take (k + 1))) (vOf ((flds m.kind).take (k + 1)) ao n cap)) 26) := by
                refine Lib.hid ?_
                rw [HTK.out, ← HR2.out]
                unfold vOf; rw [HSN.out.1, HSN.out.2.1, HSN.out.2.2]; exact hS3
              have HN1 := Lib.hid hS1
              have HN2 := Lib.hid hS2
              have HB5 := Lib.hid hB5
              clear hS1 hS2 hS3 hB5 hT hT2 hbw
              go_wp2
              go_roundw
              case rel => exact ⟨k + 1, by omega, by go_num, HN1.out, HN2.out, HN3.out, HB5.out⟩
              case measure => simp [intOf]; omega
            exact AllReady.nil
          exact AllReady.nil
        exact AllReady.nil
      exact AllReady.nil
    exact AllReady.nil
end Go.Proofs.Ytlcpnpoleaanmaa
