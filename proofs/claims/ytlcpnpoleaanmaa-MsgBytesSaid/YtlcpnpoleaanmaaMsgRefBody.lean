/- A message's bytes: the document's Body. Conditions: the message may be. -/
import Derived.Test.YtlcpnpoleaanmaaMsgUse
namespace Go.Proofs.Ytlcpnpoleaanmaa
open Go.RowKit
set_option linter.unusedVariables false

theorem refBytes_i (w : World) (n : Int) (h0 : 0 ≤ n) (h1 : n ≤ 4611686018427387903) (A : ByteArray) (hA : Hid (bA (numL n.toNat) = A)) :
    Calls Try.prog 36 #[.int .i64 n] w fun e w' => e = .returned (.string A) ∧ Below w.heap.size w w' := by
  rw [← hA.out]
  obtain ⟨N, rfl⟩ : ∃ N : Nat, n = N := ⟨n.toNat, by omega⟩
  exact refBytes_any N w (by omega)
theorem ens_take' (l : List En) (j : Nat) (x : En) (h : l[j]? = some x) : (l.take (j + 1)).flatMap enL = (l.take j).flatMap enL ++ (numL x.gen.toNat ++ (numL x.ballot.toNat ++ x.mark.data.toList)) := ens_take l j x h
theorem enRow.below {x : En} {w w' : World} {b o : Nat} (h : enRow x w b o) (hb : Below w.heap.size w w') (hl : b < w.heap.size) : enRow x w' b o :=
  ⟨(hb.cell (p := ⟨b, o, none⟩) hl).trans h.1, (hb.cell (p := ⟨b, o + 1, none⟩) hl).trans h.2.1, (hb.cell (p := ⟨b, o + 2, none⟩) hl).trans h.2.2⟩
theorem bA_append (a b : List UInt8) : bA a ++ bA b = bA (a ++ b) := by
  apply ByteArray.ext
  rw [ByteArray.data_append]
  simp [bA]
theorem text_ok (w : World) (s : ByteArray) (hs : s.size ≤ 1048576) :
    Calls Try.prog 37 #[.string s] w fun e w' => e = .returned (.tuple #[.string (bA (numL s.size) ++ s), .int .i64 0]) ∧ Below w.heap.size w w' := by
  have d1 : decide ((1048576 : Int) < (s.size : Int)) = false := decide_eq_false (by omega)
  have d2 : ¬ (1048576 : Int) < (s.size : Int) := by omega
  obtain ⟨A, hA⟩ : ∃ A, A = bA (numL s.size) := ⟨_, rfl⟩
  have HA : Hid (bA (numL (s.size : Int).toNat) = A) := Lib.hid hA.symm
  have hl : A.size ≤ 9 := by rw [hA, bA_size]; exact numL_le9 _ (by omega)
  have hsum : A.size + s.size ≤ 9223372036854775807 := by omega
  rw [← hA]
  clear hA
  go_enter Try.func37, Try.ntmps37
  go_wp2_with fail
  refine (refBytes_i w (s.size : Int) (by omega) (by omega) A HA).mono ?_
  rintro e w1 ⟨rfl, hb1⟩
  have HB1 := Lib.hid hb1
  clear hb1
  go_wp2
  go_ret2
  exact ⟨rfl, HB1.out⟩

set_option maxRecDepth 100000 in
set_option maxHeartbeats 8000000 in
theorem rbody_any (w : World) (m : Mg) (ao : Option Addr) (n cap : Nat) (hR : Rs w ao n cap 3 m.list enC) (hok : rightM m) :
    Calls Try.prog 18 #[.agg (mgC m (.slice ao n cap)).toArray] w fun e w' => e = .returned (.string (bA (bodyL m))) ∧ Below w.heap.size w w' := by
  obtain ⟨V, hV⟩ : ∃ V, V = w.alloc (.cells (mgC m (.slice ao n cap)).toArray 26) := ⟨_, rfl⟩
  obtain ⟨p, hp⟩ : ∃ p, p = w.heap.size := ⟨_, rfl⟩
  have hG : Blk V p (mgC m (.slice ao n cap)) 26 := by rw [hV, hp]; exact Blk.new _ _ _
  have hB : Below w.heap.size w V := by rw [hV]; exact below_alloc' _ _
  have HRW : Hid (∀ W, Below w.heap.size w W → Rs W ao n cap 3 m.list enC) := Lib.hid (fun W h => hR.below h (Nat.le_refl _))
  have HL := Lib.hid hR.2.2.1
  have HOK := Lib.hid hok
  have hk17 := flds_kind hok.1.1
  have hhd := hok.1
  obtain ⟨-, s1, s2, d1, d2⟩ := hhd
  have HHD : Hid ((0 ≤ m.kind ∧ m.kind ≤ 4611686018427387903) ∧ (0 ≤ m.src ∧ m.src ≤ 4611686018427387903) ∧ (0 ≤ m.dst ∧ m.dst ≤ 4611686018427387903)) := Lib.hid (by omega)
  obtain ⟨A1, hA1⟩ : ∃ A, A = bA (numL m.kind.toNat) := ⟨_, rfl⟩
  obtain ⟨A2, hA2⟩ : ∃ A, A = bA (numL m.src.toNat) := ⟨_, rfl⟩
  obtain ⟨A3, hA3⟩ : ∃ A, A = bA (numL m.dst.toNat) := ⟨_, rfl⟩
  have l1 : A1.size ≤ 9 := by rw [hA1, bA_size]; exact numL_le9 _ (by omega)
  have l2 : A2.size ≤ 9 := by rw [hA2, bA_size]; exact numL_le9 _ (by omega)
  have l3 : A3.size ≤ 9 := by rw [hA3, bA_size]; exact numL_le9 _ (by omega)
  have HA1 : Hid (bA (numL m.kind.toNat) = A1) := Lib.hid hA1.symm
  have HA2 : Hid (bA (numL m.src.toNat) = A2) := Lib.hid hA2.symm
  have HA3 : Hid (bA (numL m.dst.toNat) = A3) := Lib.hid hA3.symm
  have hpre : A1 ++ A2 ++ A3 = bA (pre m 0) := by rw [hA1, hA2, hA3, bA_append, bA_append]; simp [pre, headL]
  have HPRE := Lib.hid hpre
  have m1 : ¬ 9223372036854775807 < A1.size + A2.size := by omega
  have m2 : ¬ 9223372036854775807 < A1.size + A2.size + A3.size := by omega
  have c0 := hG.cell (i := 0) rfl
  have c1 := hG.cell (i := 1) rfl
  have c2 := hG.cell (i := 2) rfl
  unfold mgC at hV ⊢
  have HV := Lib.hid hV
  have HP := Lib.hid hp
  have HB := Lib.hid hB
  have HG := Lib.hid hG
  clear hV hp hB hR hok hA1 hA2 hA3 hpre s1 s2 d1 d2 hk17
  go_enter Try.func18, Try.ntmps18
  go_upto_region 1 with fail
  rw [← HP.out, ← HV.out]
  have hH : Blk V.drew p (mgC m (.slice ao n cap)) 26 := hG
  have hbw : Below w.heap.size w V.drew := below_drewN' HB.out 1
  clear hG
  go_region_held3 (fun w' => w'.cell? ⟨p, 0, none⟩ = some (.int .i64 m.kind) ∧ w'.cell? ⟨p, 1, none⟩ = some (.int .i64 m.src) ∧ w'.cell? ⟨p, 2, none⟩ = some (.int .i64 m.dst))
    (first | go_keep | exact ⟨hH.cell rfl, hH.cell rfl, hH.cell rfl⟩)
    (first
      | (go_at_call_of 36 (Value.int .i64 m.kind); ((with_reducible refine (refBytes_i _ m.kind HHD.out.1.1 HHD.out.1.2 A1 HA1).mono ?_)); rintro e w4 ⟨rfl, hb4⟩; replace hH := hH.below hb4 hH.lt; replace hbw := below_then' (by assumption : Below w.heap.size w _) hb4; clear hb4)
      | (go_at_call_of 36 (Value.int .i64 m.src); ((with_reducible refine (refBytes_i _ m.src HHD.out.2.1.1 HHD.out.2.1.2 A2 HA2).mono ?_)); rintro e w4 ⟨rfl, hb4⟩; replace hH := hH.below hb4 hH.lt; replace hbw := below_then' (by assumption : Below w.heap.size w _) hb4; clear hb4)
      | (go_at_call_of 36 (Value.int .i64 m.dst); ((with_reducible refine (refBytes_i _ m.dst HHD.out.2.2.1 HHD.out.2.2.2 A3 HA3).mono ?_)); rintro e w4 ⟨rfl, hb4⟩; replace hH := hH.below hb4 hH.lt; replace hbw := below_then' (by assumption : Below w.heap.size w _) hb4; clear hb4))
  rw [HPRE.out]
  have HH0 := Lib.hid (And.intro hH hbw)
  have c0 := hH.cell (i := 0) rfl
  clear hH hbw
  go_wp2_with fail
  refine (fields_any w4 m.kind).mono ?_
  rintro e wf ⟨rfl, rfl⟩
  go_wp2_with fail
  clear c0 c1 c2
  obtain ⟨S, hS⟩ : ∃ S, S = fldS m.kind := ⟨_, rfl⟩
  have hsz : S.size = (flds m.kind).length := by rw [hS]; rfl
  have h5 : S.size ≤ 5 := by rw [hsz]; exact flds_len _
  rw [← hS]
  have HS := Lib.hid hS
  have HSZ := Lib.hid hsz
  clear hS hsz
  go_loopw [3, 5] (fun a i wr => ∃ k : Nat, k ≤ S.size ∧ i = .int .i64 k ∧ a = .string (bA (pre m k)) ∧ Blk wr p (mgC m (.slice ao n cap)) 26 ∧ Below w.heap.size w wr) (fun _ i _ => S.size - (intOf i).toNat)
  case atStart => exact ⟨0, by omega, rfl, rfl, HH0.out.1, HH0.out.2⟩
  case round =>
    clear HH0
    obtain ⟨k, hk, rfl, rfl, hb, hBw⟩ := hrel
    by_cases hlt : k < S.size
    case neg =>
      have hkn : k = S.size := by omega
      have e : pre m k = bodyL m := by rw [hkn, HSZ.out]; exact pre_all m
      rw [e]
      have HBW := Lib.hid hBw
      clear hb hBw hkn e
      go_wp2
      go_ret
      exact ⟨rfl, HBW.out⟩
    have hkf : k < (flds m.kind).length := by rw [← HSZ.out]; exact hlt
    obtain ⟨u, hu⟩ : ∃ u, u = S[k] := ⟨_, rfl⟩
    have hue : u = (flds m.kind)[k] := by rw [hu]; have h2 := HS.out; subst h2; rfl
    have hug : (flds m.kind)[k]? = some u := by rw [hue]; exact List.getElem?_eq_getElem hkf
    have hum : u ∈ flds m.kind := by rw [hue]; exact List.getElem_mem hkf
    have HUG := Lib.hid hug
    have HUM := Lib.hid hum
    have HBW := Lib.hid hBw
    have HB1 := Lib.hid hb
    have hpl := pre_bd HOK.out k
    have HFB := Lib.hid (fld_bd HOK.out u hum)
    obtain ⟨P, hP⟩ : ∃ P, P = bA (pre m k) := ⟨_, rfl⟩
    have hPs : P.size ≤ 30000 := by rw [hP, bA_size]; exact hpl
    rw [← hP]
    have HPP := Lib.hid hP
    clear hue hug hum hBw hb hpl hP
    by_cases h77 : u = 77
    case pos =>
      have d : (((S[k]).toNat : Int) == 77) = true := by rw [← hu]; exact chEq (d := 77) rfl h77
      have g := HB1.out.cell (i := 9) rfl
      have h32 : m.mark.size = 32 := HOK.out.2.2.1.1 (by rw [h77] at HUM; simpa [hasF] using HUM.out)
      have hsum : ¬ 9223372036854775807 < P.size + m.mark.size := by omega
      have HN : Hid (P ++ m.mark = bA (pre m (k + 1))) := by
        rw [h77] at HUG
        refine Lib.hid ?_
        rw [pre_fld (d := m.mark.data.toList) HUG.out rfl, HPP.out, ← bA_append, bA_list]
      clear hu h77 h32
      go_wp2
      go_roundw
      case rel => exact ⟨k + 1, by omega, by go_num, by rw [HN.out], HB1.out, HBW.out⟩
      case measure => simp [intOf]; omega
    have d77 : (((S[k]).toNat : Int) == 77) = false := by rw [← hu]; exact chNe (d := 77) rfl h77
    by_cases h80 : u = 80
    case pos =>
      as_aux_lemma =>
        have d : (((S[k]).toNat : Int) == 80) = true := by rw [← hu]; exact chEq (d := 80) rfl h80
        rw [h80] at HUG HUM
        obtain ⟨q1, q2, q3, q4, q5⟩ := HOK.out.2.2.2.1.1 (by simpa [hasF] using HUM.out)
        have HQ : Hid ((0 ≤ m.pat ∧ m.pat ≤ 4611686018427387903) ∧ (0 ≤ m.pof ∧ m.pof ≤ 4611686018427387903)) := Lib.hid (by omega)
        obtain ⟨B1, hB1⟩ : ∃ A, A = bA (numL m.pat.toNat) := ⟨_, rfl⟩
        obtain ⟨B2, hB2⟩ : ∃ A, A = bA (numL m.pof.toNat) := ⟨_, rfl⟩
        obtain ⟨T, hT⟩ : ∃ A, A = bA (numL m.ptext.size) ++ m.ptext := ⟨_, rfl⟩
        have l1 : B1.size ≤ 9 := by rw [hB1, bA_size]; exact numL_le9 _ (by omega)
        have l2 : B2.size ≤ 9 := by rw [hB2, bA_size]; exact numL_le9 _ (by omega)
        have l3 : T.size ≤ 1033 := by rw [hT, ByteArray.size_append, bA_size]; have := numL_le9 m.ptext.size (by omega); omega
        have HB1' : Hid (bA (numL m.pat.toNat) = B1) := Lib.hid hB1.symm
        have HB2' : Hid (bA (numL m.pof.toNat) = B2) := Lib.hid hB2.symm
        have n1 : ¬ 9223372036854775807 < P.size + B1.size := by omega
        have n2 : ¬ 9223372036854775807 < P.size + B1.size + B2.size := by omega
        have n3 : ¬ 9223372036854775807 < P.size + B1.size + B2.size + T.size := by omega
        have HN : Hid (P ++ B1 ++ B2 ++ T = bA (pre m (k + 1))) := by
          refine Lib.hid ?_
          rw [pre_fld (d := numL m.pat.toNat ++ numL m.pof.toNat ++ numL m.ptext.size ++ m.ptext.data.toList) HUG.out rfl, HPP.out, hB1, hB2, hT]
          simp only [← bA_append, bA_list, ByteArray.append_assoc]
        have HTT := Lib.hid hT
        have g12 := HB1.out.cell (i := 12) rfl
        clear hu h80 h77 hB1 hB2 hT q1 q2 q3 q4
        go_wp2_with fail
        refine (text_ok wr m.ptext (by omega)).mono ?_
        rintro e w5 ⟨rfl, hb5⟩
        rw [← HTT.out]
        have HB5 := Lib.hid (HB1.out.below hb5 HB1.out.lt)
        have HW5 := Lib.hid (below_then' HBW.out hb5)
        clear hb5 g12
        have g10 := HB5.out.cell (i := 10) rfl
        have g11 := HB5.out.cell (i := 11) rfl
        have hH : Blk w5.drew p (mgC m (.slice ao n cap)) 26 := HB5.out
        have hbw : Below w.heap.size w w5.drew := below_drewN' HW5.out 1
        go_wp2_with fail
        go_region_held3 (fun w' => w'.cell? ⟨p, 10, none⟩ = some (.int .i64 m.pat) ∧ w'.cell? ⟨p, 11, none⟩ = some (.int .i64 m.pof))
          (first | go_keep | exact ⟨hH.cell rfl, hH.cell rfl⟩)
          (first
            | (go_at_call_of 36 (Value.int .i64 m.pat); ((with_reducible refine (refBytes_i _ m.pat HQ.out.1.1 HQ.out.1.2 B1 HB1').mono ?_)); rintro e w4 ⟨rfl, hb4⟩; replace hH := hH.below hb4 hH.lt; replace hbw := below_then' (by assumption : Below w.heap.size w _) hb4; clear hb4)
            | (go_at_call_of 36 (Value.int .i64 m.pof); ((with_reducible refine (refBytes_i _ m.pof HQ.out.2.1 HQ.out.2.2 B2 HB2').mono ?_)); rintro e w4 ⟨rfl, hb4⟩; replace hH := hH.below hb4 hH.lt; replace hbw := below_then' (by assumption : Below w.heap.size w _) hb4; clear hb4))
        all_goals
          have HF := Lib.hid (And.intro hH hbw)
          clear hH hbw
          go_wp2
          go_roundw
          case rel => exact ⟨k + 1, by omega, by go_num, by rw [HN.out], HF.out.1, HF.out.2⟩
          case measure => simp [intOf]; omega
    have d80 : (((S[k]).toNat : Int) == 80) = false := by rw [← hu]; exact chNe (d := 80) rfl h80
    by_cases h76 : u = 76
    case pos =>
      as_aux_lemma =>
        have d : (((S[k]).toNat : Int) == 76) = true := by rw [← hu]; exact chEq (d := 76) rfl h76
        rw [h76] at HUG HUM
        obtain ⟨q1, q2⟩ := okList_mem HOK.out.2.2.2.2 HUM.out
        have Q2 := Lib.hid q2
        have q1' : n ≤ 64 := by rw [← HL.out]; exact q1
        obtain ⟨B1, hB1⟩ : ∃ A, A = bA (numL (n : Int).toNat) := ⟨_, rfl⟩
        have l1 : B1.size ≤ 9 := by rw [hB1, bA_size]; exact numL_le9 _ (by omega)
        have HB1' : Hid (bA (numL (n : Int).toNat) = B1) := Lib.hid hB1.symm
        have n1 : ¬ 9223372036854775807 < P.size + B1.size := by omega
        obtain ⟨PL, hPL⟩ : ∃ L, L = pre m k ++ numL n := ⟨_, rfl⟩
        have hst : P ++ B1 = bA PL := by rw [HPP.out, hB1, hPL, bA_append]; rfl
        have hPl : PL.length ≤ 30009 := by
          rw [hPL, List.length_append]; have := numL_le9 n (by omega); have := pre_bd HOK.out k; omega
        have HST := Lib.hid hst
        have HPL := Lib.hid hPL
        have g13 := HB1.out.cell (i := 13) rfl
        clear hu h80 h77 h76 hB1 hst hPL q1 q2
        go_wp2_with fail
        refine (refBytes_i wr (n : Int) (by omega) (by omega) B1 HB1').mono ?_
        rintro e w5 ⟨rfl, hb5⟩
        have HB5 := Lib.hid (HB1.out.below hb5 HB1.out.lt)
        have HW5 := Lib.hid (below_then' HBW.out hb5)
        clear hb5 g13
        obtain ⟨wo, rfl⟩ : ∃ wo : World, wo = wr := ⟨_, rfl⟩
        go_wp2_with fail
        rw [HST.out]
        go_loopw [3, 8] (fun a i wr => ∃ j : Nat, j ≤ n ∧ i = .int .i64 j ∧ a = .string (bA (PL ++ (m.list.take j).flatMap enL)) ∧ Blk wr p (mgC m (.slice ao n cap)) 26 ∧ Below w.heap.size w wr) (fun _ i _ => n - (intOf i).toNat)
        case atStart => exact ⟨0, by omega, rfl, by simp, HB5.out, HW5.out⟩
        case round =>
          clear HB5 HW5
          obtain ⟨j, hj, rfl, rfl, hb, hBw⟩ := hrel
          have g13 := hb.cell (i := 13) rfl
          by_cases hjn : j < n
          case neg =>
            have hjn2 : j = n := by omega
            have e : PL ++ (m.list.take j).flatMap enL = pre m (k + 1) := by
              rw [hjn2, ← HL.out, List.take_length, HPL.out, pre_fld (d := numL m.list.length ++ m.list.flatMap enL) HUG.out rfl, HL.out, List.append_assoc]
            rw [e]
            have HF := Lib.hid (And.intro hb hBw)
            clear hb hBw e hjn2
            go_wp2
            go_roundw
            case rel => exact ⟨k + 1, by omega, by go_num, rfl, HF.out.1, HF.out.2⟩
            case measure => simp [intOf]; omega
          obtain ⟨b, off, x, rfl, hx, hr⟩ := rs_en (HRW.out _ hBw) hjn
          have hbl : b < wr.heap.size := World.block_lt_of_cell? wr _ hr.1
          obtain ⟨a0, a1, a2⟩ := hr
          obtain ⟨o1, o2, o3, o4, o5⟩ := Q2.out x (List.mem_of_getElem? hx)
          have htl := ens_take' m.list j x hx
          have hel := ens_bd (m.list.take j) (fun y hy => Q2.out y (List.mem_of_mem_take hy))
          have htk : (m.list.take j).length ≤ j := List.length_take_le _ _
          obtain ⟨R, hR⟩ : ∃ R, R = bA (PL ++ (m.list.take j).flatMap enL) := ⟨_, rfl⟩
          have hRs : R.size ≤ 40000 := by rw [hR, bA_size, List.length_append]; omega
          obtain ⟨E1, hE1⟩ : ∃ A, A = bA (numL x.gen.toNat) := ⟨_, rfl⟩
          obtain ⟨E2, hE2⟩ : ∃ A, A = bA (numL x.ballot.toNat) := ⟨_, rfl⟩
          have l2 : E1.size ≤ 9 := by rw [hE1, bA_size]; exact numL_le9 _ (by omega)
          have l3 : E2.size ≤ 9 := by rw [hE2, bA_size]; exact numL_le9 _ (by omega)
          have HE1 : Hid (bA (numL x.gen.toNat) = E1) := Lib.hid hE1.symm
          have HE2 : Hid (bA (numL x.ballot.toNat) = E2) := Lib.hid hE2.symm
          have m1 : ¬ 9223372036854775807 < R.size + E1.size := by omega
          have m2 : ¬ 9223372036854775807 < R.size + E1.size + E2.size := by omega
          have m3 : ¬ 9223372036854775807 < R.size + E1.size + E2.size + x.mark.size := by omega
          have HN : Hid (R ++ E1 ++ E2 ++ x.mark = bA (PL ++ (m.list.take (j + 1)).flatMap enL)) := by
            refine Lib.hid ?_
            rw [htl, hR, hE1, hE2]
            simp only [← bA_append, bA_list, ByteArray.append_assoc]
          rw [← hR]
          have i0 : (0 : Int) ≤ (j : Int) := by omega
          have i1 : (j : Int) < (n : Int) := by omega
          have hH : Blk wr.drew p (mgC m (.slice (some ⟨b, off, none⟩) n cap)) 26 := hb
          have hE : enRow x wr.drew b (off + j * 3) := ⟨a0, a1, a2⟩
          have hbw : Below w.heap.size w wr.drew := below_drewN' hBw 1
          have hbd : b < wr.drew.heap.size := hbl
          have HQ := Lib.hid (And.intro (And.intro o1 o2) (And.intro o3 o4))
          clear hx htl hel htk hR hE1 hE2 o1 o2 o3 o4 o5 hb hBw hbl
          go_wp2_with fail
          go_region_held3 (fun w' => w'.cell? ⟨p, 13, none⟩ = some (.slice (some ⟨b, off, none⟩) n cap) ∧ w'.cell? ⟨b, off + j * 3, none⟩ = some (.int .i64 x.gen) ∧ w'.cell? ⟨b, off + j * 3 + 1, none⟩ = some (.int .i64 x.ballot) ∧ w'.cell? ⟨b, off + j * 3 + 2, none⟩ = some (.string x.mark))
            (first | go_keep | exact ⟨hH.cell rfl, hE.1, hE.2.1, hE.2.2⟩)
            (first
              | (go_at_call_of 36 (Value.int .i64 x.gen); ((with_reducible refine (refBytes_i _ x.gen HQ.out.1.1 HQ.out.1.2 E1 HE1).mono ?_)); rintro e w4 ⟨rfl, hb4⟩; replace hH := hH.below hb4 hH.lt; replace hE := hE.below hb4 hbd; replace hbd := Nat.lt_of_lt_of_le hbd hb4.size; replace hbw := below_then' (by assumption : Below w.heap.size w _) hb4; clear hb4)
              | (go_at_call_of 36 (Value.int .i64 x.ballot); ((with_reducible refine (refBytes_i _ x.ballot HQ.out.2.1 HQ.out.2.2 E2 HE2).mono ?_)); rintro e w4 ⟨rfl, hb4⟩; replace hH := hH.below hb4 hH.lt; replace hE := hE.below hb4 hbd; replace hbd := Nat.lt_of_lt_of_le hbd hb4.size; replace hbw := below_then' (by assumption : Below w.heap.size w _) hb4; clear hb4))
          all_goals
            have HF := Lib.hid (And.intro hH hbw)
            clear hH hbw hE
            go_wp2
            go_roundw
            case rel => exact ⟨j + 1, by omega, by go_num, by rw [HN.out], HF.out.1, HF.out.2⟩
            case measure => simp [intOf]; omega
    have d76 : (((S[k]).toNat : Int) == 76) = false := by rw [← hu]; exact chNe (d := 76) rfl h76
    obtain ⟨N, hN⟩ : ∃ N, N = numM m u := ⟨_, rfl⟩
    have HN : Hid (numM m u = N) := Lib.hid hN.symm
    have hnb := fld_num HOK.out.2.1 u HUM.out h77 h80 h76
    rw [← hN] at hnb
    obtain ⟨q0, q1⟩ := hnb
    obtain ⟨A, hA⟩ : ∃ A, A = bA (numL N.toNat) := ⟨_, rfl⟩
    have HA : Hid (bA (numL N.toNat) = A) := Lib.hid hA.symm
    have hAl : A.size ≤ 9 := by rw [hA, bA_size]; exact numL_le9 _ (by omega)
    have hsum : ¬ 9223372036854775807 < P.size + A.size := by omega
    have HNX : Hid (P ++ A = bA (pre m (k + 1))) := by
      refine Lib.hid ?_
      have e : fldL m u = numL (numM m u).toNat := by unfold fldL; rw [if_neg h77, if_neg h80, if_neg h76]
      rw [pre_fld (d := numL (numM m u).toNat) HUG.out e, HPP.out, hA, hN, bA_append]
    have HX : Hid (((S[k]).toNat : Int) = (u.toNat : Nat)) := Lib.hid (by rw [← hu])
    have i1 : (0 : Int) ≤ (k : Int) := by omega
    have i2 : (k : Int) < (S.size : Int) := by omega
    obtain ⟨c0, c1, c2, c3, c4, c5, c6, c7, c8, c9, c10, c11, c12, c13⟩ := mg_cells HB1.out
    have hH : Blk wr.drew p (mgC m (.slice ao n cap)) 26 := HB1.out
    have hbw : Below w.heap.size w wr.drew := below_drewN' HBW.out 1
    clear hu h77 h80 h76 hN hA
    go_wp2_with fail
    go_region_held3 (fun w' => w'.cell? ⟨p, 0, none⟩ = some (.int .i64 m.kind) ∧ w'.cell? ⟨p, 1, none⟩ = some (.int .i64 m.src) ∧ w'.cell? ⟨p, 2, none⟩ = some (.int .i64 m.dst) ∧ w'.cell? ⟨p, 3, none⟩ = some (.int .i64 m.ballot) ∧ w'.cell? ⟨p, 4, none⟩ = some (.int .i64 m.gen) ∧ w'.cell? ⟨p, 5, none⟩ = some (.int .i64 m.basis) ∧ w'.cell? ⟨p, 6, none⟩ = some (.int .i64 m.floor) ∧ w'.cell? ⟨p, 7, none⟩ = some (.int .i64 m.top) ∧ w'.cell? ⟨p, 8, none⟩ = some (.int .i64 m.read) ∧ w'.cell? ⟨p, 9, none⟩ = some (.string m.mark) ∧ w'.cell? ⟨p, 10, none⟩ = some (.int .i64 m.pat) ∧ w'.cell? ⟨p, 11, none⟩ = some (.int .i64 m.pof) ∧ w'.cell? ⟨p, 12, none⟩ = some (.string m.ptext) ∧ w'.cell? ⟨p, 13, none⟩ = some (.slice ao n cap))
      (first | go_keep | exact mg_cells hH)
      (first
        | (go_at_call 32; ((with_reducible refine (number_n _ m ao n cap u _ HX.out N HN).mono ?_)); rintro e w4 ⟨rfl, hb4⟩; replace hH := hH.below hb4 hH.lt; replace hbw := below_then' (by assumption : Below w.heap.size w _) hb4; clear hb4)
        | (go_at_call 36; ((with_reducible refine (refBytes_i _ N q0 q1 A HA).mono ?_)); rintro e w4 ⟨rfl, hb4⟩; replace hH := hH.below hb4 hH.lt; replace hbw := below_then' (by assumption : Below w.heap.size w _) hb4; clear hb4))
    all_goals
      have HF := Lib.hid (And.intro hH hbw)
      clear hH hbw
      go_wp2
      go_roundw
      case rel => exact ⟨k + 1, by omega, by go_num, by rw [HNX.out], HF.out.1, HF.out.2⟩
      case measure => simp [intOf]; omega
end Go.Proofs.Ytlcpnpoleaanmaa
