/- StoreBests, walked: the best way has no more bytes than the whole, no road longer than is said, and hangs on the generation just ahead alone. No conditions. -/
import Derived.Test.YtgkcnocfijckoaaGreatSK
import Derived.Test.YtgkcnocfijckoaaGreatStForm
import Derived.Test.YtgkcnocfijckoaaGreatKpRoad2
import Derived.Test.YtgkcnocfijckoaaGreatQL
namespace Go.Proofs.YtgkcnocfijckoaaGreat
open Go.RowKit Sg
set_option linter.unusedVariables false
set_option linter.unusedSimpArgs false
def aheadF (n : Int) (a : Int) (g : Gn) : Int := if g.gen < n then g.gen else a
theorem ahead_no {n : Int} : ∀ {l : List Gn} (a : Int), (∀ g ∈ l, ¬ g.gen < n) → l.foldl (aheadF n) a = a
  | [], a, _ => rfl
  | g :: l, a, h => by
    rw [List.foldl_cons, show aheadF n a g = a from if_neg (h g (List.mem_cons_self ..))]
    exact ahead_no a (fun x hx => h x (List.mem_cons_of_mem _ hx))
theorem ahead_at {n : Int} : ∀ {l : List Gn} (a : Int) {g : Gn}, Ris l → 0 < atN l n → l[atN l n - 1]? = some g → l.foldl (aheadF n) a = g.gen
  | [], a, g, _, h, _ => by unfold atN at h; omega
  | x :: l, a, g, hr, h0, hg => by
    unfold Ris at hr
    rw [List.map_cons, List.pairwise_cons] at hr
    by_cases hx : x.gen < n
    · have ha : atN (x :: l) n = atN l n + 1 := by show (if x.gen < n then atN l n + 1 else 0) = _; rw [if_pos hx]
      rw [List.foldl_cons, show aheadF n a x = x.gen from if_pos hx]
      rw [ha, Nat.add_sub_cancel] at hg
      by_cases hz : atN l n = 0
      · rw [hz] at hg
        have e : x = g := by simpa using hg
        rw [ahead_no, e]
        intro y hy
        obtain ⟨i, hi⟩ := List.getElem?_of_mem hy
        have hl : 0 < l.length := Nat.lt_of_le_of_lt (Nat.zero_le _) (List.getElem?_eq_some_iff.1 hi).1
        have h1 : l[0]? = some (l[0]'hl) := List.getElem?_eq_getElem hl
        have h2 := atN_at (l := l) (n := n) (by rw [hz]; exact h1)
        by_cases hi0 : i = 0
        · subst hi0; rw [h1] at hi; rw [← Option.some.inj hi]; exact h2
        · have h3 := Ris.get (l := l) hr.2 h1 hi (by omega)
          omega
      · obtain ⟨k, hk⟩ : ∃ k, atN l n = k + 1 := ⟨atN l n - 1, by omega⟩
        rw [hk, List.getElem?_cons_succ] at hg
        exact ahead_at x.gen hr.2 (by omega) (by rw [hk, Nat.add_sub_cancel]; exact hg)
    · have ha : atN (x :: l) n = 0 := by show (if x.gen < n then atN l n + 1 else 0) = _; rw [if_neg hx]
      omega
set_option maxRecDepth 100000 in
set_option maxHeartbeats 8000000 in
theorem storeBests_walk (w : World) (ao : Option Addr) (n0 cap : Nat) (o0 : (Kd.sl (.agg [.int .i64, .int .i64, .int .i64, .str])).ok w [.slice ao n0 cap]) (n : Int) (wn : (Lit.int .i64 n).wf = true) (t : ByteArray) (ht : t.size ≤ 140737488351232) (deep : Int) (wd : (Lit.int .i64 deep).wf = true) :
    Calls Tryz.prog 4 #[.slice ao n0 cap, .int .i64 n, .string t, .int .i64 deep] w fun e w' => e = .returned (.bool true) ∧ Below w.heap.size w w' := by
  obtain ⟨ops, hR, hok⟩ := ops_of (show (Kd.sl op4K).ok w [.slice ao n0 cap] from o0)
  have HPL := Lib.hid (played_any w ao n0 cap ops hR hok)
  have HCU := Lib.hid (fun W => cut_any W t (Nat.le_trans ht (by unfold maxLen; omega)))
  obtain ⟨s, hs⟩ : ∃ s, s = cut6 t := ⟨_, rfl⟩
  have hss : s.size ≤ 600 := by rw [hs]; exact cut6_size t
  rw [← hs] at HCU
  clear o0 hR hok hs
  go_enter Tryz.func4, Tryz.ntmps4
  go_wp2_with fail
  refine HPL.out.mono ?_
  rintro e w1 ⟨pw, ps, p, m, v, vl, S, l, im, rfl, hP, hS, hl⟩
  have HP := Lib.hid hP
  have HAW := Lib.hid (awake_in w w1 hP.bel)
  have c0 := hP.ww.ob.cell (i := 0) rfl
  clear hP HPL
  by_cases h0 : n < 0
  case pos =>
    have d0 : decide (n < 0) = true := decide_eq_true h0
    clear h0
    go_wp2_with fail
    refine HAW.out.mono ?_
    rintro e w3 ⟨rfl, hb3⟩
    have HB3 := Lib.hid hb3
    clear hb3
    go_wp2
    go_ret
    exact ⟨rfl, HB3.out⟩
  have d0 : decide (n < 0) = false := decide_eq_false h0
  by_cases h1 : 1000 < n
  case pos =>
    have d1 : decide (1000 < n) = true := decide_eq_true h1
    clear h0 h1
    go_wp2_with fail
    refine HAW.out.mono ?_
    rintro e w3 ⟨rfl, hb3⟩
    have HB3 := Lib.hid hb3
    clear hb3
    go_wp2
    go_ret
    exact ⟨rfl, HB3.out⟩
  have d1 : decide (1000 < n) = false := decide_eq_false h1
  have HOK : Hid (NumOk n ∧ 0 ≤ n ∧ n ≤ 1000) := Lib.hid ⟨⟨by omega, by omega⟩, by omega, by omega⟩
  have HWH := Lib.hid (stWhole_any w1 ps p m (ps + 1) v S l HP.out.ww.sw.st HP.out.ww.sw.bk (by omega) n wn s (by omega))
  clear h0 h1 HAW
  go_wp2_with fail
  refine (HCU.out w1).mono ?_
  rintro e w' ⟨rfl, rfl⟩
  go_wp2_with fail
  refine HWH.out.mono ?_
  rintro e w2 ⟨hk2, ⟨hno, _, _⟩ | ⟨_, hbig, _⟩ | ⟨_, _, rfl, hI2⟩⟩
  · exact absurd HOK.out.1 hno
  · omega
  obtain ⟨S1, hS1⟩ : ∃ S1, S1 = addS S (bytesOf s) := ⟨_, rfl⟩
  rw [← hS1] at hI2
  have hE1 : Ext S S1 := by rw [hS1]; exact (Ext.refl S).add _
  have hm1 : bytesOf s ∈ S1 := by rw [hS1]; exact inAddS _ _
  have hl1 : S1.length ≤ S.length + 1 := by rw [hS1]; exact addS_len _ _
  obtain ⟨WH, hWH⟩ : ∃ R, R = recW n.toNat (mkI S s) s := ⟨_, rfl⟩
  rw [← hWH]
  have HWHE : Hid (WH = recW n.toNat (mkI S1 s) s) := Lib.hid (by rw [hWH, hS1, mkI_add])
  have HP2 := Lib.hid (HP.out.move (HP.out.ww.book hk2 hI2 hE1) (Moves.of_book hk2))
  have HM1 := Lib.hid (And.intro hm1 hl1)
  have c02 := HP2.out.ww.ob.cell (i := 0) rfl
  have HBE := Lib.hid (stBest_any w2 ps p m (ps + 1) v S1 l im HP2.out.ww.sw.st HP2.out.ww.sw.bk HP2.out.ww.sw.inv (by omega) (by have := HP2.out.ww.sw.lt.2; omega) HP2.out.ww.sw.psl (by have := HP2.out.ww.sw.lt.2; omega) n deep wn wd s (by omega))
  clear hk2 hI2 hS1 hE1 hm1 hl1 hWH HWH c0
  go_wp2_with fail
  refine HBE.out.mono ?_
  rintro e w3 ⟨hk3, ⟨hno, _, _⟩ | ⟨_, S2, B, rfl, hI3, hE3, hm3, hl3, hB⟩⟩
  · exact absurd HOK.out.1 hno
  have HP3 := Lib.hid (HP2.out.move (HP2.out.ww.book hk3 hI3 hE3) (Moves.of_book hk3))
  have HWHE2 : Hid (WH = recW n.toNat (mkI S2 s) s) := Lib.hid (by rw [HWHE.out, mkI_ext hE3 HM1.out.1])
  have hl3' : S2.length ≤ 70000000 := by have := HM1.out.2; omega
  have c03 := HP3.out.ww.ob.cell (i := 0) rfl
  clear hk3 hI3 hE3 hm3 hl3 HBE c02
  rcases hB with hB | ⟨g, d, hg, hat, hB, hrd, hao, hro, hsz⟩
  · obtain rfl : B = WH := hB.trans HWHE2.out.symm
    have HAW := Lib.hid (awake_in w w3 HP3.out.bel)
    have e1 : (B.toList == B.toList) = true := by simp
    have e2 : decide ((B.size : Int) < (B.size : Int)) = false := by simp
    clear hB
    go_wp2_with fail
    refine HAW.out.mono ?_
    rintro e w4 ⟨rfl, hb4⟩
    have HB4 := Lib.hid hb4
    clear hb4
    go_wp2
    go_ret
    exact ⟨rfl, HB4.out⟩
  · rw [← HWHE2.out] at hsz
    have hG := HP3.out.ww.sw.inv.each g (List.mem_of_getElem? hg)
    obtain ⟨b, hb⟩ : ∃ b : Nat, g.gen = b := ⟨g.gen.toNat, by have := hG.lo; omega⟩
    obtain ⟨N, hN⟩ : ∃ N : Nat, n = N := ⟨n.toNat, by have := HOK.out; omega⟩
    have hbm : b ≤ 4611686018427387903 := by have := hG.hi; omega
    have hB2 : B.data.toList = 68 :: (numL N ++ (numL b ++ (d.mark.data.toList ++ bytesD d))) := by
      rw [hB, hb, hN]
      unfold recD
      simp [ByteArray.data_append, numBs]
    obtain ⟨c, r, hcr, hsz1, hext, hne, hlt0, hs0⟩ := bytes_cons (s := B) (by intro h; have := congrArg List.length hB2; rw [Array.length_toList] at this; have h2 : B.data.size = 0 := h; rw [h2] at this; simp at this)
    rw [hB2] at hcr
    injection hcr with hc hr
    subst hc
    have e3 : decide ((WH.size : Int) < (B.size : Int)) = false := decide_eq_false (by omega)
    have e3n : decide (WH.size < B.size) = false := decide_eq_false (by omega)
    have e4 : (B.toList == WH.toList) = false := beqS_f (fun e => by have := congrArg List.length e; rw [Array.length_toList, Array.length_toList] at this; have h2 : B.size = WH.size := this; omega)
    have i1 : (1 : Int) ≤ (B.size : Int) := by omega
    have i2 : (0 : Int) < (B.size : Int) := by omega
    have hrs : r.length ≤ 1000000 := by
      have h3 := HWHE2.out
      have h4 : WH.size ≤ 1000 := by rw [h3, recW_size, mkI_size]; have := numL_n HOK.out.1; omega
      omega
    obtain ⟨V, hV⟩ : ∃ V, V = w3.alloc (Obj.cells #[.string (mkB r), .int .i64 0, .int .i64 0] 34) := ⟨_, rfl⟩
    obtain ⟨q, hq⟩ : ∃ q, q = w3.heap.size := ⟨_, rfl⟩
    have hGq : Blk V q [.string (mkB r), .int .i64 0, .int .i64 0] 34 := by rw [hV, hq]; exact Blk.new _ _ _
    have HR0 : Hid (RdB 34 V q (mkB r) (r, 0)) := Lib.hid ⟨0, Nat.zero_le _, by rw [mkB_list]; rfl, hGq⟩
    have hbV : Below w3.heap.size w3 V := by rw [hV]; exact below_alloc _ _
    have HPV := Lib.hid (HP3.out.move (HP3.out.ww.below hbV) (Moves.of_below hbV))
    have HQW : Hid (w3.heap.size ≤ q) := Lib.hid (by omega)
    have HV := Lib.hid (And.intro hV hq)
    have HRS : Hid ((mkB r).size ≤ 1000000000) := Lib.hid (by rw [bs_sz]; omega)
    have HN1 : Hid (stNum (r, 0) = (N, (numL b ++ (d.mark.data.toList ++ bytesD d), 0))) := Lib.hid (by rw [← hr]; exact stNum_back N _ (by have := HOK.out; omega))
    have HN2 : Hid (stNum (numL b ++ (d.mark.data.toList ++ bytesD d), 0) = (b, (d.mark.data.toList ++ bytesD d, 0))) := Lib.hid (stNum_back b _ hbm)
    have HAH : Hid (l.foldl (aheadF n) (-1) = (b : Int)) := Lib.hid (by rw [ahead_at (-1) HP3.out.ww.sw.inv.up hat hg, hb])
    have hgm := List.mem_of_getElem? hg
    have HRO : Hid (roadE (gsG l) (b : Int) = 0 ∧ ((roadR (gsG l) (b : Int)).length : Int) < deep) := Lib.hid (by
      have hin : (b : Int) ∈ gl (gsG l) := gl_mem.2 ⟨g, hgm, hb⟩
      have hck := ok_chk HP3.out.ww.sw.inv.ok
      refine ⟨by unfold roadE; rw [if_neg (by simp [hck]), if_neg (by simpa using hin)], ?_⟩
      unfold roadR
      rw [if_pos ⟨hck, hin⟩, ← hb]; exact hro)
    have HGB : Hid (∀ W W', Below w3.heap.size w3 W → W.grownBy W' (some q) → Below w3.heap.size w3 W') := Lib.hid (fun W W' h hg => h.grown hg h.size (fun k hk => by injection hk with hk; have := HQW.out; omega))
    have HB3 := Lib.hid hbV
    have HNN := Lib.hid hN
    have hl20 := hl
    clear hB hrd hao hro hsz hG hb hB2 hr hsz1 hV hq hGq hbV hgm hg hat hN
    go_upto_region 14 with fail
    rw [← HV.out.1, ← HV.out.2]
    go_wp2_with fail
    refine (rnum_rd V q (mkB r) (r, 0) HRS.out HR0.out).mono ?_
    rw [HN1.out]
    rintro e w4 ⟨rfl, hr4, hg4⟩
    simp only at hr4 ⊢
    have HR4 := Lib.hid hr4
    have HB4 := Lib.hid (HGB.out _ _ HB3.out hg4)
    clear hr4 hg4
    go_wp2_with fail
    refine (rnum_rd w4 q (mkB r) _ HRS.out HR4.out).mono ?_
    rw [HN2.out]
    rintro e w5 ⟨rfl, hr5, hg5⟩
    simp only at hr5 ⊢
    have HB5 := Lib.hid (HGB.out _ _ HB4.out hg5)
    have HP5 := Lib.hid (HP3.out.move (HP3.out.ww.below HB5.out) (Moves.of_below HB5.out))
    have c05 := HP5.out.ww.ob.cell (i := 0) rfl
    have HGE := Lib.hid HP5.out.ww.sw.gens
    clear hr5 hg5 c03
    go_wp2_with fail
    refine HGE.out.mono ?_
    rintro e w6 ⟨v6, rfl, hO6, hb6⟩
    obtain ⟨a6, k6, rfl⟩ := owns_slice hO6
    obtain ⟨M, hM⟩ : ∃ M, M = (gsG l).length := ⟨_, rfl⟩
    have hR6 := RowG.rs (gs := gsG l) hO6 rfl
    rw [← hM] at hR6 ⊢
    have HM : Hid (M = l.length) := Lib.hid (by rw [hM, gsG_len])
    have HR6 := Lib.hid hR6
    have HB6 := Lib.hid (bl_nx HP5.out.bel hb6)
    have hM2 : M ≤ 20 := by rw [HM.out]; exact hl
    clear hM hO6 hb6 hR6 HGE c05
    go_wp2_with fail
    go_loopw [19, 20] (fun a i wr => ∃ k : Nat, i = .int .i64 k ∧ k ≤ M ∧ a = .int .i64 ((l.take k).foldl (aheadF n) (-1)) ∧ wr = w6) (fun _ i _ => M - (intOf i).toNat)
    case atStart => exact ⟨0, by go_num, Nat.zero_le _, rfl, rfl⟩
    case round =>
      obtain ⟨k, rfl, hk, rfl, rfl⟩ := hrel
      obtain ⟨A, hA⟩ : ∃ A, A = (l.take k).foldl (aheadF n) (-1) := ⟨_, rfl⟩
      rw [← hA]
      have HA := Lib.hid hA
      clear hA
      by_cases hlt : k < M
      case pos =>
        obtain ⟨x, hx⟩ : ∃ x, l[k]? = some x := ⟨_, List.getElem?_eq_getElem (by rw [← HM.out]; exact hlt)⟩
        have hx2 : (gsG l)[k]? = some x.g := by unfold gsG; rw [List.getElem?_map, hx]; rfl
        obtain ⟨bb, off, rfl, hbb, hc⟩ := rs_g4 HR6.out (by omega)
        have y0 := (hc k _ hx2).1
        obtain ⟨⟨xg, xb, xm, xt⟩, rfl⟩ : ∃ y, y = x := ⟨_, rfl⟩
        simp only [Gn.g] at y0
        have jk : (k : Int) < (M : Int) := by omega
        have HNX : Hid ((l.take (k + 1)).foldl (aheadF n) (-1) = aheadF n A ⟨xg, xb, xm, xt⟩) := Lib.hid (by rw [List.take_add_one, hx, List.foldl_append, ← HA.out]; rfl)
        clear hc hx hx2 hbb
        by_cases hxn : xg < n
        case pos =>
          have z1 : decide (xg < n) = true := decide_eq_true hxn
          have HZ : Hid ((l.take (k + 1)).foldl (aheadF n) (-1) = xg) := Lib.hid (by rw [HNX.out]; exact if_pos hxn)
          clear hxn
          go_wp2
          go_roundw
          case rel => exact ⟨k + 1, by go_num, by omega, by rw [HZ.out], by first | rfl | trivial⟩
          case measure => simp [intOf]; omega
        case neg =>
          have z1 : decide (xg < n) = false := decide_eq_false hxn
          have HZ : Hid ((l.take (k + 1)).foldl (aheadF n) (-1) = A) := Lib.hid (by rw [HNX.out]; exact if_neg hxn)
          clear hxn
          go_wp2
          go_roundw
          case rel => exact ⟨k + 1, by go_num, by omega, by rw [HZ.out], by first | rfl | trivial⟩
          case measure => simp [intOf]; omega
      case neg =>
        have jk : ¬ (k : Int) < (M : Int) := by omega
        obtain rfl : A = (b : Int) := by
          have h1 := HA.out
          rw [List.take_of_length_le (by rw [← HM.out]; omega), HAH.out] at h1
          exact h1
        have HRR := Lib.hid (refRoad_any M wr a6 M k6 (gsG l) (b : Int) (Nat.le_refl _) HR6.out (by omega))
        rw [HRO.out.1] at HRR
        obtain ⟨RL, hRL⟩ : ∃ RL, RL = (roadR (gsG l) (b : Int)).length := ⟨_, rfl⟩
        rw [← hRL] at HRR
        have hdp : decide ((RL : Int) < deep) = true := decide_eq_true (by have := HRO.out.2; rw [← hRL] at this; exact this)
        have e68 : (((68 : UInt8).toNat : Int) == 68) = true := rfl
        have hnn : ((N : Int) == n) = true := by rw [HNN.out]; simp
        clear hRL hk hlt HA
        go_wp2_with fail
        refine HRR.out.mono ?_
        rintro e w7 ⟨v7, rfl, hO7, hb7⟩
        obtain ⟨a7, k7, rfl⟩ := owns_slice hO7
        have HAW := Lib.hid (awake_in w w7 (bl_nx HB6.out hb7))
        clear hO7 hb7 HRR
        go_wp2_with fail
        refine HAW.out.mono ?_
        rintro e w8 ⟨rfl, hb8⟩
        have HB8 := Lib.hid hb8
        clear hb8
        go_wp2
        go_ret
        exact ⟨rfl, HB8.out⟩
end Go.Proofs.YtgkcnocfijckoaaGreat
