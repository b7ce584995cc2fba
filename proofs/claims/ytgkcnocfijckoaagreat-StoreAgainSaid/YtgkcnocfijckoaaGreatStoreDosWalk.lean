/- StoreDos, walked: any record whatever is done or refused. No conditions. -/
import Derived.Test.YtgkcnocfijckoaaGreatSK
namespace Go.Proofs.YtgkcnocfijckoaaGreat
open Go.RowKit Sg
set_option linter.unusedVariables false
set_option linter.unusedSimpArgs false
set_option maxHeartbeats 1000000 in
theorem gens_eq (w : World) (ao bo : Option Addr) (n cap cap2 : Nat) (gs : List G) (hn : n ≤ 1000000) (ha : Rs w ao n cap 4 gs G.c) (hb : Rs w bo n cap2 4 gs G.c) :
    Calls Tryz.prog 28 #[.slice ao n cap, .slice bo n cap2] w fun e w' => e = .returned (.bool true) ∧ Below w.heap.size w w' := by
  have HL := Lib.hid ha.2.2.1
  go_enter Tryz.func28, Tryz.ntmps28
  go_wp2
  go_loopw [5] (fun i wr => ∃ k : Nat, k ≤ n ∧ i = .int .i64 k ∧ ∃ m, wr = w.drewN m) (fun i _ => n - (intOf i).toNat)
  case atStart => exact ⟨0, by omega, rfl, 0, rfl⟩
  case round =>
    obtain ⟨k, hk, rfl, m, rfl⟩ := hrel
    by_cases hlt : k < n
    · obtain ⟨b1, o1, rfl, -, h1⟩ := rs_g4 ha (by omega)
      obtain ⟨b2, o2, rfl, -, h2⟩ := rs_g4 hb (by omega)
      obtain ⟨x, hx⟩ : ∃ x, gs[k]? = some x := ⟨_, List.getElem?_eq_getElem (by rw [HL.out]; exact hlt)⟩
      obtain ⟨c0, c1, c2, c3⟩ := h1 k x hx
      obtain ⟨d0, d1, d2, d3⟩ := h2 k x hx
      have i1 : (k : Int) < (n : Int) := by omega
      clear h1 h2 hx ha hb
      go_wp2
      go_quiet (fail)
      go_wp2
      go_roundw
      case rel => exact ⟨k + 1, by omega, by go_num, by first | exact ⟨_, rfl⟩ | exact dn2 _ _ _⟩
      case measure => simp [intOf]; omega
    · go_wp2
      go_ret
      exact ⟨rfl, below_drewN' (Below.refl _ _) _⟩
theorem SW.check {w : World} {ps p m : Nat} {v : Value} {S : Bk} {l : List Gn} {im : Int → ByteArray} (h : SW w ps p m v S l im) {base : Nat} {a : Option Addr} {c : Nat} (hO : RowG w base (.slice a (gsG l).length c) (gsG l)) :
    Calls Tryz.prog 29 #[.slice a (gsG l).length c] w fun e w' => e = .returned (.int .i64 0) ∧ Below w.heap.size w w' := by
  refine (refCheck_any w a _ c (gsG l) (RowG.rs hO rfl) (by rw [gsG_len]; exact h.inv.len)).mono ?_
  rintro e w' ⟨rfl, n, rfl⟩
  rw [ok_chk h.inv.ok]
  exact ⟨rfl, below_drewN' (Below.refl _ _) n⟩
set_option maxRecDepth 100000 in
set_option maxHeartbeats 4000000 in
theorem storeDos_walk (w : World) (ao : Option Addr) (n cap : Nat) (o0 : (Kd.sl (.agg [.int .i64, .int .i64, .int .i64, .str])).ok w [.slice ao n cap]) (s : ByteArray) (hs : s.size ≤ 140737488351232) :
    Calls Tryz.prog 7 #[.slice ao n cap, .string s] w fun e w' => e = .returned (.bool true) ∧ Below w.heap.size w w' := by
  obtain ⟨ops, hR, hok⟩ := ops_of (show (Kd.sl op4K).ok w [.slice ao n cap] from o0)
  have HPL := Lib.hid (played_any w ao n cap ops hR hok)
  clear o0 hR hok
  go_enter Tryz.func7, Tryz.ntmps7
  go_wp2_with fail
  refine HPL.out.mono ?_
  rintro e w1 ⟨pw, ps, p, m, v, vl, S, l, im, rfl, hP, hS, hl⟩
  have HP := Lib.hid hP
  have c0 := hP.ww.ob.cell (i := 0) rfl
  have HGE := Lib.hid hP.ww.sw.gens
  clear hP HPL
  by_cases hbig : 2000 < s.size
  case pos =>
    have d0 : decide ((2000 : Int) < (s.size : Int)) = true := decide_eq_true (by omega)
    have HAW := Lib.hid (awake_in w w1 HP.out.bel)
    clear hbig
    go_wp2_with fail
    refine HAW.out.mono ?_
    rintro e w3 ⟨rfl, hb3⟩
    have HB3 := Lib.hid hb3
    clear hb3
    go_wp2
    go_ret
    exact ⟨rfl, HB3.out⟩
  have d0 : decide ((2000 : Int) < (s.size : Int)) = false := decide_eq_false (by omega)
  go_wp2_with fail
  refine HGE.out.mono ?_
  rintro e w2 ⟨v2, rfl, hO2, hb2⟩
  obtain ⟨a2, k2, rfl⟩ := owns_slice hO2
  have HP2 := Lib.hid (HP.out.move (HP.out.ww.below hb2) (Moves.of_below hb2))
  have HO2 := Lib.hid hO2
  have HS12 : Hid (w1.heap.size ≤ w2.heap.size) := Lib.hid hb2.size
  have c02 := HP2.out.ww.ob.cell (i := 0) rfl
  have HDO := Lib.hid (HP2.out.ww.sw.do_ (by omega) (by omega) s (by omega))
  clear hO2 hb2 hbig HGE c0
  go_wp2_with fail
  refine HDO.out.mono ?_
  rintro e w3 ⟨x, v3, S3, l3, im3, rfl, hD⟩
  obtain ⟨b1, b2⟩ := HP2.out.ww.done hD
  have HO3 : Hid (RowG w3 w1.heap.size (.slice a2 (gsG l).length k2) (gsG l)) := Lib.hid (by
    refine owns_block HO2.out (fun j e => ?_)
    have h5 := World.ownsRow.lt HO2.out j e
    refine hD.kept.block j h5.2 ?_
    have h6 := HP.out.ww.sw.st.lt
    have h7 := HP.out.ww.sw.bk.2.2.2.2.1.2
    rintro (e2 | e2 | e2)
    · omega
    · omega
    · have := HP.out.ww.sw.own e2; omega)
  have HX : Hid (WW w3 pw ps p m v3 vl S3 l3 im3 (modelK l im) ∧ Moves w2 w3 pw ps m v v3 vl vl ∧ S3.length ≤ S.length + 2 ∧ (x ≠ 0 → l3 = l ∧ im3 = im)) := Lib.hid ⟨b1, b2, hD.slen, hD.bad⟩
  have c03 := HX.out.1.ob.cell (i := 0) rfl
  have HGE3 := Lib.hid HX.out.1.sw.gens
  clear b1 b2 hD HDO c02
  by_cases hx : x = 0
  case neg =>
    have hx1 : (x != 0) = true := by simpa using hx
    obtain ⟨rfl, rfl⟩ := HX.out.2.2.2 hx
    have HP3 := Lib.hid (HP2.out.move HX.out.1 HX.out.2.1)
    clear hx
    go_wp2_with fail
    refine HGE3.out.mono ?_
    rintro e w4 ⟨v4, rfl, hO4, hb4⟩
    obtain ⟨a4, k4, rfl⟩ := owns_slice hO4
    have HP4 := Lib.hid (HP3.out.move (HP3.out.ww.below hb4) (Moves.of_below hb4))
    have HEQ := Lib.hid (gens_eq w4 a4 a2 (gsG l3).length k4 k2 (gsG l3) (by rw [gsG_len]; omega) (RowG.rs hO4 rfl) (RowG.rs (row_below HO3.out hb4) rfl))
    clear hO4 hb4 HGE3 c03
    go_wp2_with fail
    refine HEQ.out.mono ?_
    rintro e w5 ⟨rfl, hb5⟩
    have HP5 := Lib.hid (HP4.out.move (HP4.out.ww.below hb5) (Moves.of_below hb5))
    have c05 := HP5.out.ww.ob.cell (i := 0) rfl
    have HST := Lib.hid (HP5.out.stands (by have := HX.out.2.2.1; omega))
    clear hb5 HEQ
    go_wp2_with fail
    refine HST.out.mono ?_
    rintro e w6 ⟨rfl, hP6⟩
    have HAW := Lib.hid (awake_in w w6 hP6.bel)
    clear hP6 HST c05
    go_wp2_with fail
    refine HAW.out.mono ?_
    rintro e w7 ⟨rfl, hb7⟩
    have HB7 := Lib.hid hb7
    clear hb7
    go_wp2
    go_ret
    exact ⟨rfl, HB7.out⟩
  case pos =>
    subst hx
    have HB3 := Lib.hid (HP2.out.moves HX.out.2.1)
    have hge : Hid (w.heap.size ≤ m) := Lib.hid HP.out.ge.1
    go_wp2_with fail
    refine HGE3.out.mono ?_
    rintro e w4 ⟨v4, rfl, hO4, hb4⟩
    obtain ⟨a4, k4, rfl⟩ := owns_slice hO4
    have HW4 := Lib.hid (HX.out.1.below hb4)
    have HB4 := Lib.hid (bl_nx HB3.out hb4)
    have HCH := Lib.hid (HW4.out.sw.check hO4)
    clear hO4 hb4 HGE3 c03
    go_wp2_with fail
    refine HCH.out.mono ?_
    rintro e w5 ⟨rfl, hb5⟩
    have HW5 := Lib.hid (HW4.out.below hb5)
    have HB5 := Lib.hid (bl_nx HB4.out hb5)
    have c05 := HW5.out.ob.cell (i := 0) rfl
    have HSC := Lib.hid (stScrub_any w5 ps p m (ps + 1) v3 S3 l3 im3 HW5.out.sw.st HW5.out.sw.bk HW5.out.sw.inv (by have := HX.out.2.2.1; omega) (by have := HW5.out.sw.lt.2; omega) HW5.out.sw.psl (by have := HW5.out.sw.lt.2; omega))
    clear hb5 HCH
    go_wp2_with fail
    refine HSC.out.mono ?_
    rintro e w6 ⟨rfl, hI6, hk6⟩
    have HAW := Lib.hid (awake_in w w6 (bel_kept HB5.out hk6 (fun k e => by injection e with e; rw [← e]; exact hge.out)))
    clear hI6 hk6 HSC c05
    go_wp2_with fail
    refine HAW.out.mono ?_
    rintro e w7 ⟨rfl, hb7⟩
    have HB7 := Lib.hid hb7
    clear hb7
    go_wp2
    go_ret
    exact ⟨rfl, HB7.out⟩
end Go.Proofs.YtgkcnocfijckoaaGreat
