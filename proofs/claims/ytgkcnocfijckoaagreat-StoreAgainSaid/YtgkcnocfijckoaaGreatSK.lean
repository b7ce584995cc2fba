/- The law's world: stands. Conditions: as named in each theorem. -/
import Derived.Test.YtgkcnocfijckoaaGreatSH
import Derived.Test.YtgkcnocfijckoaaGreatSC
import Derived.Test.YtgkcnocfijckoaaGreatQP
import Derived.Test.YtgkcnocfijckoaaGreatSJ
namespace Go.Proofs.YtgkcnocfijckoaaGreat
open Go.RowKit Sg
set_option linter.unusedVariables false
set_option linter.unusedSimpArgs false
/-- a store that is read alone -/
structure SR (w : World) (qs p m base : Nat) (v : Value) (S : Bk) (l : List Gn) (im : Int → ByteArray) : Prop where
  st : StB w qs p base v l
  bk : BookI w p m S
  inv : Inv S l im
  mb : m < base
  bw : base ≤ w.heap.size
  ne : qs ≠ m
theorem SR.below {w w' : World} {qs p m base : Nat} {v : Value} {S : Bk} {l : List Gn} {im : Int → ByteArray} (h : SR w qs p m base v S l im) (hb : Below w.heap.size w w') : SR w' qs p m base v S l im :=
  ⟨h.st.next hb, h.bk.next hb, h.inv, h.mb, Nat.le_trans h.bw hb.size, h.ne⟩
theorem SR.book {w w' : World} {qs p m base : Nat} {v : Value} {S S' : Bk} {l : List Gn} {im : Int → ByteArray} (h : SR w qs p m base v S l im) (hk : Kept (fun k => some m = some k) w w') (hI : BookI w' p m S') (hE : Ext S S') : SR w' qs p m base v S' l im :=
  ⟨h.st.kept hk h.mb h.ne, hI, h.inv.ext hE, h.mb, Nat.le_trans h.bw hk.size, h.ne⟩
theorem SR.gens {w : World} {qs p m base : Nat} {v : Value} {S : Bk} {l : List Gn} {im : Int → ByteArray} (h : SR w qs p m base v S l im) :
    Calls Tryz.prog 21 #[.pointer (some ⟨qs, 0, none⟩)] w fun e w' => ∃ v', e = .returned v' ∧ RowG w' w.heap.size v' (gsG l) ∧ Below w.heap.size w w' :=
  stGens_any w qs p base v l h.st (by have := h.inv.len; omega) (fun g hg => Nat.le_trans (h.inv.each g hg).len (by decide))
theorem SW.sr {w : World} {ps p m : Nat} {v : Value} {S : Bk} {l : List Gn} {im : Int → ByteArray} (h : SW w ps p m v S l im) : SR w ps p m (ps + 1) v S l im :=
  ⟨h.st, h.bk, h.inv, by have := h.lt.2; omega, h.psl, by have := h.lt.2; omega⟩
set_option maxRecDepth 100000 in
set_option maxHeartbeats 8000000 in
theorem stands_any (w : World) (pw qs ps p m base : Nat) (v vl vq : Value) (S : Bk) (l lq : List Gn) (im imq : Int → ByteArray) (K : List Kp) (h : WW w pw ps p m v vl S l im K) (hq : SR w qs p m base vq S lq imq) (hS : S.length ≤ 90000000) (hm : modelK lq imq = K) :
    Calls Tryz.prog 27 #[.pointer (some ⟨pw, 0, none⟩), .pointer (some ⟨qs, 0, none⟩)] w fun e w' => e = .returned (.bool true) ∧ BookI w' p m S ∧ Kept (fun k => some m = some k) w w' := by
  obtain ⟨ao, cp, rfl⟩ := owns_slice h.row
  have hll := hq.inv.len
  have HW := Lib.hid h
  have HQ := Lib.hid hq
  obtain ⟨N, hN⟩ : ∃ N, N = lq.length := ⟨_, rfl⟩
  have HN := Lib.hid hN
  have hKN : (K).length = N := by rw [← hm, modelK_len, hN]
  have c2 := h.ob.cell (i := 2) rfl
  rw [hKN] at c2
  have HKN := Lib.hid hKN
  have HM := Lib.hid hm
  have HGE := Lib.hid hq.gens
  clear h hq hm hKN
  go_enter Tryz.func27, Tryz.ntmps27
  go_wp2_with fail
  refine HGE.out.mono ?_
  rintro e w1 ⟨v1, rfl, hO1, hb1⟩
  obtain ⟨a1, k1, rfl⟩ := owns_slice hO1
  have hgl : (gsG lq).length = N := by rw [gsG_len, hN]
  have hR1 := RowG.rs (gs := gsG lq) hO1 rfl
  rw [hgl] at hR1 ⊢
  have HR1 := Lib.hid hR1
  have HQ1 := Lib.hid (HQ.out.below hb1)
  have HW1 := Lib.hid (HW.out.below hb1)
  have HB1 := Lib.hid hb1
  have HO1 := Lib.hid hO1
  have hN2 : N ≤ 4096 := by omega
  have HCH : Hid (Calls Tryz.prog 29 #[.slice a1 N k1] w1 fun e w' => e = .returned (.int .i64 0) ∧ Below w1.heap.size w1 w') := Lib.hid (by
    refine (refCheck_any w1 a1 N k1 (gsG lq) HR1.out hN2).mono ?_
    rintro e w' ⟨rfl, n, rfl⟩
    rw [ok_chk HQ.out.inv.ok]
    exact ⟨rfl, below_drewN' (Below.refl _ _) n⟩)
  have c2a := (hb1.cell (p := ⟨pw, 2, none⟩) HW.out.ob.lt).trans c2
  have hmw : m < w.heap.size := HW.out.sw.bk.2.2.2.2.1.2
  clear hgl hR1 hO1 hb1 HGE c2 hN hll
  go_wp2_with fail
  refine HCH.out.mono ?_
  rintro e w2 ⟨rfl, hb2⟩
  have HQ2 := Lib.hid (HQ1.out.below hb2)
  have HW2 := Lib.hid (HW1.out.below hb2)
  have HO2 : Hid (RowG w2 w.heap.size (.slice a1 (gsG lq).length k1) (gsG lq)) := Lib.hid (row_below (show w1.ownsRow w.heap.size 48 4 _ (gsG lq).length ((gsG lq).flatMap G.c) from HO1.out) hb2)
  have HB2 := Lib.hid (bl_nx HB1.out hb2)
  have HSC := Lib.hid (stScrub_any w2 qs p m base vq S lq imq HQ2.out.st HQ2.out.bk HQ2.out.inv hS HQ2.out.mb HQ2.out.bw HQ2.out.ne)
  clear hb2 HCH c2a
  go_wp2_with fail
  refine HSC.out.mono ?_
  rintro e w3 ⟨rfl, hI3, hk3⟩
  have HW3 := Lib.hid (HW2.out.book hk3 hI3 (Ext.refl S))
  have HQ3 := Lib.hid (HQ2.out.book hk3 hI3 (Ext.refl S))
  have HO3 : Hid (RowG w3 w.heap.size (.slice a1 (gsG lq).length k1) (gsG lq)) := Lib.hid (row_kept (show w2.ownsRow w.heap.size 48 4 _ (gsG lq).length ((gsG lq).flatMap G.c) from HO2.out) hk3 hmw)
  have HK3 : Hid (Kept (fun k => some m = some k) w w3) := Lib.hid ((Kept.of_below (fun k => some m = some k) HB2.out).trans hk3 (fun _ _ h => h))
  have HI3 := Lib.hid hI3
  have HGL : Hid ((gsG lq).length = N) := Lib.hid (by rw [gsG_len, HN.out])
  clear hI3 hk3 HSC
  go_wp2_with fail
  go_loopw [6] (fun i wr => ∃ k : Nat, i = .int .i64 k ∧ k ≤ N ∧ Hid (BookI wr p m S ∧ Kept (fun k => some m = some k) w3 wr)) (fun i _ => N - (intOf i).toNat)
  case atStart => exact ⟨0, by go_num, Nat.zero_le _, Lib.hid ⟨HI3.out, Kept.refl _ _⟩⟩
  case round =>
    obtain ⟨k, rfl, hk, hIK⟩ := hrel
    by_cases hlt : k < N
    case pos =>
      obtain ⟨g, hg⟩ : ∃ g, lq[k]? = some g := ⟨_, List.getElem?_eq_getElem (by rw [← HN.out]; exact hlt)⟩
      have hg2 : (gsG lq)[k]? = some g.g := by unfold gsG; rw [List.getElem?_map, hg]; rfl
      have hx : (K)[k]? = some ⟨g.gen, imq g.gen⟩ := by rw [← HM.out]; unfold modelK; rw [List.getElem?_map, hg]; rfl
      have HWr := Lib.hid (HW3.out.book hIK.out.2 hIK.out.1 (Ext.refl S))
      have HQr := Lib.hid (HQ3.out.book hIK.out.2 hIK.out.1 (Ext.refl S))
      have HOr : Hid (RowG wr w.heap.size (.slice a1 (gsG lq).length k1) (gsG lq)) := Lib.hid (row_kept (show w3.ownsRow w.heap.size 48 4 _ (gsG lq).length ((gsG lq).flatMap G.c) from HO3.out) hIK.out.2 hmw)
      obtain ⟨b, off, rfl, hb, hc⟩ := rs_g4 (RowG.rs HOr.out rfl) (by rw [HGL.out]; omega)
      have e0 := (hc k _ hg2).1
      have e3 := (hc k _ hg2).2.2.2
      have hkr := HWr.out.rs rfl
      obtain ⟨b2, off2, rfl, hb2, hc2⟩ := rs_kp hkr (by rw [HKN.out]; omega)
      obtain ⟨x0, x1⟩ := hc2 k _ hx
      have hup := HQ.out.inv.up
      obtain ⟨hat, hhas⟩ := hup.at hg
      have hmk : markN lq g.gen = g.mark := markN_at (by rw [hat]; exact hg) rfl
      have hG := HQ.out.inv.each g (List.mem_of_getElem? hg)
      have HIM := Lib.hid (stImage_any wr qs p m base vq S lq imq HQr.out.st HQr.out.bk HQr.out.inv hS HQr.out.mb HQr.out.bw HQr.out.ne g.gen)
      rw [hhas, if_pos rfl, if_pos rfl] at HIM
      obtain ⟨⟨gg, gb, gm, gt⟩, rfl⟩ : ∃ x, x = g := ⟨_, rfl⟩
      simp only [Gn.g] at e0 e3 x0 x1 hmk hG HIM hhas
      obtain ⟨t, ht⟩ : ∃ t, t = imq gg := ⟨_, rfl⟩
      have hG1 := hG.mem
      have hG2 := hG.mark
      have hG3 := hG.ilen
      simp only at hG1 hG2 hG3
      rw [← ht] at HIM x1 hG1 hG2 hG3
      have o1 := HWr.out.ob.cell (i := 1) rfl
      have o2 := HWr.out.ob.cell (i := 2) rfl
      rw [HKN.out] at o2
      have hbm : b ≠ m := fun e => by
        have h1 := (World.ownsRow.lt (show wr.ownsRow w.heap.size 48 4 (.slice (some ⟨b, off, none⟩) (gsG lq).length k1) (gsG lq).length ((gsG lq).flatMap G.c) from HOr.out) b rfl).1
        omega
      have hbm2 : b2 ≠ m := fun e => HWr.out.ne.2.2.2.2.2.2.1 (by rw [← e]; rfl)
      have hpm : pw ≠ m := HWr.out.ne.2.2.1
      have hpl := HWr.out.ob.lt
      have jk : (k : Int) < (N : Int) := by omega
      have HMK := Lib.hid (And.intro hmk hhas)
      have HT := Lib.hid (And.intro hG1 (And.intro hG2 hG3))
      have HNE : Hid (∀ q, q ≠ m → ¬ (some m = some q)) := Lib.hid (fun q h e => h (by injection e with e; exact e.symm))
      clear hg hg2 hx hc hkr hc2 hup hat hhas hmk hG ht hG1 hG2 hG3
      go_wp2_with fail
      refine HIM.out.mono ?_
      rintro e w4 ⟨rfl, hI4, hk4⟩
      replace e0 := (hk4.cell (i := off + k * 4) hb (HNE.out _ hbm)).trans e0
      replace e3 := (hk4.cell (i := off + k * 4 + 3) hb (HNE.out _ hbm)).trans e3
      replace x0 := (hk4.cell (i := off2 + k * 2) hb2 (HNE.out _ hbm2)).trans x0
      replace x1 := (hk4.cell (i := off2 + k * 2 + 1) hb2 (HNE.out _ hbm2)).trans x1
      replace o1 := (hk4.cell (i := 1) hpl (HNE.out _ hpm)).trans o1
      replace o2 := (hk4.cell (i := 2) hpl (HNE.out _ hpm)).trans o2
      replace hb := Nat.lt_of_lt_of_le hb hk4.size
      replace hb2 := Nat.lt_of_lt_of_le hb2 hk4.size
      replace hpl := Nat.lt_of_lt_of_le hpl hk4.size
      have HQ4 := Lib.hid (HQr.out.book hk4 hI4 (Ext.refl S))
      have HK4 := Lib.hid (hIK.out.2.trans hk4 (fun _ _ h => h))
      have HMR := Lib.hid (stMark_b w4 qs p base vq lq gg HQ4.out.st (by have := HQ4.out.inv.len; omega))
      rw [HMK.out.1, HMK.out.2] at HMR
      clear hI4 hk4 HIM
      go_wp2_with fail
      refine HMR.out.mono ?_
      rintro e w5 ⟨rfl, hb5⟩
      replace e0 := (hb5.cell (p := ⟨b, off + k * 4, none⟩) hb).trans e0
      replace e3 := (hb5.cell (p := ⟨b, off + k * 4 + 3, none⟩) hb).trans e3
      replace x0 := (hb5.cell (p := ⟨b2, off2 + k * 2, none⟩) hb2).trans x0
      replace x1 := (hb5.cell (p := ⟨b2, off2 + k * 2 + 1, none⟩) hb2).trans x1
      replace o1 := (hb5.cell (p := ⟨pw, 1, none⟩) hpl).trans o1
      replace o2 := (hb5.cell (p := ⟨pw, 2, none⟩) hpl).trans o2
      have HI5 := Lib.hid (HQ4.out.bk.next hb5)
      have HK5 : Hid (Kept (fun k => some m = some k) w3 w5) := Lib.hid (kept_bel HK4.out hb5)
      have HIS := Lib.hid (is_takes w5.drew p m S t gm (HI5.out.next (bl_drew (Below.refl _ w5))) (by have := HT.out.2.2; unfold maxLen; omega) (by omega) true ⟨fun _ => ⟨HT.out.1, HT.out.2.1⟩, fun _ => rfl⟩)
      replace hb := Nat.lt_of_lt_of_le hb hb5.size
      replace hb2 := Nat.lt_of_lt_of_le hb2 hb5.size
      replace hpl := Nat.lt_of_lt_of_le hpl hb5.size
      clear hb5 HMR
      go_upto_region 9 with fail
      have j0 : (0 : Int) ≤ (k : Int) := by omega
      have s1 : ((gg != gg) : Bool) = false := by simp
      have s2 : (t.toList == t.toList) = true := by simp
      have s3 : (gm.toList == gm.toList) = true := by simp
      go_region_held3 (fun w' => w'.cell? ⟨pw, 1, none⟩ = some (.pointer (some ⟨p, 0, none⟩)) ∧ w'.cell? ⟨pw, 2, none⟩ = some (.slice (some ⟨b2, off2, none⟩) N cp) ∧ w'.cell? ⟨b, off + k * 4, none⟩ = some (.int .i64 gg) ∧ w'.cell? ⟨b, off + k * 4 + 3, none⟩ = some (.string gm) ∧ w'.cell? ⟨b2, off2 + k * 2, none⟩ = some (.int .i64 gg) ∧ w'.cell? ⟨b2, off2 + k * 2 + 1, none⟩ = some (.string t))
        (first | exact ⟨o1, o2, e0, e3, x0, x1⟩)
        (first | (go_at_call 63; refine HIS.out.mono ?_; rintro e w6 ⟨rfl, hb6⟩; replace o1 := (hb6.cell (p := ⟨pw, 1, none⟩) (by exact hpl)).trans o1; replace o2 := (hb6.cell (p := ⟨pw, 2, none⟩) (by exact hpl)).trans o2; replace e0 := (hb6.cell (p := ⟨b, off + k * 4, none⟩) (by exact hb)).trans e0; replace e3 := (hb6.cell (p := ⟨b, off + k * 4 + 3, none⟩) (by exact hb)).trans e3; replace x0 := (hb6.cell (p := ⟨b2, off2 + k * 2, none⟩) (by exact hb2)).trans x0; replace x1 := (hb6.cell (p := ⟨b2, off2 + k * 2 + 1, none⟩) (by exact hb2)).trans x1))
      all_goals
        have hb56 := bl_nx (bl_drew (Below.refl _ w5)) hb6
        have HF := Lib.hid (And.intro (HI5.out.next hb56) (kept_bel HK5.out hb56))
        clear hb56 hb6 e0 e3 x0 x1 o1 o2 HIS
        go_wp2
        go_roundw
        case rel => exact ⟨k + 1, by go_num, by omega, HF⟩
        case measure => simp [intOf]; omega
    case neg =>
      have jk : ¬ (k : Int) < (N : Int) := by omega
      have HF : Hid (BookI wr p m S ∧ Kept (fun k => some m = some k) w wr) := Lib.hid ⟨hIK.out.1, HK3.out.trans hIK.out.2 (fun _ _ h => h)⟩
      go_wp2
      go_ret
      exact ⟨rfl, HF.out.1, by first | exact HF.out.2 | exact kept_eq HF.out.2⟩
end Go.Proofs.YtgkcnocfijckoaaGreat
namespace Go.Proofs.YtgkcnocfijckoaaGreat
open Go.RowKit Sg
set_option linter.unusedVariables false
set_option linter.unusedSimpArgs false
theorem PW.stands {w0 w : World} {pw ps p m : Nat} {v vl : Value} {S : Bk} {l : List Gn} {im : Int → ByteArray} (h : PW w0 w pw ps p m v vl S l im) (hS : S.length ≤ 90000000) :
    Calls Tryz.prog 27 #[.pointer (some ⟨pw, 0, none⟩), .pointer (some ⟨ps, 0, none⟩)] w fun e w' => e = .returned (.bool true) ∧ PW w0 w' pw ps p m v vl S l im := by
  refine (stands_any w pw ps ps p m (ps + 1) v vl v S l l im im _ h.ww h.ww.sw.sr hS rfl).mono ?_
  rintro e w' ⟨rfl, hI, hk⟩
  exact ⟨rfl, h.move (h.ww.book hk hI (Ext.refl S)) (Moves.of_book hk)⟩
theorem awake_in (w0 w : World) (h : Below w0.heap.size w0 w) : Calls Tryz.prog 11 #[] w fun e w' => e = .returned (.bool true) ∧ Below w0.heap.size w0 w' :=
  (awake_any w).mono fun e w' h2 => ⟨h2.1, bl_nx h h2.2⟩
set_option maxRecDepth 100000 in
set_option maxHeartbeats 4000000 in
theorem storePlays_walk (w : World) (ao : Option Addr) (n cap : Nat) (o0 : (Kd.sl (.agg [.int .i64, .int .i64, .int .i64, .str])).ok w [.slice ao n cap]) :
    Calls Tryz.prog 6 #[.slice ao n cap] w fun e w' => e = .returned (.bool true) ∧ Below w.heap.size w w' := by
  obtain ⟨ops, hR, hok⟩ := ops_of (show (Kd.sl op4K).ok w [.slice ao n cap] from o0)
  have HPL := Lib.hid (played_any w ao n cap ops hR hok)
  clear o0 hR hok
  go_enter Tryz.func6, Tryz.ntmps6
  go_wp2_with fail
  refine HPL.out.mono ?_
  rintro e w1 ⟨pw, ps, p, m, v, vl, S, l, im, rfl, hP, hS, hl⟩
  have HP := Lib.hid hP
  have c0 := hP.ww.ob.cell (i := 0) rfl
  have HST := Lib.hid (hP.stands (by omega))
  clear hP HPL
  go_wp2_with fail
  refine HST.out.mono ?_
  rintro e w2 ⟨rfl, hP2⟩
  have HAW := Lib.hid (awake_in w w2 hP2.bel)
  clear hP2 c0
  go_wp2_with fail
  refine HAW.out.mono ?_
  rintro e w3 ⟨rfl, hb3⟩
  have HB3 := Lib.hid hb3
  clear hb3
  go_wp2
  go_ret
  exact ⟨rfl, HB3.out⟩
end Go.Proofs.YtgkcnocfijckoaaGreat
