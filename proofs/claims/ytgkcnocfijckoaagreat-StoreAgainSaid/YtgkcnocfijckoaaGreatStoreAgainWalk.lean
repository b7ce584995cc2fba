/- StoreAgain, walked: a store's records make the same store anew, and a copy is one that knows nothing of it. No conditions. -/
import Derived.Test.YtgkcnocfijckoaaGreatStoreRebasesWalk
import Derived.Test.YtgkcnocfijckoaaGreatStoreDosWalk
import Derived.Test.YtgkcnocfijckoaaGreatShJoin
import Derived.Test.YtgkcnocfijckoaaGreatSF
namespace Go.Proofs.YtgkcnocfijckoaaGreat
open Go.RowKit Sg
set_option linter.unusedVariables false
set_option linter.unusedSimpArgs false
theorem WW.apart {w w' : World} {pw ps p m : Nat} {v vl : Value} {S S' : Bk} {l : List Gn} {im : Int → ByteArray} {K : List Kp} (h : WW w pw ps p m v vl S l im K) {T : Nat → Prop} (hk : Kept T w w') (h1 : ¬ T pw) (h2 : ¬ T ps) (h3 : ∀ k, v.ownBlock = some k → ¬ T k) (h4 : ∀ k, vl.ownBlock = some k → ¬ T k) (hI : BookI w' p m S') (hE : Ext S S') : WW w' pw ps p m v vl S' l im K :=
  ⟨blkKept h.ob hk h1, ⟨h.sw.st.keptT hk h2 h3, hI, h.sw.inv.ext hE, h.sw.lt⟩, owns_block h.row (fun k e => hk.block k (World.ownsRow.lt h.row k e).2 (h4 k e)), h.ne⟩
theorem recsL_at {l : List Gn} {k : Nat} {R : ByteArray} (h : (recsL l)[k]? = some R) : ∃ g, l[k]? = some g ∧ R = recG1 g := by
  unfold recsL at h
  rw [List.getElem?_map] at h
  cases hg : l[k]? with
  | none => rw [hg] at h; cases h
  | some g => rw [hg] at h; exact ⟨g, rfl, (Option.some.inj h).symm⟩
theorem sumR_take {L : List ByteArray} {k : Nat} {R : ByteArray} (h : L[k]? = some R) : sumR (L.take (k + 1)) = sumR (L.take k) + R.size := by
  rw [List.take_add_one, h]; exact sumR_snoc _ _
theorem kpFlat_len (l : List Kp) : (l.flatMap Kp.c).length = l.length * 2 := by
  induction l with
  | nil => rfl
  | cons g l ih => rw [List.flatMap_cons, List.length_append, ih, kp_len, List.length_cons]; omega
theorem kpFlat_one (l : List Kp) : ∀ u ∈ l.flatMap Kp.c, u.oneCell' = true := by
  intro u hu
  rw [List.mem_flatMap] at hu
  obtain ⟨g, _, hg⟩ := hu
  exact kp_one g u hg
set_option maxRecDepth 100000 in
set_option maxHeartbeats 16000000 in
theorem storeAgain_walk (w : World) (ao : Option Addr) (n0 cap : Nat) (o0 : (Kd.sl (.agg [.int .i64, .int .i64, .int .i64, .str])).ok w [.slice ao n0 cap]) (c1 : Array Value) (o1 : (Kd.agg [.int .i64, .int .i64, .int .i64, .str]).ok w c1.toList) :
    Calls Tryz.prog 10 #[.slice ao n0 cap, .agg c1] w fun e w' => e = .returned (.bool true) ∧ Below w.heap.size w w' := by
  obtain ⟨i1, hj, hy0, hy1, hy2⟩ := info_parts infoKp
  have hgz := kpZ_run
  obtain ⟨ops, hR, hok⟩ := ops_of (show (Kd.sl op4K).ok w [.slice ao n0 cap] from o0)
  obtain ⟨⟨ok, on, om, ot⟩, rfl, hon, hom, hot⟩ := op4_of (show Kd.ok w op4K c1.toList from o1)
  simp only at hon hom hot
  obtain ⟨V, hV⟩ : ∃ V, V = w.alloc (Obj.cells #[.int .i64 ok, .int .i64 on, .int .i64 om, .string ot] 71) := ⟨_, rfl⟩
  obtain ⟨q, hq⟩ : ∃ q, q = w.heap.size := ⟨_, rfl⟩
  have hG : Blk V q [.int .i64 ok, .int .i64 on, .int .i64 om, .string ot] 71 := by rw [hV, hq]; exact Blk.new _ _ _
  have hbV : Below w.heap.size w V := by rw [hV]; exact below_alloc _ _
  have HPL := Lib.hid (played_any V ao n0 cap ops (hR.below hbV (Nat.le_refl _)) hok)
  have HV := Lib.hid (And.intro hV hq)
  have HG := Lib.hid hG
  have HBV := Lib.hid hbV
  have HON := Lib.hid (And.intro hon (And.intro hom hot))
  clear hV hq hG hbV o0 o1 hR hok hon hom hot
  simp only
  go_enter Tryz.func10, Tryz.ntmps10
  go_upto_region 1 with fail
  rw [← HV.out.1, ← HV.out.2]
  go_wp2_with fail
  refine HPL.out.mono ?_
  rintro e w1 ⟨pw, ps, p, m, v, vl, S, l, im, rfl, hP, hS, hl⟩
  obtain ⟨ao6, cp6, hvl⟩ := owns_slice hP.ww.row
  have HVL := Lib.hid hvl
  clear hvl
  have HP := Lib.hid hP
  have HG1 := Lib.hid (HG.out.below hP.bel HG.out.lt)
  have HB1 := Lib.hid (bl_nx HBV.out hP.bel)
  have hVq : q < V.heap.size := HG.out.lt
  -- what there is lies ahead of w1's end
  have HLT : Hid (pw < w1.heap.size ∧ ps < w1.heap.size ∧ p < w1.heap.size ∧ m < w1.heap.size ∧ (∀ k, v.ownBlock = some k → k < w1.heap.size) ∧ (∀ k, vl.ownBlock = some k → k < w1.heap.size)) := Lib.hid ⟨hP.ww.ob.lt, hP.ww.sw.st.lt, hP.ww.sw.bk.2.2.2.2.1.1, hP.ww.sw.bk.2.2.2.2.1.2, fun k e => (hP.ww.sw.own e).2, fun k e => (World.ownsRow.lt hP.ww.row k e).2⟩
  have HQN : Hid (q ≠ pw ∧ q ≠ ps ∧ q ≠ m ∧ (∀ k, v.ownBlock = some k → k ≠ q) ∧ q < w1.heap.size) := Lib.hid (by
    obtain ⟨g1, g2, g3, g4, g5⟩ := hP.ge
    exact ⟨by omega, by omega, by omega, fun k e => by have := g4 k e; omega, Nat.lt_of_lt_of_le hVq hP.bel.size⟩)
  have x1 := hP.ww.ob.cell (i := 1) rfl
  clear hP HPL
  have HNW := Lib.hid (stNew_any w1 (some ⟨p, 0, none⟩))
  go_wp2_with fail
  refine HNW.out.mono ?_
  rintro e w2 ⟨rfl, hB2, hb2⟩
  obtain ⟨ps2, hps2⟩ : ∃ q, q = w1.heap.size := ⟨_, rfl⟩
  rw [← hps2] at hB2 ⊢
  have HW2 := Lib.hid (HP.out.ww.below hb2)
  have HS2 : Hid (SW w2 ps2 p m (.slice none 0 0) S [] im) := Lib.hid (SW.new hB2 HW2.out.sw.bk (by have := HLT.out; omega) im)
  have HP2 := Lib.hid hps2
  have HB2 := Lib.hid (bl_nx HB1.out hb2)
  have HG2 := Lib.hid (HG1.out.below hb2 HG1.out.lt)
  have h12 : w1.heap.size < w2.heap.size := by have := hB2.lt; omega
  have H12 := Lib.hid h12
  have x0 := HW2.out.ob.cell (i := 0) rfl
  have HRE := Lib.hid (stRecords_any w2 ps p (ps + 1) v S l im HW2.out.sw.st HW2.out.sw.inv)
  clear hps2 hB2 hb2 x1 HNW h12
  go_wp2_with fail
  refine HRE.out.mono ?_
  rintro e w3 ⟨v3, rfl, hO3, hb3⟩
  obtain ⟨a3, k3, rfl⟩ := owns_slice hO3
  obtain ⟨N, hN⟩ : ∃ N, N = (recsL l).length := ⟨_, rfl⟩
  have hNl : N = l.length := by rw [hN]; unfold recsL; rw [List.length_map]
  rw [← hN] at hO3 ⊢
  have HO3 := Lib.hid hO3
  have HW3 := Lib.hid (HW2.out.below hb3)
  have HS3 := Lib.hid (HS2.out.below hb3)
  have HB3 := Lib.hid (bl_nx HB2.out hb3)
  have HG3 := Lib.hid (HG2.out.below hb3 HG2.out.lt)
  have H23 := Lib.hid hb3.size
  have HN := Lib.hid (And.intro hN hNl)
  have hN20 : N ≤ 20 := by omega
  clear hO3 hb3 hN HRE x0
  go_wp2_with fail
  go_loopw [8, 9] (fun nn i wr => ∃ (k : Nat) (v2 : Value), nn = .int .i64 (sumR ((recsL l).take k) : Nat) ∧ i = .int .i64 k ∧ k ≤ N ∧ Hid (SW wr ps2 p m v2 S (l.take k) im) ∧ Hid (WW wr pw ps p m v vl S l im (modelK l im)) ∧ Hid (∀ j, v2.ownBlock = some j → w3.heap.size ≤ j) ∧ Hid (Kept (fun k => k = ps2 ∨ k = m) w3 wr)) (fun _ i _ => N - (intOf i).toNat)
  case atStart => exact ⟨0, _, by simp [sumR], by go_num, Nat.zero_le _, HS3, HW3, Lib.hid (fun j e => by cases e), Lib.hid (Kept.refl _ _)⟩
  case round =>
    obtain ⟨k, v2, rfl, rfl, hk, hSr, hWr, hOr, hKr⟩ := hrel
    by_cases hlt : k < N
    case pos =>
      obtain ⟨R, hRk⟩ : ∃ R, (recsL l)[k]? = some R := ⟨_, List.getElem?_eq_getElem (by rw [← HN.out.1]; exact hlt)⟩
      obtain ⟨g, hg, hRg⟩ := recsL_at hRk
      obtain ⟨hdo, hRs⟩ := replay_do hWr.out.sw.inv hg
      rw [← hRg] at hdo hRs
      have hRow : RowS wr w2.heap.size (.slice a3 N k3) (recsL l) := by
        refine owns_block (by rw [HN.out.1] at HO3 ⊢; exact HO3.out) (fun j e => ?_)
        have h5 := World.ownsRow.lt HO3.out j e
        refine hKr.out.block j h5.2 ?_
        have h6 := HLT.out
        have h7 := HP2.out
        have h8 := H12.out
        rintro (e2 | e2) <;> omega
      obtain ⟨b, off, rfl, hb, hc⟩ := (RowS.rs hRow HN.out.1.symm).2.2.2 (by omega)
      have y0 : wr.cell? ⟨b, off + k, none⟩ = some (.string R) := by
        obtain ⟨h6, h7⟩ := List.getElem?_eq_some_iff.1 hRk
        have h5 := hc k h6 0 (.string R) (by rw [h7]; rfl)
        simpa using h5
      have HDO := Lib.hid (hSr.out.doAs (by omega) R (by omega) hdo (hWr.out.sw.inv.take (k + 1)))
      obtain ⟨A, hA⟩ : ∃ A, A = sumR ((recsL l).take k) := ⟨_, rfl⟩
      have hAs : A ≤ 600000 * 20 := by
        have h1 := sumR_le (l := (recsL l).take k) (n := 600000) (fun x hx => recs_size hWr.out.sw.inv x (List.mem_of_mem_take hx))
        have h2 : ((recsL l).take k).length ≤ 20 := by rw [List.length_take]; omega
        rw [hA]
        exact Nat.le_trans h1 (Nat.mul_le_mul_left _ h2)
      have HNX : Hid (((sumR ((recsL l).take (k + 1)) : Nat) : Int) = (A : Int) + (R.size : Int)) := Lib.hid (by rw [sumR_take hRk, ← hA]; omega)
      rw [← hA]
      have jk : (k : Int) < (N : Int) := by omega
      have hwr : IntKind.i64.wrap ((A : Int) + (R.size : Int)) = (A : Int) + (R.size : Int) := IntWalk.i64_in _ (by omega)
      clear hRk hg hRg hdo hRow hb hc hA
      go_wp2_with fail
      refine HDO.out.mono ?_
      rintro e w5 ⟨rfl, v5, hS5, hk5, ho5⟩
      have HF : Hid (SW w5 ps2 p m v5 S (l.take (k + 1)) im ∧ WW w5 pw ps p m v vl S l im (modelK l im) ∧ (∀ j, v5.ownBlock = some j → w3.heap.size ≤ j) ∧ Kept (fun k => k = ps2 ∨ k = m) w3 w5) := Lib.hid (by
        have h6 := HLT.out
        have h7 := HP2.out
        have h8 := H12.out
        have h9 := H23.out
        have hne := HW3.out.ne
        have hlt := HW3.out.sw.lt
        refine ⟨hS5, hWr.out.apart hk5 ?_ ?_ ?_ ?_ hS5.bk (Ext.refl S), ?_, ?_⟩
        · rintro (e | e | e)
          · omega
          · exact hne.2.2.1 e
          · have := hOr.out _ e; omega
        · rintro (e | e | e)
          · omega
          · omega
          · have := hOr.out _ e; omega
        · rintro j hj (e | e | e)
          · have := h6.2.2.2.2.1 j hj; omega
          · have := HW3.out.sw.own hj; omega
          · have := hOr.out _ e; have := h6.2.2.2.2.1 j hj; omega
        · rintro j hj (e | e | e)
          · have := h6.2.2.2.2.2 j hj; omega
          · exact hne.2.2.2.2.2.2.1 (by rw [hj, e])
          · have := hOr.out _ e; have := h6.2.2.2.2.2 j hj; omega
        · intro j hj
          rcases ho5 with e | ⟨i, e, hi⟩
          · exact hOr.out j (by rw [← e]; exact hj)
          · rw [e] at hj; injection hj with hj; have := hKr.out.size; omega
        · refine hKr.out.trans hk5 (fun i hi e => ?_)
          rcases e with e | e | e
          · exact .inl e
          · exact .inr e
          · have := hOr.out _ e; omega)
      clear hS5 hk5 ho5 y0 HDO
      go_wp2
      go_roundw
      case rel => exact ⟨k + 1, v5, by rw [HNX.out], by go_num, by omega, Lib.hid HF.out.1, Lib.hid HF.out.2.1, Lib.hid HF.out.2.2.1, Lib.hid HF.out.2.2.2⟩
      case measure => simp [intOf]; omega
    case neg =>
      have jk : ¬ (k : Int) < (N : Int) := by omega
      have htl : l.take k = l := List.take_of_length_le (by rw [← HN.out.2]; omega)
      have htr : (recsL l).take k = recsL l := List.take_of_length_le (by rw [← HN.out.1]; omega)
      have HS4 : Hid (SW wr ps2 p m v2 S l im) := Lib.hid (by have h := hSr.out; rwa [htl] at h)
      rw [htr]
      obtain ⟨A, hA⟩ : ∃ A, A = sumR (recsL l) := ⟨_, rfl⟩
      rw [← hA]
      have HA := Lib.hid hA
      have x0 := hWr.out.ob.cell (i := 0) rfl
      have HCP := Lib.hid (stCopy_any wr ps p (ps + 1) v l hWr.out.sw.st (by omega))
      have HGr : Hid (Blk wr q [.int .i64 ok, .int .i64 on, .int .i64 om, .string ot] 71) := Lib.hid (by
        exact blkKept HG3.out hKr.out (by rintro (e | e); have := HP2.out; have := HQN.out; omega; exact HQN.out.2.2.1 e))
      clear hSr hA htl htr
      go_wp2_with fail
      refine HCP.out.mono ?_
      rintro e w5 ⟨qc, v5, rfl, hC5, hb5, hqc⟩
      have HW5 := Lib.hid (hWr.out.below hb5)
      have HS5 := Lib.hid (HS4.out.below hb5)
      have HG5 := Lib.hid (HGr.out.below hb5 HGr.out.lt)
      have HC5 : Hid (SR w5 qc p m wr.heap.size v5 S l im) := Lib.hid ⟨hC5, HW5.out.sw.bk, HW5.out.sw.inv, by have := hWr.out.sw.bk.2.2.2.2.1.2; omega, hb5.size, by have := hWr.out.sw.bk.2.2.2.2.1.2; omega⟩
      have HK5 : Hid (Kept (fun k => k = ps2 ∨ k = m) w3 w5) := Lib.hid (kept_bel hKr.out hb5)
      have HQC : Hid (w3.heap.size ≤ wr.heap.size ∧ wr.heap.size ≤ qc ∧ wr.heap.size ≤ w5.heap.size) := Lib.hid ⟨hKr.out.size, hqc, hb5.size⟩
      have hmw : m < w5.heap.size := HW5.out.sw.bk.2.2.2.2.1.2
      -- contracts for whatever world the region reaches
      have HGS : Hid (∀ W, Below w5.heap.size w5 W → Calls Tryz.prog 21 #[.pointer (some ⟨ps2, 0, none⟩)] W fun e w' => ∃ a c, e = .returned (.slice a (gsG l).length c) ∧ RowG w' W.heap.size (.slice a (gsG l).length c) (gsG l) ∧ Below W.heap.size W w') := Lib.hid (fun W hW => by
        refine (HS5.out.below hW).gens.mono ?_
        rintro e w' ⟨v', rfl, h1, h2⟩
        obtain ⟨a, c, rfl⟩ := owns_slice h1
        exact ⟨a, c, rfl, h1, h2⟩)
      have HGW : Hid (∀ W, Below w5.heap.size w5 W → Calls Tryz.prog 21 #[.pointer (some ⟨ps, 0, none⟩)] W fun e w' => ∃ a c, e = .returned (.slice a (gsG l).length c) ∧ RowG w' W.heap.size (.slice a (gsG l).length c) (gsG l) ∧ Below W.heap.size W w') := Lib.hid (fun W hW => by
        refine (HW5.out.below hW).sw.gens.mono ?_
        rintro e w' ⟨v', rfl, h1, h2⟩
        obtain ⟨a, c, rfl⟩ := owns_slice h1
        exact ⟨a, c, rfl, h1, h2⟩)
      have HSTS : Hid (∀ W, Kept (fun k => some m = some k) w5 W → BookI W p m S → Calls Tryz.prog 27 #[.pointer (some ⟨pw, 0, none⟩), .pointer (some ⟨ps2, 0, none⟩)] W fun e w' => e = .returned (.bool true) ∧ BookI w' p m S ∧ Kept (fun k => some m = some k) W w') := Lib.hid (fun W hk hI =>
        stands_any W pw ps2 ps p m (ps2 + 1) v vl v2 S l l im im _ (HW5.out.book hk hI (Ext.refl S)) (HS5.out.book hk hI (Ext.refl S)).sr (by omega) rfl)
      have HSTC : Hid (∀ W, Kept (fun k => some m = some k) w5 W → BookI W p m S → Calls Tryz.prog 27 #[.pointer (some ⟨pw, 0, none⟩), .pointer (some ⟨qc, 0, none⟩)] W fun e w' => e = .returned (.bool true) ∧ BookI w' p m S ∧ Kept (fun k => some m = some k) W w') := Lib.hid (fun W hk hI =>
        stands_any W pw qc ps p m wr.heap.size v vl v5 S l l im im _ (HW5.out.book hk hI (Ext.refl S)) (HC5.out.book hk hI (Ext.refl S)) (by omega) rfl)
      have HBYT : Hid (∀ W, Kept (fun k => some m = some k) w5 W → BookI W p m S → Calls Tryz.prog 36 #[.pointer (some ⟨ps, 0, none⟩)] W fun e w' => e = .returned (.int .i64 (A : Nat)) ∧ Below W.heap.size W w') := Lib.hid (fun W hk hI => by
        rw [HA.out]
        exact stBytes_any W ps p m v S l im (HW5.out.book hk hI (Ext.refl S)).sw)
      have hcur : Below w5.heap.size w5 w5.drew := bl_drew (Below.refl _ w5)
      have c0 := HW5.out.ob.cell (i := 0) rfl
      have hpl := HW5.out.ob.lt
      have hpm : ¬ some m = some pw := fun e => by injection e with e; exact HW5.out.ne.2.2.1 e.symm
      have hgl : (gsG l).length ≤ 1000000 := by rw [gsG_len]; omega
      have hIw : BookI w5 p m S := HW5.out.sw.bk
      have HIW := Lib.hid hIw
      clear hC5 hb5 hqc HCP x0 hIw
      go_upto_region 14 with fail

      refine wp_region_any (by kernel_rfl) ?_
      change wpAny _ _ _ _ _ _ _ (World.drew _)
      refine wpAny_take (i := 0) (v := ?_) rfl (by kernel_rfl) (by kernel_rfl) (by kernel_rfl) (fun _ _ _ h => h) (Or.inl ⟨by rfl, ?_⟩) ?_
      rotate_left
      · intro w; go_simp; first | done | with_reducible rfl
      try simp only [Act.put, List.getElem_toArray, List.getElem_cons_succ, List.getElem_cons_zero, List.setIfInBounds_toArray, List.set_cons_zero, List.set_cons_succ]
      refine wpAny_take (i := 2) (v := ?_) rfl (by kernel_rfl) (by kernel_rfl) (by kernel_rfl) (fun _ _ _ h => h) (Or.inl ⟨by rfl, ?_⟩) ?_
      rotate_left
      · intro w; go_simp; first | done | with_reducible rfl
      try simp only [Act.put, List.getElem_toArray, List.getElem_cons_succ, List.getElem_cons_zero, List.setIfInBounds_toArray, List.set_cons_zero, List.set_cons_succ]
      refine wpAny_take (i := 3) (v := ?_) rfl (by kernel_rfl) (by kernel_rfl) (by kernel_rfl) (fun _ _ _ h => h) (Or.inl ⟨by rfl, ?_⟩) ?_
      rotate_left
      · intro w; go_simp; first | done | with_reducible rfl
      try simp only [Act.put, List.getElem_toArray, List.getElem_cons_succ, List.getElem_cons_zero, List.setIfInBounds_toArray, List.set_cons_zero, List.set_cons_succ]
      refine wpAny_take (i := 4) (v := ?_) rfl (by kernel_rfl) (by kernel_rfl) (by kernel_rfl) (fun _ _ _ h => h) (Or.inl ⟨by rfl, ?_⟩) ?_
      rotate_left
      · intro w; go_simp; first | done | with_reducible rfl
      try simp only [Act.put, List.getElem_toArray, List.getElem_cons_succ, List.getElem_cons_zero, List.setIfInBounds_toArray, List.set_cons_zero, List.set_cons_succ]
      refine wpAny_ready (rs := [1, 5]) (by kernel_rfl) (by simp) ?_
      refine AllReady.cons rfl (fun K hK => ?_) ?_
      ·
        go_simp
        go_wp2_with (first | (go_at_call_of 21 (ps2); refine (HGS.out _ hcur).mono ?_; rintro e wS ⟨aS, kS, rfl, hOS, hbS⟩; (try replace hOW := row_below hOW hbS); replace hcur := bl_nx hcur hbS; clear hbS))
        try (refine hK _ _ ?_)
        try clear hK K
        try simp only [Act.put, List.getElem_toArray, List.getElem_cons_succ, List.getElem_cons_zero, List.setIfInBounds_toArray, List.set_cons_zero, List.set_cons_succ]
        refine wpAny_ready (rs := [5]) (by kernel_rfl) (by simp) ?_
        refine AllReady.cons rfl (fun K hK => ?_) ?_
        ·
          have c0c := (hcur.cell (p := ⟨pw, 0, none⟩) hpl).trans c0
          go_simp
          refine hK _ _ ?_
          clear hK K c0c
          try simp only [Act.put, List.getElem_toArray, List.getElem_cons_succ, List.getElem_cons_zero, List.setIfInBounds_toArray, List.set_cons_zero, List.set_cons_succ]
          refine wpAny_ready (rs := [6]) (by kernel_rfl) (by simp) ?_
          refine AllReady.cons rfl (fun K hK => ?_) ?_
          ·
            go_simp
            go_wp2_with (first | (go_at_call_of 21 (ps); refine (HGW.out _ hcur).mono ?_; rintro e wW ⟨aW, kW, rfl, hOW, hbW⟩; (try replace hOS := row_below hOS hbW); replace hcur := bl_nx hcur hbW; clear hbW))
            try (refine hK _ _ ?_)
            try clear hK K
            try simp only [Act.put, List.getElem_toArray, List.getElem_cons_succ, List.getElem_cons_zero, List.setIfInBounds_toArray, List.set_cons_zero, List.set_cons_succ]
            refine wpAny_ready (rs := [7]) (by kernel_rfl) (by simp) ?_
            refine AllReady.cons rfl (fun K hK => ?_) ?_
            ·
              go_simp
              go_wp2_with (first | (go_at_call 28; refine (gens_eq _ aS aW _ kS kW (gsG l) hgl (RowG.rs hOS rfl) (RowG.rs hOW rfl)).mono ?_; rintro e wG ⟨rfl, hbG⟩; have hkc := Kept.of_below (fun k => some m = some k) (bl_nx hcur hbG); have hIc := HIW.out.next (bl_nx hcur hbG); clear hbG hcur hOS hOW))
              try (refine hK _ _ ?_)
              try clear hK K
              try simp only [Act.put, List.getElem_toArray, List.getElem_cons_succ, List.getElem_cons_zero, List.setIfInBounds_toArray, List.set_cons_zero, List.set_cons_succ]
              refine wpAny_take (i := 8) (v := ?_) rfl (by kernel_rfl) (by kernel_rfl) (by kernel_rfl) (fun _ _ _ h => h) (Or.inl ⟨by rfl, ?_⟩) ?_
              rotate_left
              · intro w; go_simp; first | done | with_reducible rfl
              try simp only [Act.put, List.getElem_toArray, List.getElem_cons_succ, List.getElem_cons_zero, List.setIfInBounds_toArray, List.set_cons_zero, List.set_cons_succ]
              refine wpAny_take (i := 9) (v := ?_) rfl (by kernel_rfl) (by kernel_rfl) (by kernel_rfl) (fun _ _ _ h => h) (Or.inl ⟨by rfl, ?_⟩) ?_
              rotate_left
              · intro w; go_simp; first | done | with_reducible rfl
              try simp only [Act.put, List.getElem_toArray, List.getElem_cons_succ, List.getElem_cons_zero, List.setIfInBounds_toArray, List.set_cons_zero, List.set_cons_succ]
              refine wpAny_take (i := 10) (v := ?_) rfl (by kernel_rfl) (by kernel_rfl) (by kernel_rfl) (fun _ _ _ h => h) (Or.inl ⟨by rfl, ?_⟩) ?_
              rotate_left
              · intro w; go_simp; first | done | with_reducible rfl
              try simp only [Act.put, List.getElem_toArray, List.getElem_cons_succ, List.getElem_cons_zero, List.setIfInBounds_toArray, List.set_cons_zero, List.set_cons_succ]
              refine wpAny_take (i := 11) (v := ?_) rfl (by kernel_rfl) (by kernel_rfl) (by kernel_rfl) (fun _ _ _ h => h) (Or.inl ⟨by rfl, ?_⟩) ?_
              rotate_left
              · intro w; go_simp; first | done | with_reducible rfl
              try simp only [Act.put, List.getElem_toArray, List.getElem_cons_succ, List.getElem_cons_zero, List.setIfInBounds_toArray, List.set_cons_zero, List.set_cons_succ]
              refine wpAny_ready (rs := [12]) (by kernel_rfl) (by simp) ?_
              refine AllReady.cons rfl (fun K hK => ?_) ?_
              ·
                go_simp
                go_wp2_with (first | (go_at_call 27; refine (HSTS.out _ hkc hIc).mono ?_; rintro e wT ⟨rfl, hIt, hkt⟩; replace hkc := hkc.trans hkt (fun _ _ h => h); replace hIc := hIt; clear hIt hkt))
                try (refine hK _ _ ?_)
                try clear hK K
                try simp only [Act.put, List.getElem_toArray, List.getElem_cons_succ, List.getElem_cons_zero, List.setIfInBounds_toArray, List.set_cons_zero, List.set_cons_succ]
                refine wpAny_take (i := 13) (v := ?_) rfl (by kernel_rfl) (by kernel_rfl) (by kernel_rfl) (fun _ _ _ h => h) (Or.inl ⟨by rfl, ?_⟩) ?_
                rotate_left
                · intro w; go_simp; first | done | with_reducible rfl
                try simp only [Act.put, List.getElem_toArray, List.getElem_cons_succ, List.getElem_cons_zero, List.setIfInBounds_toArray, List.set_cons_zero, List.set_cons_succ]
                refine wpAny_take (i := 14) (v := ?_) rfl (by kernel_rfl) (by kernel_rfl) (by kernel_rfl) (fun _ _ _ h => h) (Or.inl ⟨by rfl, ?_⟩) ?_
                rotate_left
                · intro w; go_simp; first | done | with_reducible rfl
                try simp only [Act.put, List.getElem_toArray, List.getElem_cons_succ, List.getElem_cons_zero, List.setIfInBounds_toArray, List.set_cons_zero, List.set_cons_succ]
                refine wpAny_take (i := 15) (v := ?_) rfl (by kernel_rfl) (by kernel_rfl) (by kernel_rfl) (fun _ _ _ h => h) (Or.inl ⟨by rfl, ?_⟩) ?_
                rotate_left
                · intro w; go_simp; first | done | with_reducible rfl
                try simp only [Act.put, List.getElem_toArray, List.getElem_cons_succ, List.getElem_cons_zero, List.setIfInBounds_toArray, List.set_cons_zero, List.set_cons_succ]
                refine wpAny_take (i := 16) (v := ?_) rfl (by kernel_rfl) (by kernel_rfl) (by kernel_rfl) (fun _ _ _ h => h) (Or.inl ⟨by rfl, ?_⟩) ?_
                rotate_left
                · intro w; go_simp; first | done | with_reducible rfl
                try simp only [Act.put, List.getElem_toArray, List.getElem_cons_succ, List.getElem_cons_zero, List.setIfInBounds_toArray, List.set_cons_zero, List.set_cons_succ]
                refine wpAny_take (i := 17) (v := ?_) rfl (by kernel_rfl) (by kernel_rfl) (by kernel_rfl) (fun _ _ _ h => h) (Or.inl ⟨by rfl, ?_⟩) ?_
                rotate_left
                · intro w; go_simp; first | done | with_reducible rfl
                try simp only [Act.put, List.getElem_toArray, List.getElem_cons_succ, List.getElem_cons_zero, List.setIfInBounds_toArray, List.set_cons_zero, List.set_cons_succ]
                refine wpAny_take (i := 18) (v := ?_) rfl (by kernel_rfl) (by kernel_rfl) (by kernel_rfl) (fun _ _ _ h => h) (Or.inl ⟨by rfl, ?_⟩) ?_
                rotate_left
                · intro w; go_simp; first | done | with_reducible rfl
                try simp only [Act.put, List.getElem_toArray, List.getElem_cons_succ, List.getElem_cons_zero, List.setIfInBounds_toArray, List.set_cons_zero, List.set_cons_succ]
                refine wpAny_take (i := 21) (v := ?_) rfl (by kernel_rfl) (by kernel_rfl) (by kernel_rfl) (fun _ _ _ h => h) (Or.inl ⟨by rfl, ?_⟩) ?_
                rotate_left
                · intro w; go_simp; first | done | with_reducible rfl
                try simp only [Act.put, List.getElem_toArray, List.getElem_cons_succ, List.getElem_cons_zero, List.setIfInBounds_toArray, List.set_cons_zero, List.set_cons_succ]
                refine wpAny_ready (rs := [19]) (by kernel_rfl) (by simp) ?_
                refine AllReady.cons rfl (fun K hK => ?_) ?_
                ·
                  have c0c := (hkc.cell (i := 0) hpl hpm).trans c0
                  go_simp
                  refine hK _ _ ?_
                  clear hK K c0c
                  try simp only [Act.put, List.getElem_toArray, List.getElem_cons_succ, List.getElem_cons_zero, List.setIfInBounds_toArray, List.set_cons_zero, List.set_cons_succ]
                  refine wpAny_ready (rs := [20]) (by kernel_rfl) (by simp) ?_
                  refine AllReady.cons rfl (fun K hK => ?_) ?_
                  ·
                    go_simp
                    go_wp2_with (first | (go_at_call 36; refine (HBYT.out _ hkc hIc).mono ?_; rintro e wB ⟨rfl, hbB⟩; replace hkc := kept_bel hkc hbB; replace hIc := hIc.next hbB; clear hbB))
                    try (refine hK _ _ ?_)
                    try clear hK K
                    try simp only [Act.put, List.getElem_toArray, List.getElem_cons_succ, List.getElem_cons_zero, List.setIfInBounds_toArray, List.set_cons_zero, List.set_cons_succ]
                    refine wpAny_take (i := 22) (v := ?_) rfl (by kernel_rfl) (by kernel_rfl) (by kernel_rfl) (fun _ _ _ h => h) (Or.inl ⟨by rfl, ?_⟩) ?_
                    rotate_left
                    · intro w; go_simp; first | done | with_reducible rfl
                    try simp only [Act.put, List.getElem_toArray, List.getElem_cons_succ, List.getElem_cons_zero, List.setIfInBounds_toArray, List.set_cons_zero, List.set_cons_succ]
                    refine wpAny_take (i := 23) (v := ?_) rfl (by kernel_rfl) (by kernel_rfl) (by kernel_rfl) (fun _ _ _ h => h) (Or.inl ⟨by rfl, ?_⟩) ?_
                    rotate_left
                    · intro w; go_simp; first | done | with_reducible rfl
                    try simp only [Act.put, List.getElem_toArray, List.getElem_cons_succ, List.getElem_cons_zero, List.setIfInBounds_toArray, List.set_cons_zero, List.set_cons_succ]
                    refine wpAny_take (i := 24) (v := ?_) rfl (by kernel_rfl) (by kernel_rfl) (by kernel_rfl) (fun _ _ _ h => h) (Or.inl ⟨by rfl, ?_⟩) ?_
                    rotate_left
                    · intro w; go_simp; first | done | with_reducible rfl
                    try simp only [Act.put, List.getElem_toArray, List.getElem_cons_succ, List.getElem_cons_zero, List.setIfInBounds_toArray, List.set_cons_zero, List.set_cons_succ]
                    refine wpAny_take (i := 25) (v := ?_) rfl (by kernel_rfl) (by kernel_rfl) (by kernel_rfl) (fun _ _ _ h => h) (Or.inl ⟨by rfl, ?_⟩) ?_
                    rotate_left
                    · intro w; go_simp; first | done | with_reducible rfl
                    try simp only [Act.put, List.getElem_toArray, List.getElem_cons_succ, List.getElem_cons_zero, List.setIfInBounds_toArray, List.set_cons_zero, List.set_cons_succ]
                    refine wpAny_take (i := 26) (v := ?_) rfl (by kernel_rfl) (by kernel_rfl) (by kernel_rfl) (fun _ _ _ h => h) (Or.inl ⟨by rfl, ?_⟩) ?_
                    rotate_left
                    · intro w; go_simp; first | done | with_reducible rfl
                    try simp only [Act.put, List.getElem_toArray, List.getElem_cons_succ, List.getElem_cons_zero, List.setIfInBounds_toArray, List.set_cons_zero, List.set_cons_succ]
                    refine wpAny_ready (rs := [27]) (by kernel_rfl) (by simp) ?_
                    refine AllReady.cons rfl (fun K hK => ?_) ?_
                    ·
                      go_simp
                      go_wp2_with (first | (go_at_call 27; refine (HSTC.out _ hkc hIc).mono ?_; rintro e wU ⟨rfl, hIu, hku⟩; replace hkc := hkc.trans hku (fun _ _ h => h); replace hIc := hIu; clear hIu hku))
                      try (refine hK _ _ ?_)
                      try clear hK K
                      try simp only [Act.put, List.getElem_toArray, List.getElem_cons_succ, List.getElem_cons_zero, List.setIfInBounds_toArray, List.set_cons_zero, List.set_cons_succ]
                      refine wpAny_take (i := 28) (v := ?_) rfl (by kernel_rfl) (by kernel_rfl) (by kernel_rfl) (fun _ _ _ h => h) (Or.inl ⟨by rfl, ?_⟩) ?_
                      rotate_left
                      · intro w; go_simp; first | done | with_reducible rfl
                      try simp only [Act.put, List.getElem_toArray, List.getElem_cons_succ, List.getElem_cons_zero, List.setIfInBounds_toArray, List.set_cons_zero, List.set_cons_succ]
                      refine wpAny_take (i := 29) (v := ?_) rfl (by kernel_rfl) (by kernel_rfl) (by kernel_rfl) (fun _ _ _ h => h) (Or.inl ⟨by rfl, ?_⟩) ?_
                      rotate_left
                      · intro w; go_simp; first | done | with_reducible rfl
                      try simp only [Act.put, List.getElem_toArray, List.getElem_cons_succ, List.getElem_cons_zero, List.setIfInBounds_toArray, List.set_cons_zero, List.set_cons_succ]
                      refine wpAny_done (by kernel_rfl) ?_ _
                      have HU : Hid (WW wU pw ps p m v vl S l im (modelK l im) ∧ SR wU qc p m wr.heap.size v5 S l im ∧ Blk wU q [.int .i64 ok, .int .i64 on, .int .i64 om, .string ot] 71 ∧ w5.heap.size ≤ wU.heap.size ∧ Below w.heap.size w wU) := Lib.hid (by
                        refine ⟨HW5.out.book hkc hIc (Ext.refl S), HC5.out.book hkc hIc (Ext.refl S), blkKept HG5.out hkc (fun e => by injection e with e; exact HQN.out.2.2.1 e.symm), hkc.size, ?_⟩
                        have h1 := HP.out.ge.1
                        have h2 := HP2.out
                        have h3 := HB1.out.size
                        have h4 := HBV.out.size
                        refine bel_kept (bel_kept HB3.out HK5.out ?_) hkc ?_
                        · rintro j (e | e) <;> omega
                        · intro j e; injection e with e; omega)
                      clear hkc hIc
                      have HRK := Lib.hid (Rs.cellsAt (size := 2) kp_len (by decide) (Rs.of_owns (ao := ao6) (cap := cp6) kp_len rfl (by have h := HU.out.1.row; rw [HVL.out] at h; exact h)))
                      have o2 := HU.out.1.ob.cell (i := 2) rfl
                      rw [HVL.out] at o2
                      obtain ⟨NK, hNK⟩ : ∃ NK, NK = (modelK l im).length := ⟨_, rfl⟩
                      have hNK2 : NK ≤ 20 := by rw [hNK, modelK_len]; omega
                      rw [← hNK] at HRK o2
                      have hnl : ((modelK l im).flatMap Kp.c).length = NK * 2 := by rw [hNK]; exact kpFlat_len _
                      have hk1 := kpFlat_one (modelK l im)
                      have hlitA : Below wU.heap.size wU (wU.alloc (Obj.cells #[] 112)) := below_alloc _ _
                      have hlit : (wU.alloc (Obj.cells #[] 112)).ownsRow wU.heap.size 112 2 (.slice (some ⟨wU.heap.size, 0, none⟩) 0 0) 0 [] := own_of_blk (cs := []) (Blk.new wU [] _) (Nat.le_refl _) (Nat.le_refl _) (Nat.zero_le _) rfl rfl rfl
                      have HLIT := Lib.hid (And.intro hlitA hlit)
                      replace o2 := (hlitA.cell (p := ⟨pw, 2, none⟩) HU.out.1.ob.lt).trans o2
                      obtain ⟨xs, hxs⟩ : ∃ xs, xs = (modelK l im).flatMap Kp.c := ⟨_, rfl⟩
                      rw [← hxs] at HRK hnl hk1
                      have HXS := Lib.hid (And.intro hxs hNK)
                      have HCL : Hid (0 < NK → ∃ ad, ao6 = some ad ∧ ∀ j u, xs[j]? = some u → (wU.alloc (Obj.cells #[] 112)).cell? (ad.add j) = some u) := Lib.hid (fun h0 => by
                        obtain ⟨ad, e, hc⟩ := HRK.out h0
                        refine ⟨ad, e, fun j u hu => ?_⟩
                        have h1 := hc j u hu
                        exact (HLIT.out.1.cell (World.block_lt_of_cell? _ _ h1)).trans h1)
                      clear hxs hNK hlit hlitA
                      go_wp2_with (at_builtin; refine wpList_append_rows rfl _ _ 26 rfl wU.heap.size 112 i1 (.agg #[.int .i64 0, .string ByteArray.empty]) 2 24 Tryz.underlying26 hj hy0 hy1 hy2 rfl (by decide) _ 0 [] rfl HLIT.out.2 ao6 NK cp6 xs rfl hnl HCL.out hk1 (by unfold maxLen; omega) (by omega) (by simp) ?_)
                      intro vk wK hOK hgK hvK
                      have HKK : Hid (wK.ownsRow wU.heap.size 112 2 vk NK xs ∧ Below wU.heap.size wU wK) := Lib.hid ⟨by simpa using hOK, HLIT.out.1.grown hgK (by simp) (by intro j hj; simp [Value.ownBlock] at hj; omega)⟩
                      clear hOK hgK hvK HCL
                      obtain ⟨ak, ck, rfl⟩ := owns_slice HKK.out.1
                      have HWK := Lib.hid (HU.out.1.below HKK.out.2)
                      have HGK := Lib.hid (HU.out.2.2.1.below HKK.out.2 HU.out.2.2.1.lt)
                      have z0 := HGK.out.cell (i := 0) rfl
                      have z1 := HGK.out.cell (i := 1) rfl
                      have z2 := HGK.out.cell (i := 2) rfl
                      have z3 := HGK.out.cell (i := 3) rfl
                      have HSTE := Lib.hid (step_any wK pw ps p m v _ S l im HWK.out (by omega) (by omega) ok on om HON.out.1 HON.out.2.1 ot HON.out.2.2)
                      go_wp2_with fail
                      refine HSTE.out.mono ?_
                      rintro e wL ⟨rfl, vL, vlL, SL, lL, imL, hWL, hML, hEL, hSL, hlL⟩
                      have f2 := hWL.ob.frozen 2
                      have g2 := hWL.ob.cell (i := 2) rfl
                      obtain ⟨wM, hwM⟩ : ∃ wM, wM = wL.setCell ⟨pw, 2, none⟩ (.slice ak NK ck) := ⟨_, rfl⟩
                      have HMM : Hid (WW wM pw ps p m vL (.slice ak NK ck) SL lL imL (modelK l im) ∧ SR wM qc p m wr.heap.size v5 SL l im ∧ Below w.heap.size w wM) := Lib.hid (by
                        have h6 := HLT.out
                        have h7 := HP2.out
                        have h8 := H12.out
                        have h9 := H23.out
                        have h10 := HQC.out
                        have h11 := HU.out.2.2.2.1
                        have h12 := HKK.out.2.size
                        have hkn : ∀ j, (Value.slice ak NK ck).ownBlock = some j → wU.heap.size ≤ j ∧ j < wK.heap.size := fun j e => World.ownsRow.lt HKK.out.1 j e
                        have hne := HW3.out.ne
                        have hrowL : wL.ownsRow wU.heap.size 112 2 (.slice ak NK ck) NK xs := by
                          refine owns_block HKK.out.1 (fun j e => ?_)
                          have h5 := hkn j e
                          refine hML.kept.block j h5.2 ?_
                          rintro (e2 | e2 | e2 | e2)
                          · omega
                          · omega
                          · omega
                          · have := h6.2.2.2.2.1 j e2; omega
                        have hkM : Kept (fun k => k = pw) wL wM := by rw [hwM]; exact (Kept.refl (fun k => k = pw) wL).set rfl 2 _
                        have hneL := hWL.ne
                        have hownL := hML.own
                        refine ⟨⟨by rw [hwM]; exact hWL.ob.set 2 _, hWL.sw.keep hkM (fun e => hneL.1 e.symm) (fun j e e2 => hneL.2.2.2.1 (by rw [e, e2])) (fun e => hneL.2.1 e.symm) (fun e => hneL.2.2.1 e.symm), ?_, hneL.1, hneL.2.1, hneL.2.2.1, hneL.2.2.2.1, fun e => by have := hkn _ e; omega, fun e => by have := hkn _ e; omega, fun e => by have := hkn _ e; omega, fun j e e2 => ?_⟩, ?_, ?_⟩
                        · have e1 := HXS.out
                          rw [e1.1, e1.2] at hrowL
                          rw [e1.2] at hwM ⊢
                          rw [hwM]
                          exact owns_base (World.ownsRow.kept hrowL (grown_set (grown_refl wL (some pw)) 2 _) (.inr (fun e => by have h14 := World.ownsRow.lt hrowL pw e; omega))) (by omega)
                        · have := hkn j e
                          rcases hownL j e2 with e3 | e3
                          · have := h6.2.2.2.2.1 j e3; omega
                          · omega
                        · have hSRK := HU.out.2.1.below HKK.out.2
                          have hcs : ∀ j, (j = pw ∨ j = ps ∨ j = m ∨ v.ownBlock = some j) → j < wr.heap.size := by
                            rintro j (e | e | e | e)
                            · omega
                            · omega
                            · omega
                            · have := h6.2.2.2.2.1 j e; omega
                          have hI2 : BookI wM p m SL := (hWL.sw.keep hkM (fun e => hneL.1 e.symm) (fun j e e2 => hneL.2.2.2.1 (by rw [e, e2])) (fun e => hneL.2.1 e.symm) (fun e => hneL.2.2.1 e.symm)).bk
                          have hst : StB wM qc p wr.heap.size v5 l := ((hSRK.st.keptT hML.kept (fun e => by have := hcs qc e; omega) (fun j e e2 => by have := (World.ownsRow.lt hSRK.st.2 j e).1; have := hcs j e2; omega)).keptT hkM (fun e => by omega) (fun j e e2 => by have := (World.ownsRow.lt hSRK.st.2 j e).1; omega))
                          exact ⟨hst, hI2, hSRK.inv.ext hEL, hSRK.mb, by have := hML.kept.size; have := hkM.size; omega, hSRK.ne⟩
                        · have hg := HP.out.ge
                          have h20 := HBV.out.size
                          refine bel_kept (bel_kept (bl_nx HU.out.2.2.2.2 HKK.out.2) hML.kept ?_) hkM ?_
                          · rintro j (e | e | e | e)
                            · omega
                            · omega
                            · omega
                            · have := hg.2.2.2.1 j e; omega
                          · rintro j e; omega)
                      have HWM := Lib.hid hwM
                      have HSL : Hid (SL.length ≤ 90000000) := Lib.hid (by omega)
                      have HSTF := Lib.hid (stands_any wM pw qc ps p m wr.heap.size vL (.slice ak NK ck) v5 SL lL l imL im _ HMM.out.1 HMM.out.2.1 HSL.out rfl)
                      have hgm : Hid (w.heap.size ≤ m) := Lib.hid (by have := HP.out.ge.1; have := HBV.out.size; omega)
                      clear hWL hML hEL hSL hlL hwM HSTE z0 z1 z2 z3 o2
                      go_upto_region 19 with fail
                      rw [← HWM.out]
                      go_wp2_with fail
                      refine HSTF.out.mono ?_
                      rintro e wN ⟨rfl, hIN, hkN⟩
                      have HAW := Lib.hid (awake_in w wN (bel_kept HMM.out.2.2 hkN (fun k e => by injection e with e; rw [← e]; exact hgm.out)))
                      clear hIN hkN HSTF
                      go_wp2_with fail
                      refine HAW.out.mono ?_
                      rintro e wO ⟨rfl, hbO⟩
                      have HBO := Lib.hid hbO
                      clear hbO
                      go_wp2
                      go_ret
                      exact ⟨rfl, HBO.out⟩
                    exact AllReady.nil
                  exact AllReady.nil
                exact AllReady.nil
              exact AllReady.nil
            exact AllReady.nil
          exact AllReady.nil
        exact AllReady.nil
      refine AllReady.cons rfl (fun K hK => ?_) ?_
      ·
        have c0c := (hcur.cell (p := ⟨pw, 0, none⟩) hpl).trans c0
        go_simp
        refine hK _ _ ?_
        clear hK K c0c
        try simp only [Act.put, List.getElem_toArray, List.getElem_cons_succ, List.getElem_cons_zero, List.setIfInBounds_toArray, List.set_cons_zero, List.set_cons_succ]
        refine wpAny_ready (rs := [1]) (by kernel_rfl) (by simp) ?_
        refine AllReady.cons rfl (fun K hK => ?_) ?_
        ·
          go_simp
          go_wp2_with (first | (go_at_call_of 21 (ps2); refine (HGS.out _ hcur).mono ?_; rintro e wS ⟨aS, kS, rfl, hOS, hbS⟩; (try replace hOW := row_below hOW hbS); replace hcur := bl_nx hcur hbS; clear hbS))
          try (refine hK _ _ ?_)
          try clear hK K
          try simp only [Act.put, List.getElem_toArray, List.getElem_cons_succ, List.getElem_cons_zero, List.setIfInBounds_toArray, List.set_cons_zero, List.set_cons_succ]
          refine wpAny_ready (rs := [6]) (by kernel_rfl) (by simp) ?_
          refine AllReady.cons rfl (fun K hK => ?_) ?_
          ·
            go_simp
            go_wp2_with (first | (go_at_call_of 21 (ps); refine (HGW.out _ hcur).mono ?_; rintro e wW ⟨aW, kW, rfl, hOW, hbW⟩; (try replace hOS := row_below hOS hbW); replace hcur := bl_nx hcur hbW; clear hbW))
            try (refine hK _ _ ?_)
            try clear hK K
            try simp only [Act.put, List.getElem_toArray, List.getElem_cons_succ, List.getElem_cons_zero, List.setIfInBounds_toArray, List.set_cons_zero, List.set_cons_succ]
            refine wpAny_ready (rs := [7]) (by kernel_rfl) (by simp) ?_
            refine AllReady.cons rfl (fun K hK => ?_) ?_
            ·
              go_simp
              go_wp2_with (first | (go_at_call 28; refine (gens_eq _ aS aW _ kS kW (gsG l) hgl (RowG.rs hOS rfl) (RowG.rs hOW rfl)).mono ?_; rintro e wG ⟨rfl, hbG⟩; have hkc := Kept.of_below (fun k => some m = some k) (bl_nx hcur hbG); have hIc := HIW.out.next (bl_nx hcur hbG); clear hbG hcur hOS hOW))
              try (refine hK _ _ ?_)
              try clear hK K
              try simp only [Act.put, List.getElem_toArray, List.getElem_cons_succ, List.getElem_cons_zero, List.setIfInBounds_toArray, List.set_cons_zero, List.set_cons_succ]
              refine wpAny_take (i := 8) (v := ?_) rfl (by kernel_rfl) (by kernel_rfl) (by kernel_rfl) (fun _ _ _ h => h) (Or.inl ⟨by rfl, ?_⟩) ?_
              rotate_left
              · intro w; go_simp; first | done | with_reducible rfl
              try simp only [Act.put, List.getElem_toArray, List.getElem_cons_succ, List.getElem_cons_zero, List.setIfInBounds_toArray, List.set_cons_zero, List.set_cons_succ]
              refine wpAny_take (i := 9) (v := ?_) rfl (by kernel_rfl) (by kernel_rfl) (by kernel_rfl) (fun _ _ _ h => h) (Or.inl ⟨by rfl, ?_⟩) ?_
              rotate_left
              · intro w; go_simp; first | done | with_reducible rfl
              try simp only [Act.put, List.getElem_toArray, List.getElem_cons_succ, List.getElem_cons_zero, List.setIfInBounds_toArray, List.set_cons_zero, List.set_cons_succ]
              refine wpAny_take (i := 10) (v := ?_) rfl (by kernel_rfl) (by kernel_rfl) (by kernel_rfl) (fun _ _ _ h => h) (Or.inl ⟨by rfl, ?_⟩) ?_
              rotate_left
              · intro w; go_simp; first | done | with_reducible rfl
              try simp only [Act.put, List.getElem_toArray, List.getElem_cons_succ, List.getElem_cons_zero, List.setIfInBounds_toArray, List.set_cons_zero, List.set_cons_succ]
              refine wpAny_take (i := 11) (v := ?_) rfl (by kernel_rfl) (by kernel_rfl) (by kernel_rfl) (fun _ _ _ h => h) (Or.inl ⟨by rfl, ?_⟩) ?_
              rotate_left
              · intro w; go_simp; first | done | with_reducible rfl
              try simp only [Act.put, List.getElem_toArray, List.getElem_cons_succ, List.getElem_cons_zero, List.setIfInBounds_toArray, List.set_cons_zero, List.set_cons_succ]
              refine wpAny_ready (rs := [12]) (by kernel_rfl) (by simp) ?_
              refine AllReady.cons rfl (fun K hK => ?_) ?_
              ·
                go_simp
                go_wp2_with (first | (go_at_call 27; refine (HSTS.out _ hkc hIc).mono ?_; rintro e wT ⟨rfl, hIt, hkt⟩; replace hkc := hkc.trans hkt (fun _ _ h => h); replace hIc := hIt; clear hIt hkt))
                try (refine hK _ _ ?_)
                try clear hK K
                try simp only [Act.put, List.getElem_toArray, List.getElem_cons_succ, List.getElem_cons_zero, List.setIfInBounds_toArray, List.set_cons_zero, List.set_cons_succ]
                refine wpAny_take (i := 13) (v := ?_) rfl (by kernel_rfl) (by kernel_rfl) (by kernel_rfl) (fun _ _ _ h => h) (Or.inl ⟨by rfl, ?_⟩) ?_
                rotate_left
                · intro w; go_simp; first | done | with_reducible rfl
                try simp only [Act.put, List.getElem_toArray, List.getElem_cons_succ, List.getElem_cons_zero, List.setIfInBounds_toArray, List.set_cons_zero, List.set_cons_succ]
                refine wpAny_take (i := 14) (v := ?_) rfl (by kernel_rfl) (by kernel_rfl) (by kernel_rfl) (fun _ _ _ h => h) (Or.inl ⟨by rfl, ?_⟩) ?_
                rotate_left
                · intro w; go_simp; first | done | with_reducible rfl
                try simp only [Act.put, List.getElem_toArray, List.getElem_cons_succ, List.getElem_cons_zero, List.setIfInBounds_toArray, List.set_cons_zero, List.set_cons_succ]
                refine wpAny_take (i := 15) (v := ?_) rfl (by kernel_rfl) (by kernel_rfl) (by kernel_rfl) (fun _ _ _ h => h) (Or.inl ⟨by rfl, ?_⟩) ?_
                rotate_left
                · intro w; go_simp; first | done | with_reducible rfl
                try simp only [Act.put, List.getElem_toArray, List.getElem_cons_succ, List.getElem_cons_zero, List.setIfInBounds_toArray, List.set_cons_zero, List.set_cons_succ]
                refine wpAny_take (i := 16) (v := ?_) rfl (by kernel_rfl) (by kernel_rfl) (by kernel_rfl) (fun _ _ _ h => h) (Or.inl ⟨by rfl, ?_⟩) ?_
                rotate_left
                · intro w; go_simp; first | done | with_reducible rfl
                try simp only [Act.put, List.getElem_toArray, List.getElem_cons_succ, List.getElem_cons_zero, List.setIfInBounds_toArray, List.set_cons_zero, List.set_cons_succ]
                refine wpAny_take (i := 17) (v := ?_) rfl (by kernel_rfl) (by kernel_rfl) (by kernel_rfl) (fun _ _ _ h => h) (Or.inl ⟨by rfl, ?_⟩) ?_
                rotate_left
                · intro w; go_simp; first | done | with_reducible rfl
                try simp only [Act.put, List.getElem_toArray, List.getElem_cons_succ, List.getElem_cons_zero, List.setIfInBounds_toArray, List.set_cons_zero, List.set_cons_succ]
                refine wpAny_take (i := 18) (v := ?_) rfl (by kernel_rfl) (by kernel_rfl) (by kernel_rfl) (fun _ _ _ h => h) (Or.inl ⟨by rfl, ?_⟩) ?_
                rotate_left
                · intro w; go_simp; first | done | with_reducible rfl
                try simp only [Act.put, List.getElem_toArray, List.getElem_cons_succ, List.getElem_cons_zero, List.setIfInBounds_toArray, List.set_cons_zero, List.set_cons_succ]
                refine wpAny_take (i := 21) (v := ?_) rfl (by kernel_rfl) (by kernel_rfl) (by kernel_rfl) (fun _ _ _ h => h) (Or.inl ⟨by rfl, ?_⟩) ?_
                rotate_left
                · intro w; go_simp; first | done | with_reducible rfl
                try simp only [Act.put, List.getElem_toArray, List.getElem_cons_succ, List.getElem_cons_zero, List.setIfInBounds_toArray, List.set_cons_zero, List.set_cons_succ]
                refine wpAny_ready (rs := [19]) (by kernel_rfl) (by simp) ?_
                refine AllReady.cons rfl (fun K hK => ?_) ?_
                ·
                  have c0c := (hkc.cell (i := 0) hpl hpm).trans c0
                  go_simp
                  refine hK _ _ ?_
                  clear hK K c0c
                  try simp only [Act.put, List.getElem_toArray, List.getElem_cons_succ, List.getElem_cons_zero, List.setIfInBounds_toArray, List.set_cons_zero, List.set_cons_succ]
                  refine wpAny_ready (rs := [20]) (by kernel_rfl) (by simp) ?_
                  refine AllReady.cons rfl (fun K hK => ?_) ?_
                  ·
                    go_simp
                    go_wp2_with (first | (go_at_call 36; refine (HBYT.out _ hkc hIc).mono ?_; rintro e wB ⟨rfl, hbB⟩; replace hkc := kept_bel hkc hbB; replace hIc := hIc.next hbB; clear hbB))
                    try (refine hK _ _ ?_)
                    try clear hK K
                    try simp only [Act.put, List.getElem_toArray, List.getElem_cons_succ, List.getElem_cons_zero, List.setIfInBounds_toArray, List.set_cons_zero, List.set_cons_succ]
                    refine wpAny_take (i := 22) (v := ?_) rfl (by kernel_rfl) (by kernel_rfl) (by kernel_rfl) (fun _ _ _ h => h) (Or.inl ⟨by rfl, ?_⟩) ?_
                    rotate_left
                    · intro w; go_simp; first | done | with_reducible rfl
                    try simp only [Act.put, List.getElem_toArray, List.getElem_cons_succ, List.getElem_cons_zero, List.setIfInBounds_toArray, List.set_cons_zero, List.set_cons_succ]
                    refine wpAny_take (i := 23) (v := ?_) rfl (by kernel_rfl) (by kernel_rfl) (by kernel_rfl) (fun _ _ _ h => h) (Or.inl ⟨by rfl, ?_⟩) ?_
                    rotate_left
                    · intro w; go_simp; first | done | with_reducible rfl
                    try simp only [Act.put, List.getElem_toArray, List.getElem_cons_succ, List.getElem_cons_zero, List.setIfInBounds_toArray, List.set_cons_zero, List.set_cons_succ]
                    refine wpAny_take (i := 24) (v := ?_) rfl (by kernel_rfl) (by kernel_rfl) (by kernel_rfl) (fun _ _ _ h => h) (Or.inl ⟨by rfl, ?_⟩) ?_
                    rotate_left
                    · intro w; go_simp; first | done | with_reducible rfl
                    try simp only [Act.put, List.getElem_toArray, List.getElem_cons_succ, List.getElem_cons_zero, List.setIfInBounds_toArray, List.set_cons_zero, List.set_cons_succ]
                    refine wpAny_take (i := 25) (v := ?_) rfl (by kernel_rfl) (by kernel_rfl) (by kernel_rfl) (fun _ _ _ h => h) (Or.inl ⟨by rfl, ?_⟩) ?_
                    rotate_left
                    · intro w; go_simp; first | done | with_reducible rfl
                    try simp only [Act.put, List.getElem_toArray, List.getElem_cons_succ, List.getElem_cons_zero, List.setIfInBounds_toArray, List.set_cons_zero, List.set_cons_succ]
                    refine wpAny_take (i := 26) (v := ?_) rfl (by kernel_rfl) (by kernel_rfl) (by kernel_rfl) (fun _ _ _ h => h) (Or.inl ⟨by rfl, ?_⟩) ?_
                    rotate_left
                    · intro w; go_simp; first | done | with_reducible rfl
                    try simp only [Act.put, List.getElem_toArray, List.getElem_cons_succ, List.getElem_cons_zero, List.setIfInBounds_toArray, List.set_cons_zero, List.set_cons_succ]
                    refine wpAny_ready (rs := [27]) (by kernel_rfl) (by simp) ?_
                    refine AllReady.cons rfl (fun K hK => ?_) ?_
                    ·
                      go_simp
                      go_wp2_with (first | (go_at_call 27; refine (HSTC.out _ hkc hIc).mono ?_; rintro e wU ⟨rfl, hIu, hku⟩; replace hkc := hkc.trans hku (fun _ _ h => h); replace hIc := hIu; clear hIu hku))
                      try (refine hK _ _ ?_)
                      try clear hK K
                      try simp only [Act.put, List.getElem_toArray, List.getElem_cons_succ, List.getElem_cons_zero, List.setIfInBounds_toArray, List.set_cons_zero, List.set_cons_succ]
                      refine wpAny_take (i := 28) (v := ?_) rfl (by kernel_rfl) (by kernel_rfl) (by kernel_rfl) (fun _ _ _ h => h) (Or.inl ⟨by rfl, ?_⟩) ?_
                      rotate_left
                      · intro w; go_simp; first | done | with_reducible rfl
                      try simp only [Act.put, List.getElem_toArray, List.getElem_cons_succ, List.getElem_cons_zero, List.setIfInBounds_toArray, List.set_cons_zero, List.set_cons_succ]
                      refine wpAny_take (i := 29) (v := ?_) rfl (by kernel_rfl) (by kernel_rfl) (by kernel_rfl) (fun _ _ _ h => h) (Or.inl ⟨by rfl, ?_⟩) ?_
                      rotate_left
                      · intro w; go_simp; first | done | with_reducible rfl
                      try simp only [Act.put, List.getElem_toArray, List.getElem_cons_succ, List.getElem_cons_zero, List.setIfInBounds_toArray, List.set_cons_zero, List.set_cons_succ]
                      refine wpAny_done (by kernel_rfl) ?_ _
                      have HU : Hid (WW wU pw ps p m v vl S l im (modelK l im) ∧ SR wU qc p m wr.heap.size v5 S l im ∧ Blk wU q [.int .i64 ok, .int .i64 on, .int .i64 om, .string ot] 71 ∧ w5.heap.size ≤ wU.heap.size ∧ Below w.heap.size w wU) := Lib.hid (by
                        refine ⟨HW5.out.book hkc hIc (Ext.refl S), HC5.out.book hkc hIc (Ext.refl S), blkKept HG5.out hkc (fun e => by injection e with e; exact HQN.out.2.2.1 e.symm), hkc.size, ?_⟩
                        have h1 := HP.out.ge.1
                        have h2 := HP2.out
                        have h3 := HB1.out.size
                        have h4 := HBV.out.size
                        refine bel_kept (bel_kept HB3.out HK5.out ?_) hkc ?_
                        · rintro j (e | e) <;> omega
                        · intro j e; injection e with e; omega)
                      clear hkc hIc
                      have HRK := Lib.hid (Rs.cellsAt (size := 2) kp_len (by decide) (Rs.of_owns (ao := ao6) (cap := cp6) kp_len rfl (by have h := HU.out.1.row; rw [HVL.out] at h; exact h)))
                      have o2 := HU.out.1.ob.cell (i := 2) rfl
                      rw [HVL.out] at o2
                      obtain ⟨NK, hNK⟩ : ∃ NK, NK = (modelK l im).length := ⟨_, rfl⟩
                      have hNK2 : NK ≤ 20 := by rw [hNK, modelK_len]; omega
                      rw [← hNK] at HRK o2
                      have hnl : ((modelK l im).flatMap Kp.c).length = NK * 2 := by rw [hNK]; exact kpFlat_len _
                      have hk1 := kpFlat_one (modelK l im)
                      have hlitA : Below wU.heap.size wU (wU.alloc (Obj.cells #[] 112)) := below_alloc _ _
                      have hlit : (wU.alloc (Obj.cells #[] 112)).ownsRow wU.heap.size 112 2 (.slice (some ⟨wU.heap.size, 0, none⟩) 0 0) 0 [] := own_of_blk (cs := []) (Blk.new wU [] _) (Nat.le_refl _) (Nat.le_refl _) (Nat.zero_le _) rfl rfl rfl
                      have HLIT := Lib.hid (And.intro hlitA hlit)
                      replace o2 := (hlitA.cell (p := ⟨pw, 2, none⟩) HU.out.1.ob.lt).trans o2
                      obtain ⟨xs, hxs⟩ : ∃ xs, xs = (modelK l im).flatMap Kp.c := ⟨_, rfl⟩
                      rw [← hxs] at HRK hnl hk1
                      have HXS := Lib.hid (And.intro hxs hNK)
                      have HCL : Hid (0 < NK → ∃ ad, ao6 = some ad ∧ ∀ j u, xs[j]? = some u → (wU.alloc (Obj.cells #[] 112)).cell? (ad.add j) = some u) := Lib.hid (fun h0 => by
                        obtain ⟨ad, e, hc⟩ := HRK.out h0
                        refine ⟨ad, e, fun j u hu => ?_⟩
                        have h1 := hc j u hu
                        exact (HLIT.out.1.cell (World.block_lt_of_cell? _ _ h1)).trans h1)
                      clear hxs hNK hlit hlitA
                      go_wp2_with (at_builtin; refine wpList_append_rows rfl _ _ 26 rfl wU.heap.size 112 i1 (.agg #[.int .i64 0, .string ByteArray.empty]) 2 24 Tryz.underlying26 hj hy0 hy1 hy2 rfl (by decide) _ 0 [] rfl HLIT.out.2 ao6 NK cp6 xs rfl hnl HCL.out hk1 (by unfold maxLen; omega) (by omega) (by simp) ?_)
                      intro vk wK hOK hgK hvK
                      have HKK : Hid (wK.ownsRow wU.heap.size 112 2 vk NK xs ∧ Below wU.heap.size wU wK) := Lib.hid ⟨by simpa using hOK, HLIT.out.1.grown hgK (by simp) (by intro j hj; simp [Value.ownBlock] at hj; omega)⟩
                      clear hOK hgK hvK HCL
                      obtain ⟨ak, ck, rfl⟩ := owns_slice HKK.out.1
                      have HWK := Lib.hid (HU.out.1.below HKK.out.2)
                      have HGK := Lib.hid (HU.out.2.2.1.below HKK.out.2 HU.out.2.2.1.lt)
                      have z0 := HGK.out.cell (i := 0) rfl
                      have z1 := HGK.out.cell (i := 1) rfl
                      have z2 := HGK.out.cell (i := 2) rfl
                      have z3 := HGK.out.cell (i := 3) rfl
                      have HSTE := Lib.hid (step_any wK pw ps p m v _ S l im HWK.out (by omega) (by omega) ok on om HON.out.1 HON.out.2.1 ot HON.out.2.2)
                      go_wp2_with fail
                      refine HSTE.out.mono ?_
                      rintro e wL ⟨rfl, vL, vlL, SL, lL, imL, hWL, hML, hEL, hSL, hlL⟩
                      have f2 := hWL.ob.frozen 2
                      have g2 := hWL.ob.cell (i := 2) rfl
                      obtain ⟨wM, hwM⟩ : ∃ wM, wM = wL.setCell ⟨pw, 2, none⟩ (.slice ak NK ck) := ⟨_, rfl⟩
                      have HMM : Hid (WW wM pw ps p m vL (.slice ak NK ck) SL lL imL (modelK l im) ∧ SR wM qc p m wr.heap.size v5 SL l im ∧ Below w.heap.size w wM) := Lib.hid (by
                        have h6 := HLT.out
                        have h7 := HP2.out
                        have h8 := H12.out
                        have h9 := H23.out
                        have h10 := HQC.out
                        have h11 := HU.out.2.2.2.1
                        have h12 := HKK.out.2.size
                        have hkn : ∀ j, (Value.slice ak NK ck).ownBlock = some j → wU.heap.size ≤ j ∧ j < wK.heap.size := fun j e => World.ownsRow.lt HKK.out.1 j e
                        have hne := HW3.out.ne
                        have hrowL : wL.ownsRow wU.heap.size 112 2 (.slice ak NK ck) NK xs := by
                          refine owns_block HKK.out.1 (fun j e => ?_)
                          have h5 := hkn j e
                          refine hML.kept.block j h5.2 ?_
                          rintro (e2 | e2 | e2 | e2)
                          · omega
                          · omega
                          · omega
                          · have := h6.2.2.2.2.1 j e2; omega
                        have hkM : Kept (fun k => k = pw) wL wM := by rw [hwM]; exact (Kept.refl (fun k => k = pw) wL).set rfl 2 _
                        have hneL := hWL.ne
                        have hownL := hML.own
                        refine ⟨⟨by rw [hwM]; exact hWL.ob.set 2 _, hWL.sw.keep hkM (fun e => hneL.1 e.symm) (fun j e e2 => hneL.2.2.2.1 (by rw [e, e2])) (fun e => hneL.2.1 e.symm) (fun e => hneL.2.2.1 e.symm), ?_, hneL.1, hneL.2.1, hneL.2.2.1, hneL.2.2.2.1, fun e => by have := hkn _ e; omega, fun e => by have := hkn _ e; omega, fun e => by have := hkn _ e; omega, fun j e e2 => ?_⟩, ?_, ?_⟩
                        · have e1 := HXS.out
                          rw [e1.1, e1.2] at hrowL
                          rw [e1.2] at hwM ⊢
                          rw [hwM]
                          exact owns_base (World.ownsRow.kept hrowL (grown_set (grown_refl wL (some pw)) 2 _) (.inr (fun e => by have h14 := World.ownsRow.lt hrowL pw e; omega))) (by omega)
                        · have := hkn j e
                          rcases hownL j e2 with e3 | e3
                          · have := h6.2.2.2.2.1 j e3; omega
                          · omega
                        · have hSRK := HU.out.2.1.below HKK.out.2
                          have hcs : ∀ j, (j = pw ∨ j = ps ∨ j = m ∨ v.ownBlock = some j) → j < wr.heap.size := by
                            rintro j (e | e | e | e)
                            · omega
                            · omega
                            · omega
                            · have := h6.2.2.2.2.1 j e; omega
                          have hI2 : BookI wM p m SL := (hWL.sw.keep hkM (fun e => hneL.1 e.symm) (fun j e e2 => hneL.2.2.2.1 (by rw [e, e2])) (fun e => hneL.2.1 e.symm) (fun e => hneL.2.2.1 e.symm)).bk
                          have hst : StB wM qc p wr.heap.size v5 l := ((hSRK.st.keptT hML.kept (fun e => by have := hcs qc e; omega) (fun j e e2 => by have := (World.ownsRow.lt hSRK.st.2 j e).1; have := hcs j e2; omega)).keptT hkM (fun e => by omega) (fun j e e2 => by have := (World.ownsRow.lt hSRK.st.2 j e).1; omega))
                          exact ⟨hst, hI2, hSRK.inv.ext hEL, hSRK.mb, by have := hML.kept.size; have := hkM.size; omega, hSRK.ne⟩
                        · have hg := HP.out.ge
                          have h20 := HBV.out.size
                          refine bel_kept (bel_kept (bl_nx HU.out.2.2.2.2 HKK.out.2) hML.kept ?_) hkM ?_
                          · rintro j (e | e | e | e)
                            · omega
                            · omega
                            · omega
                            · have := hg.2.2.2.1 j e; omega
                          · rintro j e; omega)
                      have HWM := Lib.hid hwM
                      have HSL : Hid (SL.length ≤ 90000000) := Lib.hid (by omega)
                      have HSTF := Lib.hid (stands_any wM pw qc ps p m wr.heap.size vL (.slice ak NK ck) v5 SL lL l imL im _ HMM.out.1 HMM.out.2.1 HSL.out rfl)
                      have hgm : Hid (w.heap.size ≤ m) := Lib.hid (by have := HP.out.ge.1; have := HBV.out.size; omega)
                      clear hWL hML hEL hSL hlL hwM HSTE z0 z1 z2 z3 o2
                      go_upto_region 19 with fail
                      rw [← HWM.out]
                      go_wp2_with fail
                      refine HSTF.out.mono ?_
                      rintro e wN ⟨rfl, hIN, hkN⟩
                      have HAW := Lib.hid (awake_in w wN (bel_kept HMM.out.2.2 hkN (fun k e => by injection e with e; rw [← e]; exact hgm.out)))
                      clear hIN hkN HSTF
                      go_wp2_with fail
                      refine HAW.out.mono ?_
                      rintro e wO ⟨rfl, hbO⟩
                      have HBO := Lib.hid hbO
                      clear hbO
                      go_wp2
                      go_ret
                      exact ⟨rfl, HBO.out⟩
                    exact AllReady.nil
                  exact AllReady.nil
                exact AllReady.nil
              exact AllReady.nil
            exact AllReady.nil
          exact AllReady.nil
        exact AllReady.nil
      exact AllReady.nil
end Go.Proofs.YtgkcnocfijckoaaGreat
