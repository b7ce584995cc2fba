/- The law's world: step, all other kinds. Conditions: as named in each theorem. -/
import Derived.Test.YtgkcnocfijckoaaGreatSI
import Derived.Test.YtgkcnocfijckoaaGreatSH
namespace Go.Proofs.YtgkcnocfijckoaaGreat
open Go.RowKit Sg
set_option linter.unusedVariables false
set_option linter.unusedSimpArgs false
set_option maxRecDepth 100000 in
set_option maxHeartbeats 16000000 in
theorem stepR_any (w : World) (pw ps p m : Nat) (v vl : Value) (S : Bk) (l : List Gn) (im : Int → ByteArray) (h : WW w pw ps p m v vl S l im (modelK l im)) (hS : S.length ≤ 70000000) (hl : l.length < 4000) (kd n mm : Int) (wn : (Lit.int .i64 n).wf = true) (wm : (Lit.int .i64 mm).wf = true) (t : ByteArray) (ht : t.size ≤ maxLen) (hk : kd ≠ 0 ∧ kd ≠ 1 ∧ kd ≠ 2 ∧ kd ≠ 3) :
    Calls Tryz.prog 31 #[.pointer (some ⟨pw, 0, none⟩), .agg #[.int .i64 kd, .int .i64 n, .int .i64 mm, .string t]] w fun e w' => e = .returned (.bool true) ∧ STP w pw ps p m v vl S l w' := by
  obtain ⟨V, hV⟩ : ∃ V, V = w.alloc (Obj.cells #[.int .i64 kd, .int .i64 n, .int .i64 mm, .string t] 71) := ⟨_, rfl⟩
  obtain ⟨q, hq⟩ : ∃ q, q = w.heap.size := ⟨_, rfl⟩
  have hG : Blk V q [.int .i64 kd, .int .i64 n, .int .i64 mm, .string t] 71 := by rw [hV, hq]; exact Blk.new _ _ _
  have hbV : Below w.heap.size w V := by rw [hV]; exact below_alloc _ _
  have HV := Lib.hid (And.intro hV hq)
  have HG := Lib.hid hG
  have HW := Lib.hid (h.below hbV)
  have HB := Lib.hid hbV
  have HCU := Lib.hid (cut_any V t ht)
  obtain ⟨s, hs⟩ : ∃ s, s = cut6 t := ⟨_, rfl⟩
  have hss : s.size ≤ 600 := by rw [hs]; exact cut6_size t
  rw [← hs] at HCU
  have q0 := hG.cell (i := 0) rfl
  have q1 := hG.cell (i := 1) rfl
  have q2 := hG.cell (i := 2) rfl
  have q3 := hG.cell (i := 3) rfl
  have hqw : w.heap.size ≤ q := by omega
  have HNE : Hid (q ≠ pw ∧ q ≠ ps ∧ q ≠ p ∧ q ≠ m ∧ (∀ k, v.ownBlock = some k → k ≠ q) ∧ (∀ k, vl.ownBlock = some k → k ≠ q)) := Lib.hid (by
    have h1 := h.ob.lt
    have h2 := h.sw.st.lt
    have h3 := h.sw.bk.2.2.2.2.1
    refine ⟨by omega, by omega, by omega, by omega, fun k e => ?_, fun k e => ?_⟩
    · have := h.sw.own e; omega
    · have := (World.ownsRow.lt h.row k e).2; omega)
  obtain ⟨P, hP⟩ : ∃ P : World → Prop, P = STP w pw ps p m v vl S l := ⟨_, rfl⟩
  rw [← hP]
  have HP := Lib.hid hP
  have HKD := Lib.hid hk
  clear hV hq hG hbV h hs hP hqw hk
  go_enter Tryz.func31, Tryz.ntmps31
  go_upto_region 1 with fail
  rw [← HV.out.1, ← HV.out.2]
  go_wp2_with fail
  refine HCU.out.mono ?_
  rintro e w1 ⟨rfl, rfl⟩
  have o0 := HW.out.ob.cell (i := 0) rfl
  have z0 : (kd == 0) = false := by simpa using HKD.out.1
  have z1 : (kd == 1) = false := by simpa using HKD.out.2.1
  have z2 : (kd == 2) = false := by simpa using HKD.out.2.2.1
  have z3 : (kd == 3) = false := by simpa using HKD.out.2.2.2
  have HRB : Hid (Calls Tryz.prog 34 #[.pointer (some ⟨ps, 0, none⟩), .int .i64 n] V.drew fun e w' => ∃ a c, e = .returned (.tuple #[.slice a (rebR S im n l).length c, .int .i64 0]) ∧ Hid (RowS w' V.heap.size (.slice a (rebR S im n l).length c) (rebR S im n l) ∧ BookI w' p m S) ∧ Kept (fun k => some m = some k) V.drew w') := Lib.hid (by
    have hsw := HW.out.sw.below (bl_drew (Below.refl _ V))
    refine (stRebase_any V.drew ps p m (ps + 1) v S l im hsw.st hsw.bk hsw.inv (by omega) (by have := hsw.lt.2; omega) hsw.psl (by have := hsw.lt.2; omega) n wn).mono ?_
    rintro e w' ⟨v', rfl, h1, h2, h3⟩
    obtain ⟨a, c, rfl⟩ := owns_slice h1
    exact ⟨a, c, rfl, Lib.hid ⟨h1, h2⟩, h3⟩)
  have HLT : Hid (pw < V.heap.size ∧ q < V.heap.size ∧ ¬ some m = some pw ∧ ¬ some m = some q) := Lib.hid ⟨HW.out.ob.lt, HG.out.lt, fun e => by injection e with e; exact HW.out.ne.2.2.1 e.symm, fun e => by injection e with e; exact HNE.out.2.2.2.1 e.symm⟩
  obtain ⟨N, hN⟩ : ∃ N, N = (rebR S im n l).length := ⟨_, rfl⟩
  have hNl : N ≤ l.length := by rw [hN]; exact rebR_len S im n l
  rw [← hN] at HRB
  have HN := Lib.hid hN
  clear hN
  go_upto_region 3 with fail
  go_region_held3 (fun w' => w'.cell? ⟨pw, 0, none⟩ = some (.pointer (some ⟨ps, 0, none⟩)) ∧ w'.cell? ⟨q, 1, none⟩ = some (.int .i64 n))
    (first | exact ⟨o0, q1⟩)
    (first | (go_at_call 34; refine HRB.out.mono ?_; rintro e w2 ⟨a2, c2, rfl, HX, hk2⟩; replace o0 := (hk2.cell (i := 0) (by exact HLT.out.1) HLT.out.2.2.1).trans o0; replace q1 := (hk2.cell (i := 1) (by exact HLT.out.2.1) HLT.out.2.2.2).trans q1))
  all_goals
    have hk12 : Kept (fun k => some m = some k) V w2 := (Kept.of_below (fun k => some m = some k) (bl_drew (Below.refl _ V))).trans hk2 (fun _ _ h => h)
    have HW2 := Lib.hid (HW.out.book hk12 HX.out.2 (Ext.refl S))
    have HG2 := Lib.hid (blkKept HG.out hk12 HLT.out.2.2.2)
    have HM2 := Lib.hid ((Moves.of_below (pw := pw) (ps := ps) (m := m) (v := v) (vl := vl) HB.out).trans (Moves.of_book hk12))
    have HVW : Hid (V.heap.size ≤ w2.heap.size) := Lib.hid hk12.size
    have HRW : Hid (RowS w2 V.heap.size (.slice a2 N c2) (rebR S im n l)) := Lib.hid HX.out.1
    clear hk12 hk2 o0 q0 q1 q2 q3 HRB
    have q1 := HG2.out.cell (i := 1) rfl
    have HF0 : Hid (P w2) := Lib.hid (by
      rw [HP.out]
      exact ⟨v, vl, S, l, im, HW2.out, HM2.out, Ext.refl S, by omega, Nat.le_succ _⟩)
    by_cases h0 : n < 0
    · have d0 : decide (n < 0) = true := decide_eq_true h0
      clear h0
      go_wp2
      go_ret
      exact ⟨rfl, HF0.out⟩
    have d0 : decide (n < 0) = false := decide_eq_false h0
    by_cases h1 : 1000 < n
    · have d1 : decide (1000 < n) = true := decide_eq_true h1
      clear h0 h1
      go_wp2
      go_ret
      exact ⟨rfl, HF0.out⟩
    have d1 : decide (1000 < n) = false := decide_eq_false h1
    have HNB : Hid (0 ≤ n ∧ n ≤ 1000) := Lib.hid ⟨by omega, by omega⟩
    clear h0 h1
    go_wp2_with fail
    go_loopw [17] (fun i wr => ∃ (k : Nat) (v' : Value) (l' : List Gn), i = .int .i64 k ∧ k ≤ N ∧ Hid (WW wr pw ps p m v' vl S l' im (modelK l im)) ∧ Hid (Moves w2 wr pw ps m v v' vl vl) ∧ Hid (RbI l n k l')) (fun i _ => N - (intOf i).toNat)
    case atStart => exact ⟨0, v, l, by go_num, Nat.zero_le _, HW2, Lib.hid (Moves.of_below (Below.refl _ _)), Lib.hid (RbI.start l n)⟩
    case round =>
      obtain ⟨k, v', l', rfl, hk, hWr, hMr, hRb⟩ := hrel
      have hll' : l'.length = l.length := by have := congrArg List.length hRb.out.gens; simpa using this
      have hqk : ∀ k, (k = pw ∨ k = ps ∨ k = m ∨ v.ownBlock = some k) → k ≠ q := by
        rintro k (e | e | e | e)
        · rw [e]; exact fun e => HNE.out.1 e.symm
        · rw [e]; exact fun e => HNE.out.2.1 e.symm
        · rw [e]; exact fun e => HNE.out.2.2.2.1 e.symm
        · exact HNE.out.2.2.2.2.1 k e
      have hGr := blkKept HG2.out hMr.out.kept (fun e => hqk q e rfl)
      have HGr := Lib.hid hGr
      have o0 := hWr.out.ob.cell (i := 0) rfl
      by_cases hlt : k < N
      case pos =>
        obtain ⟨R, hR⟩ : ∃ R, (rebR S im n l)[k]? = some R := ⟨_, List.getElem?_eq_getElem (by rw [← HN.out]; exact hlt)⟩
        obtain ⟨g, hg, hRe⟩ := reb_at hR
        obtain ⟨hdo, hRs⟩ := reb_do hRb.out hWr.out.sw.inv HW.out.sw.inv hg
        rw [← hRe] at hdo hRs
        have hRows : RowS wr V.heap.size (.slice a2 N c2) (rebR S im n l) := by
          refine owns_block HRW.out (fun j e => ?_)
          have h5 := World.ownsRow.lt HRW.out j e
          refine hMr.out.kept.block j h5.2 ?_
          have h6 := HW.out.ob.lt
          have h7 := HW.out.sw.st.lt
          have h8 := HW.out.sw.bk.2.2.2.2.1.2
          rintro (e2 | e2 | e2 | e2)
          · omega
          · omega
          · omega
          · have := HW.out.sw.own e2; omega
        obtain ⟨b, off, rfl, hb, hc⟩ := (RowS.rs hRows HN.out.symm).2.2.2 (by omega)
        have x0 : wr.cell? ⟨b, off + k, none⟩ = some (.string R) := by
          have h5 := hc k (List.getElem?_eq_some_iff.1 hR).1 0 (.string R) (by
            obtain ⟨h6, h7⟩ := List.getElem?_eq_some_iff.1 hR
            rw [h7]; rfl)
          simpa using h5
        have hbV := (World.ownsRow.lt hRows b rfl).1
        have HSD := Lib.hid ((hWr.out.sw.below (bl_drew (Below.refl _ wr))).doW_ (by omega) (by omega) R (by omega) (by rw [hRe]; exact recW_head _ _ _))
        have HDO := Lib.hid hdo
        have HSTP := Lib.hid (hRb.out.step (mk := mkI S (im g.gen)) (tx := im g.gen) hWr.out.sw.inv.up hg)
        have hTb : ∀ k, TouchS ps m v' k → k ≠ pw ∧ k ≠ q ∧ k ≠ b := by
          have h6 := HW.out.ob.lt
          have h7 := HW.out.sw.st.lt
          have h8 := HW.out.sw.bk.2.2.2.2.1.2
          have hne := hWr.out.ne
          have hqV := HG.out.lt
          have hb2 := (World.ownsRow.lt HRW.out b rfl).2
          rintro j (e | e | e)
          · exact ⟨by rw [e]; exact fun e => hne.1 e.symm, by rw [e]; exact fun e => HNE.out.2.1 e.symm, by omega⟩
          · exact ⟨by rw [e]; exact fun e => hne.2.2.1 e.symm, by rw [e]; exact fun e => HNE.out.2.2.2.1 e.symm, by omega⟩
          · refine ⟨fun e2 => hne.2.2.2.1 (by rw [← e2]; exact e), fun e2 => ?_, fun e2 => ?_⟩
            · rcases hMr.out.own j e with h9 | h9
              · exact HNE.out.2.2.2.2.1 j h9 e2
              · have := HVW.out; omega
            · rcases hMr.out.own j e with h9 | h9
              · have := HW.out.sw.own h9; omega
              · omega
        have HTB := Lib.hid hTb
        have HLr : Hid (pw < wr.heap.size ∧ q < wr.heap.size ∧ b < wr.heap.size) := Lib.hid ⟨hWr.out.ob.lt, hGr.lt, hb⟩
        have j0 : (0 : Int) ≤ (k : Int) := by omega
        have jk : (k : Int) < (N : Int) := by omega
        clear hR hg hRe hdo hRs hRows hc hb hbV hTb hGr hqk
        go_upto_region 9 with fail
        go_region_held3 (fun w' => w'.cell? ⟨pw, 0, none⟩ = some (.pointer (some ⟨ps, 0, none⟩)) ∧ w'.cell? ⟨b, off + k, none⟩ = some (.string R))
          (first | exact ⟨o0, x0⟩)
          (first | (go_at_call 13; refine HSD.out.mono ?_; rintro e w5 ⟨x5, v5, S5, l5, im5, rfl, hD5⟩; replace o0 := (hD5.kept.cell (i := 0) (by exact HLr.out.1) (fun e => (HTB.out _ e).1 rfl)).trans o0; replace x0 := (hD5.kept.cell (i := off + k) (by exact HLr.out.2.2) (fun e => (HTB.out _ e).2.2 rfl)).trans x0))
        all_goals
          have heq := hD5.eq
          rw [HDO.out] at heq
          obtain ⟨b1, b2⟩ := (hWr.out.below (bl_drew (Below.refl _ wr))).done hD5
          obtain rfl : x5 = 0 := (congrArg Prod.fst heq).symm
          have e2 : l5 = setN l' ⟨g.gen, g.gen, mkI S (im g.gen), im g.gen⟩ := (congrArg (fun z : DoT => z.2.1) heq).symm
          have e3 : im5 = im := (congrArg (fun z : DoT => z.2.2.1) heq).symm
          have e4 : S5 = S := (congrArg (fun z : DoT => z.2.2.2) heq).symm
          have HF : Hid (WW w5 pw ps p m v5 vl S l5 im (modelK l im) ∧ Moves w2 w5 pw ps m v v5 vl vl ∧ RbI l n (k + 1) l5) := Lib.hid (by
            subst e2 e3 e4
            exact ⟨b1, (hMr.out.trans (Moves.of_below (bl_drew (Below.refl _ wr)))).trans b2, HSTP.out⟩)
          clear heq b1 b2 e2 e3 e4 hD5 o0 x0 HSD HDO HSTP
          go_wp2
          go_roundw
          case rel => exact ⟨k + 1, v5, l5, by go_num, by omega, Lib.hid HF.out.1, Lib.hid HF.out.2.1, Lib.hid HF.out.2.2⟩
          case measure => simp [intOf]; omega
      case neg =>
        have jk : ¬ (k : Int) < (N : Int) := by omega
        have hst := hRb.out.stop (k := k) hWr.out.sw.inv (by have h5 := HN.out; unfold rebR at h5; rw [List.length_map] at h5; omega) 4611686018427387903
        have hWr2 : WW wr pw ps p m v' vl S l' im (modelK l' im) := by rw [model_gens hRb.out.gens]; exact hWr.out
        obtain ⟨lf, hlf⟩ : ∃ lf, lf = l'.filter (fun g => staysN n 4611686018427387903 g.gen) := ⟨_, rfl⟩
        have HLF : Hid (∀ x ∈ modelK lf im, n ≤ x.gen) := Lib.hid (by
          intro x hx
          unfold modelK at hx
          obtain ⟨g, hg, rfl⟩ := List.mem_map.1 hx
          rw [hlf] at hg
          have := (List.mem_filter.1 hg).2
          unfold staysN at this
          rw [Bool.and_eq_true, decide_eq_true_iff] at this
          exact this.1)
        obtain ⟨NF, hNF⟩ : ∃ NF, NF = (modelK lf im).length := ⟨_, rfl⟩
        have HNF := Lib.hid hNF
        have HGO : Hid (Calls Tryz.prog 66 #[.pointer (some ⟨pw, 0, none⟩), .int .i64 n, .int .i64 4611686018427387903] wr.drew fun e w' => e = .returned (.bool true) ∧ ∃ v6 a6 c6, Hid (WW w' pw ps p m v6 (.slice a6 NF c6) S lf im (modelK lf im) ∧ Moves wr.drew w' pw ps m v' v6 vl (.slice a6 NF c6))) := Lib.hid (by
          refine (wGone_any wr.drew pw ps p m v' vl S l' im (hWr2.below (bl_drew (Below.refl _ wr))) (by omega) (by omega) n 4611686018427387903 wn (by decide)).mono ?_
          rintro e w' ⟨rfl, v6, vl6, l6, h1, h2, h3, h4⟩
          have h5 := h4 ⟨HNB.out.1, by have := HNB.out.2; omega, Int.le_refl _⟩ hst
          rw [← hlf] at h5
          subst h5
          obtain ⟨a6, c6, rfl⟩ := owns_slice h1.row
          rw [hNF]
          exact ⟨rfl, v6, a6, c6, Lib.hid ⟨h1, h2⟩⟩)
        have HLL : Hid (lf.length ≤ l.length) := Lib.hid (by rw [hlf]; have := List.length_filter_le (fun g : Gn => staysN n 4611686018427387903 g.gen) l'; omega)
        have q1r := hGr.cell (i := 1) rfl
        have HFF : Hid (∀ w6 v6 a6 c6, WW w6 pw ps p m v6 (.slice a6 NF c6) S lf im (modelK lf im) → Moves wr.drew w6 pw ps m v' v6 vl (.slice a6 NF c6) → P w6 ∧ w6.cell? ⟨pw, 2, none⟩ = some (.slice a6 NF c6) ∧ w6.cell? ⟨q, 1, none⟩ = some (.int .i64 n) ∧ (0 < NF → ∃ b off x, a6 = some ⟨b, off, none⟩ ∧ w6.cell? ⟨b, off, none⟩ = some (.int .i64 x) ∧ n ≤ x)) := Lib.hid (by
          intro w6 v6 a6 c6 h1 h2
          refine ⟨?_, h1.ob.cell (i := 2) rfl, ?_, fun h0 => ?_⟩
          · rw [HP.out]
            exact ⟨v6, _, S, lf, im, h1, ((HM2.out.trans hMr.out).trans (Moves.of_below (bl_drew (Below.refl _ wr)))).trans h2, Ext.refl S, by omega, by have := HLL.out; omega⟩
          · refine (blkKept (hGr.below (bl_drew (Below.refl _ wr)) hGr.lt) h2.kept ?_).cell (i := 1) rfl
            rintro (e | e | e | e)
            · exact HNE.out.1 e
            · exact HNE.out.2.1 e
            · exact HNE.out.2.2.2.1 e
            · rcases hMr.out.own q e with h9 | h9
              · exact HNE.out.2.2.2.2.1 q h9 rfl
              · have := HG2.out.lt; omega
          · obtain ⟨x, hx⟩ : ∃ x, (modelK lf im)[0]? = some x := ⟨_, List.getElem?_eq_getElem (by rw [← hNF]; exact h0)⟩
            obtain ⟨b, off, e, hb, hc⟩ := rs_kp (h1.rs hNF.symm) h0
            refine ⟨b, off, x.gen, e, by simpa using (hc 0 x hx).1, HLF.out x (List.mem_of_getElem? hx)⟩)
        clear hlf hNF hst hWr2 hqk hGr
        by_cases h0 : NF = 0
        case pos =>
          subst h0
          go_upto_region 11 with fail
          refine wp_region_any (by kernel_rfl) ?_
          change wpAny _ _ _ _ _ _ _ (World.drew _)
          refine wpAny_take (i := 0) (v := ?_) rfl (by kernel_rfl) (by kernel_rfl) (by kernel_rfl) (fun _ _ _ h => h) (Or.inl ⟨by rfl, ?_⟩) ?_
          rotate_left
          · intro w; go_simp; first | done | with_reducible rfl
          try simp only [Act.put, List.getElem_toArray, List.getElem_cons_succ, List.getElem_cons_zero, List.setIfInBounds_toArray, List.set_cons_zero, List.set_cons_succ]
          refine wpAny_take (i := 1) (v := ?_) rfl (by kernel_rfl) (by kernel_rfl) (by kernel_rfl) (fun _ _ _ h => h) (Or.inl ⟨by rfl, ?_⟩) ?_
          rotate_left
          · intro w; go_simp; first | done | with_reducible rfl
          try simp only [Act.put, List.getElem_toArray, List.getElem_cons_succ, List.getElem_cons_zero, List.setIfInBounds_toArray, List.set_cons_zero, List.set_cons_succ]
          refine wpAny_ready (rs := [2]) (by kernel_rfl) (by simp) ?_
          refine AllReady.cons rfl (fun K hK => ?_) ?_
          ·
            go_simp
            refine hK _ _ ?_
            clear hK K
            try simp only [Act.put, List.getElem_toArray, List.getElem_cons_succ, List.getElem_cons_zero, List.setIfInBounds_toArray, List.set_cons_zero, List.set_cons_succ]
            refine wpAny_ready (rs := [3]) (by kernel_rfl) (by simp) ?_
            refine AllReady.cons rfl (fun K hK => ?_) ?_
            ·
              go_simp
              go_wp2_with (first | (go_at_call 66; refine HGO.out.mono ?_; rintro e w6 ⟨rfl, v6, a6, c6, HX6⟩; obtain ⟨hF6, c2, q16, hx6⟩ := HFF.out w6 v6 a6 c6 HX6.out.1 HX6.out.2; have HF6 := Lib.hid hF6; clear hF6))
              try (refine hK _ _ ?_)
              try clear hK K
              try simp only [Act.put, List.getElem_toArray, List.getElem_cons_succ, List.getElem_cons_zero, List.setIfInBounds_toArray, List.set_cons_zero, List.set_cons_succ]
              refine wpAny_take (i := 4) (v := ?_) rfl (by kernel_rfl) (by kernel_rfl) (by kernel_rfl) (fun _ _ _ h => h) (Or.inl ⟨by rfl, ?_⟩) ?_
              rotate_left
              · intro w; go_simp; first | done | with_reducible rfl
              try simp only [Act.put, List.getElem_toArray, List.getElem_cons_succ, List.getElem_cons_zero, List.setIfInBounds_toArray, List.set_cons_zero, List.set_cons_succ]
              refine wpAny_take (i := 5) (v := ?_) rfl (by kernel_rfl) (by kernel_rfl) (by kernel_rfl) (fun _ _ _ h => h) (Or.inl ⟨by rfl, ?_⟩) ?_
              rotate_left
              · intro w; go_simp; first | done | with_reducible rfl
              try simp only [Act.put, List.getElem_toArray, List.getElem_cons_succ, List.getElem_cons_zero, List.setIfInBounds_toArray, List.set_cons_zero, List.set_cons_succ]
              refine wpAny_take (i := 6) (v := ?_) rfl (by kernel_rfl) (by kernel_rfl) (by kernel_rfl) (fun _ _ _ h => h) (Or.inl ⟨by rfl, ?_⟩) ?_
              rotate_left
              · intro w; go_simp; first | done | with_reducible rfl
              try simp only [Act.put, List.getElem_toArray, List.getElem_cons_succ, List.getElem_cons_zero, List.setIfInBounds_toArray, List.set_cons_zero, List.set_cons_succ]
              refine wpAny_take (i := 7) (v := ?_) rfl (by kernel_rfl) (by kernel_rfl) (by kernel_rfl) (fun _ _ _ h => h) (Or.inl ⟨by rfl, ?_⟩) ?_
              rotate_left
              · intro w; go_simp; first | done | with_reducible rfl
              try simp only [Act.put, List.getElem_toArray, List.getElem_cons_succ, List.getElem_cons_zero, List.setIfInBounds_toArray, List.set_cons_zero, List.set_cons_succ]
              refine wpAny_ready (rs := [8]) (by kernel_rfl) (by simp) ?_
              refine AllReady.cons rfl (fun K hK => ?_) ?_
              ·
                go_simp
                refine hK _ _ ?_
                clear hK K
                try simp only [Act.put, List.getElem_toArray, List.getElem_cons_succ, List.getElem_cons_zero, List.setIfInBounds_toArray, List.set_cons_zero, List.set_cons_succ]
                refine wpAny_take (i := 9) (v := ?_) rfl (by kernel_rfl) (by kernel_rfl) (by kernel_rfl) (fun _ _ _ h => h) (Or.inl ⟨by rfl, ?_⟩) ?_
                rotate_left
                · intro w; go_simp; first | done | with_reducible rfl
                try simp only [Act.put, List.getElem_toArray, List.getElem_cons_succ, List.getElem_cons_zero, List.setIfInBounds_toArray, List.set_cons_zero, List.set_cons_succ]
                refine wpAny_take (i := 10) (v := ?_) rfl (by kernel_rfl) (by kernel_rfl) (by kernel_rfl) (fun _ _ _ h => h) (Or.inl ⟨by rfl, ?_⟩) ?_
                rotate_left
                · intro w; go_simp; first | done | with_reducible rfl
                try simp only [Act.put, List.getElem_toArray, List.getElem_cons_succ, List.getElem_cons_zero, List.setIfInBounds_toArray, List.set_cons_zero, List.set_cons_succ]
                refine wpAny_take (i := 11) (v := ?_) rfl (by kernel_rfl) (by kernel_rfl) (by kernel_rfl) (fun _ _ _ h => h) (Or.inl ⟨by rfl, ?_⟩) ?_
                rotate_left
                · intro w; go_simp; first | done | with_reducible rfl
                try simp only [Act.put, List.getElem_toArray, List.getElem_cons_succ, List.getElem_cons_zero, List.setIfInBounds_toArray, List.set_cons_zero, List.set_cons_succ]
                refine wpAny_take (i := 12) (v := undef) rfl (by kernel_rfl) (by kernel_rfl) (by kernel_rfl) (fun _ _ _ h => h) (Or.inr ⟨by rfl, rfl⟩) ?_
                try simp only [Act.put, List.getElem_toArray, List.getElem_cons_succ, List.getElem_cons_zero, List.setIfInBounds_toArray, List.set_cons_zero, List.set_cons_succ]
                refine wpAny_take (i := 13) (v := undef) rfl (by kernel_rfl) (by kernel_rfl) (by kernel_rfl) (fun _ _ _ h => h) (Or.inr ⟨by rfl, rfl⟩) ?_
                try simp only [Act.put, List.getElem_toArray, List.getElem_cons_succ, List.getElem_cons_zero, List.setIfInBounds_toArray, List.set_cons_zero, List.set_cons_succ]
                refine wpAny_take (i := 14) (v := undef) rfl (by kernel_rfl) (by kernel_rfl) (by kernel_rfl) (fun _ _ _ h => h) (Or.inr ⟨by rfl, rfl⟩) ?_
                try simp only [Act.put, List.getElem_toArray, List.getElem_cons_succ, List.getElem_cons_zero, List.setIfInBounds_toArray, List.set_cons_zero, List.set_cons_succ]
                refine wpAny_take (i := 15) (v := undef) rfl (by kernel_rfl) (by kernel_rfl) (by kernel_rfl) (fun _ _ _ h => h) (Or.inr ⟨by rfl, rfl⟩) ?_
                try simp only [Act.put, List.getElem_toArray, List.getElem_cons_succ, List.getElem_cons_zero, List.setIfInBounds_toArray, List.set_cons_zero, List.set_cons_succ]
                refine wpAny_take (i := 16) (v := undef) rfl (by kernel_rfl) (by kernel_rfl) (by kernel_rfl) (fun _ _ _ h => h) (Or.inr ⟨by rfl, rfl⟩) ?_
                try simp only [Act.put, List.getElem_toArray, List.getElem_cons_succ, List.getElem_cons_zero, List.setIfInBounds_toArray, List.set_cons_zero, List.set_cons_succ]
                refine wpAny_take (i := 17) (v := undef) rfl (by kernel_rfl) (by kernel_rfl) (by kernel_rfl) (fun _ _ _ h => h) (Or.inr ⟨by rfl, rfl⟩) ?_
                try simp only [Act.put, List.getElem_toArray, List.getElem_cons_succ, List.getElem_cons_zero, List.setIfInBounds_toArray, List.set_cons_zero, List.set_cons_succ]
                refine wpAny_take (i := 18) (v := undef) rfl (by kernel_rfl) (by kernel_rfl) (by kernel_rfl) (fun _ _ _ h => h) (Or.inr ⟨by rfl, rfl⟩) ?_
                try simp only [Act.put, List.getElem_toArray, List.getElem_cons_succ, List.getElem_cons_zero, List.setIfInBounds_toArray, List.set_cons_zero, List.set_cons_succ]
                refine wpAny_take (i := 19) (v := undef) rfl (by kernel_rfl) (by kernel_rfl) (by kernel_rfl) (fun _ _ _ h => h) (Or.inr ⟨by rfl, rfl⟩) ?_
                try simp only [Act.put, List.getElem_toArray, List.getElem_cons_succ, List.getElem_cons_zero, List.setIfInBounds_toArray, List.set_cons_zero, List.set_cons_succ]
                refine wpAny_take (i := 20) (v := undef) rfl (by kernel_rfl) (by kernel_rfl) (by kernel_rfl) (fun _ _ _ h => h) (Or.inr ⟨by rfl, rfl⟩) ?_
                try simp only [Act.put, List.getElem_toArray, List.getElem_cons_succ, List.getElem_cons_zero, List.setIfInBounds_toArray, List.set_cons_zero, List.set_cons_succ]
                refine wpAny_take (i := 21) (v := undef) rfl (by kernel_rfl) (by kernel_rfl) (by kernel_rfl) (fun _ _ _ h => h) (Or.inr ⟨by rfl, rfl⟩) ?_
                try simp only [Act.put, List.getElem_toArray, List.getElem_cons_succ, List.getElem_cons_zero, List.setIfInBounds_toArray, List.set_cons_zero, List.set_cons_succ]
                refine wpAny_take (i := 22) (v := ?_) rfl (by kernel_rfl) (by kernel_rfl) (by kernel_rfl) (fun _ _ _ h => h) (Or.inl ⟨by rfl, ?_⟩) ?_
                rotate_left
                · intro w; go_simp; first | done | with_reducible rfl
                try simp only [Act.put, List.getElem_toArray, List.getElem_cons_succ, List.getElem_cons_zero, List.setIfInBounds_toArray, List.set_cons_zero, List.set_cons_succ]
                refine wpAny_take (i := 23) (v := ?_) rfl (by kernel_rfl) (by kernel_rfl) (by kernel_rfl) (fun _ _ _ h => h) (Or.inl ⟨by rfl, ?_⟩) ?_
                rotate_left
                · intro w; go_simp; first | done | with_reducible rfl
                try simp only [Act.put, List.getElem_toArray, List.getElem_cons_succ, List.getElem_cons_zero, List.setIfInBounds_toArray, List.set_cons_zero, List.set_cons_succ]
                refine wpAny_take (i := 24) (v := ?_) rfl (by kernel_rfl) (by kernel_rfl) (by kernel_rfl) (fun _ _ _ h => h) (Or.inl ⟨by rfl, ?_⟩) ?_
                rotate_left
                · intro w; go_simp; first | done | with_reducible rfl
                try simp only [Act.put, List.getElem_toArray, List.getElem_cons_succ, List.getElem_cons_zero, List.setIfInBounds_toArray, List.set_cons_zero, List.set_cons_succ]
                refine wpAny_done (by kernel_rfl) ?_ _
                go_wp2
                go_ret
                exact ⟨rfl, HF6.out⟩
              exact AllReady.nil
            exact AllReady.nil
          exact AllReady.nil
        case neg =>
          have hp0 : 0 < NF := by omega
          have hp1 : ((NF : Int) == 0) = false := by simpa using h0
          have hp2 : (0 : Int) < (NF : Int) := by omega
          go_upto_region 11 with fail
          refine wp_region_any (by kernel_rfl) ?_
          change wpAny _ _ _ _ _ _ _ (World.drew _)
          refine wpAny_take (i := 0) (v := ?_) rfl (by kernel_rfl) (by kernel_rfl) (by kernel_rfl) (fun _ _ _ h => h) (Or.inl ⟨by rfl, ?_⟩) ?_
          rotate_left
          · intro w; go_simp; first | done | with_reducible rfl
          try simp only [Act.put, List.getElem_toArray, List.getElem_cons_succ, List.getElem_cons_zero, List.setIfInBounds_toArray, List.set_cons_zero, List.set_cons_succ]
          refine wpAny_take (i := 1) (v := ?_) rfl (by kernel_rfl) (by kernel_rfl) (by kernel_rfl) (fun _ _ _ h => h) (Or.inl ⟨by rfl, ?_⟩) ?_
          rotate_left
          · intro w; go_simp; first | done | with_reducible rfl
          try simp only [Act.put, List.getElem_toArray, List.getElem_cons_succ, List.getElem_cons_zero, List.setIfInBounds_toArray, List.set_cons_zero, List.set_cons_succ]
          refine wpAny_ready (rs := [2]) (by kernel_rfl) (by simp) ?_
          refine AllReady.cons rfl (fun K hK => ?_) ?_
          ·
            go_simp
            refine hK _ _ ?_
            clear hK K
            try simp only [Act.put, List.getElem_toArray, List.getElem_cons_succ, List.getElem_cons_zero, List.setIfInBounds_toArray, List.set_cons_zero, List.set_cons_succ]
            refine wpAny_ready (rs := [3]) (by kernel_rfl) (by simp) ?_
            refine AllReady.cons rfl (fun K hK => ?_) ?_
            ·
              go_simp
              go_wp2_with (first | (go_at_call 66; refine HGO.out.mono ?_; rintro e w6 ⟨rfl, v6, a6, c6, HX6⟩; obtain ⟨hF6, c2, q16, hx6⟩ := HFF.out w6 v6 a6 c6 HX6.out.1 HX6.out.2; obtain ⟨b6, off6, x6, rfl, y6, hle6⟩ := hx6 hp0; have dle : decide (n ≤ x6) = true := decide_eq_true hle6; have HF6 := Lib.hid hF6; clear hF6))
              try (refine hK _ _ ?_)
              try clear hK K
              try simp only [Act.put, List.getElem_toArray, List.getElem_cons_succ, List.getElem_cons_zero, List.setIfInBounds_toArray, List.set_cons_zero, List.set_cons_succ]
              refine wpAny_take (i := 4) (v := ?_) rfl (by kernel_rfl) (by kernel_rfl) (by kernel_rfl) (fun _ _ _ h => h) (Or.inl ⟨by rfl, ?_⟩) ?_
              rotate_left
              · intro w; go_simp; first | done | with_reducible rfl
              try simp only [Act.put, List.getElem_toArray, List.getElem_cons_succ, List.getElem_cons_zero, List.setIfInBounds_toArray, List.set_cons_zero, List.set_cons_succ]
              refine wpAny_take (i := 5) (v := ?_) rfl (by kernel_rfl) (by kernel_rfl) (by kernel_rfl) (fun _ _ _ h => h) (Or.inl ⟨by rfl, ?_⟩) ?_
              rotate_left
              · intro w; go_simp; first | done | with_reducible rfl
              try simp only [Act.put, List.getElem_toArray, List.getElem_cons_succ, List.getElem_cons_zero, List.setIfInBounds_toArray, List.set_cons_zero, List.set_cons_succ]
              refine wpAny_take (i := 6) (v := ?_) rfl (by kernel_rfl) (by kernel_rfl) (by kernel_rfl) (fun _ _ _ h => h) (Or.inl ⟨by rfl, ?_⟩) ?_
              rotate_left
              · intro w; go_simp; first | done | with_reducible rfl
              try simp only [Act.put, List.getElem_toArray, List.getElem_cons_succ, List.getElem_cons_zero, List.setIfInBounds_toArray, List.set_cons_zero, List.set_cons_succ]
              refine wpAny_take (i := 7) (v := ?_) rfl (by kernel_rfl) (by kernel_rfl) (by kernel_rfl) (fun _ _ _ h => h) (Or.inl ⟨by rfl, ?_⟩) ?_
              rotate_left
              · intro w; go_simp; first | done | with_reducible rfl
              try simp only [Act.put, List.getElem_toArray, List.getElem_cons_succ, List.getElem_cons_zero, List.setIfInBounds_toArray, List.set_cons_zero, List.set_cons_succ]
              refine wpAny_ready (rs := [8]) (by kernel_rfl) (by simp) ?_
              refine AllReady.cons rfl (fun K hK => ?_) ?_
              ·
                go_simp
                refine hK _ _ ?_
                clear hK K
                try simp only [Act.put, List.getElem_toArray, List.getElem_cons_succ, List.getElem_cons_zero, List.setIfInBounds_toArray, List.set_cons_zero, List.set_cons_succ]
                refine wpAny_take (i := 9) (v := ?_) rfl (by kernel_rfl) (by kernel_rfl) (by kernel_rfl) (fun _ _ _ h => h) (Or.inl ⟨by rfl, ?_⟩) ?_
                rotate_left
                · intro w; go_simp; first | done | with_reducible rfl
                try simp only [Act.put, List.getElem_toArray, List.getElem_cons_succ, List.getElem_cons_zero, List.setIfInBounds_toArray, List.set_cons_zero, List.set_cons_succ]
                refine wpAny_take (i := 10) (v := ?_) rfl (by kernel_rfl) (by kernel_rfl) (by kernel_rfl) (fun _ _ _ h => h) (Or.inl ⟨by rfl, ?_⟩) ?_
                rotate_left
                · intro w; go_simp; first | done | with_reducible rfl
                try simp only [Act.put, List.getElem_toArray, List.getElem_cons_succ, List.getElem_cons_zero, List.setIfInBounds_toArray, List.set_cons_zero, List.set_cons_succ]
                refine wpAny_take (i := 11) (v := ?_) rfl (by kernel_rfl) (by kernel_rfl) (by kernel_rfl) (fun _ _ _ h => h) (Or.inl ⟨by rfl, ?_⟩) ?_
                rotate_left
                · intro w; go_simp; first | done | with_reducible rfl
                try simp only [Act.put, List.getElem_toArray, List.getElem_cons_succ, List.getElem_cons_zero, List.setIfInBounds_toArray, List.set_cons_zero, List.set_cons_succ]
                refine wpAny_take (i := 12) (v := ?_) rfl (by kernel_rfl) (by kernel_rfl) (by kernel_rfl) (fun _ _ _ h => h) (Or.inl ⟨by rfl, ?_⟩) ?_
                rotate_left
                · intro w; go_simp; first | done | with_reducible rfl
                try simp only [Act.put, List.getElem_toArray, List.getElem_cons_succ, List.getElem_cons_zero, List.setIfInBounds_toArray, List.set_cons_zero, List.set_cons_succ]
                refine wpAny_take (i := 13) (v := ?_) rfl (by kernel_rfl) (by kernel_rfl) (by kernel_rfl) (fun _ _ _ h => h) (Or.inl ⟨by rfl, ?_⟩) ?_
                rotate_left
                · intro w; go_simp; first | done | with_reducible rfl
                try simp only [Act.put, List.getElem_toArray, List.getElem_cons_succ, List.getElem_cons_zero, List.setIfInBounds_toArray, List.set_cons_zero, List.set_cons_succ]
                refine wpAny_take (i := 14) (v := ?_) rfl (by kernel_rfl) (by kernel_rfl) (by kernel_rfl) (fun _ _ _ h => h) (Or.inl ⟨by rfl, ?_⟩) ?_
                rotate_left
                · intro w; go_simp; first | done | with_reducible rfl
                try simp only [Act.put, List.getElem_toArray, List.getElem_cons_succ, List.getElem_cons_zero, List.setIfInBounds_toArray, List.set_cons_zero, List.set_cons_succ]
                refine wpAny_take (i := 19) (v := ?_) rfl (by kernel_rfl) (by kernel_rfl) (by kernel_rfl) (fun _ _ _ h => h) (Or.inl ⟨by rfl, ?_⟩) ?_
                rotate_left
                · intro w; go_simp; first | done | with_reducible rfl
                try simp only [Act.put, List.getElem_toArray, List.getElem_cons_succ, List.getElem_cons_zero, List.setIfInBounds_toArray, List.set_cons_zero, List.set_cons_succ]
                refine wpAny_ready (rs := [15, 20]) (by kernel_rfl) (by simp) ?_
                refine AllReady.cons rfl (fun K hK => ?_) ?_
                ·
                  go_simp
                  refine hK _ _ ?_
                  clear hK K
                  try simp only [Act.put, List.getElem_toArray, List.getElem_cons_succ, List.getElem_cons_zero, List.setIfInBounds_toArray, List.set_cons_zero, List.set_cons_succ]
                  refine wpAny_take (i := 16) (v := ?_) rfl (by kernel_rfl) (by kernel_rfl) (by kernel_rfl) (fun _ _ _ h => h) (Or.inl ⟨by rfl, ?_⟩) ?_
                  rotate_left
                  · intro w; go_simp; first | done | with_reducible rfl
                  try simp only [Act.put, List.getElem_toArray, List.getElem_cons_succ, List.getElem_cons_zero, List.setIfInBounds_toArray, List.set_cons_zero, List.set_cons_succ]
                  refine wpAny_take (i := 17) (v := ?_) rfl (by kernel_rfl) (by kernel_rfl) (by kernel_rfl) (fun _ _ _ h => h) (Or.inl ⟨by rfl, ?_⟩) ?_
                  rotate_left
                  · intro w; go_simp; first | done | with_reducible rfl
                  try simp only [Act.put, List.getElem_toArray, List.getElem_cons_succ, List.getElem_cons_zero, List.setIfInBounds_toArray, List.set_cons_zero, List.set_cons_succ]
                  refine wpAny_ready (rs := [18, 20]) (by kernel_rfl) (by simp) ?_
                  refine AllReady.cons rfl (fun K hK => ?_) ?_
                  ·
                    go_simp
                    refine hK _ _ ?_
                    clear hK K
                    try simp only [Act.put, List.getElem_toArray, List.getElem_cons_succ, List.getElem_cons_zero, List.setIfInBounds_toArray, List.set_cons_zero, List.set_cons_succ]
                    refine wpAny_ready (rs := [20]) (by kernel_rfl) (by simp) ?_
                    refine AllReady.cons rfl (fun K hK => ?_) ?_
                    ·
                      go_simp
                      refine hK _ _ ?_
                      clear hK K
                      try simp only [Act.put, List.getElem_toArray, List.getElem_cons_succ, List.getElem_cons_zero, List.setIfInBounds_toArray, List.set_cons_zero, List.set_cons_succ]
                      refine wpAny_take (i := 21) (v := ?_) rfl (by kernel_rfl) (by kernel_rfl) (by kernel_rfl) (fun _ _ _ h => h) (Or.inl ⟨by rfl, ?_⟩) ?_
                      rotate_left
                      · intro w; go_simp; first | done | with_reducible rfl
                      try simp only [Act.put, List.getElem_toArray, List.getElem_cons_succ, List.getElem_cons_zero, List.setIfInBounds_toArray, List.set_cons_zero, List.set_cons_succ]
                      refine wpAny_take (i := 22) (v := ?_) rfl (by kernel_rfl) (by kernel_rfl) (by kernel_rfl) (fun _ _ _ h => h) (Or.inl ⟨by rfl, ?_⟩) ?_
                      rotate_left
                      · intro w; go_simp; first | done | with_reducible rfl
                      try simp only [Act.put, List.getElem_toArray, List.getElem_cons_succ, List.getElem_cons_zero, List.setIfInBounds_toArray, List.set_cons_zero, List.set_cons_succ]
                      refine wpAny_take (i := 23) (v := ?_) rfl (by kernel_rfl) (by kernel_rfl) (by kernel_rfl) (fun _ _ _ h => h) (Or.inl ⟨by rfl, ?_⟩) ?_
                      rotate_left
                      · intro w; go_simp; first | done | with_reducible rfl
                      try simp only [Act.put, List.getElem_toArray, List.getElem_cons_succ, List.getElem_cons_zero, List.setIfInBounds_toArray, List.set_cons_zero, List.set_cons_succ]
                      refine wpAny_take (i := 24) (v := ?_) rfl (by kernel_rfl) (by kernel_rfl) (by kernel_rfl) (fun _ _ _ h => h) (Or.inl ⟨by rfl, ?_⟩) ?_
                      rotate_left
                      · intro w; go_simp; first | done | with_reducible rfl
                      try simp only [Act.put, List.getElem_toArray, List.getElem_cons_succ, List.getElem_cons_zero, List.setIfInBounds_toArray, List.set_cons_zero, List.set_cons_succ]
                      refine wpAny_done (by kernel_rfl) ?_ _
                      go_wp2
                      go_ret
                      exact ⟨rfl, HF6.out⟩
                    exact AllReady.nil
                  refine AllReady.cons rfl (fun K hK => ?_) ?_
                  ·
                    go_simp
                    refine hK _ _ ?_
                    clear hK K
                    try simp only [Act.put, List.getElem_toArray, List.getElem_cons_succ, List.getElem_cons_zero, List.setIfInBounds_toArray, List.set_cons_zero, List.set_cons_succ]
                    refine wpAny_ready (rs := [18]) (by kernel_rfl) (by simp) ?_
                    refine AllReady.cons rfl (fun K hK => ?_) ?_
                    ·
                      go_simp
                      refine hK _ _ ?_
                      clear hK K
                      try simp only [Act.put, List.getElem_toArray, List.getElem_cons_succ, List.getElem_cons_zero, List.setIfInBounds_toArray, List.set_cons_zero, List.set_cons_succ]
                      refine wpAny_take (i := 21) (v := ?_) rfl (by kernel_rfl) (by kernel_rfl) (by kernel_rfl) (fun _ _ _ h => h) (Or.inl ⟨by rfl, ?_⟩) ?_
                      rotate_left
                      · intro w; go_simp; first | done | with_reducible rfl
                      try simp only [Act.put, List.getElem_toArray, List.getElem_cons_succ, List.getElem_cons_zero, List.setIfInBounds_toArray, List.set_cons_zero, List.set_cons_succ]
                      refine wpAny_take (i := 22) (v := ?_) rfl (by kernel_rfl) (by kernel_rfl) (by kernel_rfl) (fun _ _ _ h => h) (Or.inl ⟨by rfl, ?_⟩) ?_
                      rotate_left
                      · intro w; go_simp; first | done | with_reducible rfl
                      try simp only [Act.put, List.getElem_toArray, List.getElem_cons_succ, List.getElem_cons_zero, List.setIfInBounds_toArray, List.set_cons_zero, List.set_cons_succ]
                      refine wpAny_take (i := 23) (v := ?_) rfl (by kernel_rfl) (by kernel_rfl) (by kernel_rfl) (fun _ _ _ h => h) (Or.inl ⟨by rfl, ?_⟩) ?_
                      rotate_left
                      · intro w; go_simp; first | done | with_reducible rfl
                      try simp only [Act.put, List.getElem_toArray, List.getElem_cons_succ, List.getElem_cons_zero, List.setIfInBounds_toArray, List.set_cons_zero, List.set_cons_succ]
                      refine wpAny_take (i := 24) (v := ?_) rfl (by kernel_rfl) (by kernel_rfl) (by kernel_rfl) (fun _ _ _ h => h) (Or.inl ⟨by rfl, ?_⟩) ?_
                      rotate_left
                      · intro w; go_simp; first | done | with_reducible rfl
                      try simp only [Act.put, List.getElem_toArray, List.getElem_cons_succ, List.getElem_cons_zero, List.setIfInBounds_toArray, List.set_cons_zero, List.set_cons_succ]
                      refine wpAny_done (by kernel_rfl) ?_ _
                      go_wp2
                      go_ret
                      exact ⟨rfl, HF6.out⟩
                    exact AllReady.nil
                  exact AllReady.nil
                refine AllReady.cons rfl (fun K hK => ?_) ?_
                ·
                  go_simp
                  refine hK _ _ ?_
                  clear hK K
                  try simp only [Act.put, List.getElem_toArray, List.getElem_cons_succ, List.getElem_cons_zero, List.setIfInBounds_toArray, List.set_cons_zero, List.set_cons_succ]
                  refine wpAny_ready (rs := [15]) (by kernel_rfl) (by simp) ?_
                  refine AllReady.cons rfl (fun K hK => ?_) ?_
                  ·
                    go_simp
                    refine hK _ _ ?_
                    clear hK K
                    try simp only [Act.put, List.getElem_toArray, List.getElem_cons_succ, List.getElem_cons_zero, List.setIfInBounds_toArray, List.set_cons_zero, List.set_cons_succ]
                    refine wpAny_take (i := 16) (v := ?_) rfl (by kernel_rfl) (by kernel_rfl) (by kernel_rfl) (fun _ _ _ h => h) (Or.inl ⟨by rfl, ?_⟩) ?_
                    rotate_left
                    · intro w; go_simp; first | done | with_reducible rfl
                    try simp only [Act.put, List.getElem_toArray, List.getElem_cons_succ, List.getElem_cons_zero, List.setIfInBounds_toArray, List.set_cons_zero, List.set_cons_succ]
                    refine wpAny_take (i := 17) (v := ?_) rfl (by kernel_rfl) (by kernel_rfl) (by kernel_rfl) (fun _ _ _ h => h) (Or.inl ⟨by rfl, ?_⟩) ?_
                    rotate_left
                    · intro w; go_simp; first | done | with_reducible rfl
                    try simp only [Act.put, List.getElem_toArray, List.getElem_cons_succ, List.getElem_cons_zero, List.setIfInBounds_toArray, List.set_cons_zero, List.set_cons_succ]
                    refine wpAny_ready (rs := [18]) (by kernel_rfl) (by simp) ?_
                    refine AllReady.cons rfl (fun K hK => ?_) ?_
                    ·
                      go_simp
                      refine hK _ _ ?_
                      clear hK K
                      try simp only [Act.put, List.getElem_toArray, List.getElem_cons_succ, List.getElem_cons_zero, List.setIfInBounds_toArray, List.set_cons_zero, List.set_cons_succ]
                      refine wpAny_take (i := 21) (v := ?_) rfl (by kernel_rfl) (by kernel_rfl) (by kernel_rfl) (fun _ _ _ h => h) (Or.inl ⟨by rfl, ?_⟩) ?_
                      rotate_left
                      · intro w; go_simp; first | done | with_reducible rfl
                      try simp only [Act.put, List.getElem_toArray, List.getElem_cons_succ, List.getElem_cons_zero, List.setIfInBounds_toArray, List.set_cons_zero, List.set_cons_succ]
                      refine wpAny_take (i := 22) (v := ?_) rfl (by kernel_rfl) (by kernel_rfl) (by kernel_rfl) (fun _ _ _ h => h) (Or.inl ⟨by rfl, ?_⟩) ?_
                      rotate_left
                      · intro w; go_simp; first | done | with_reducible rfl
                      try simp only [Act.put, List.getElem_toArray, List.getElem_cons_succ, List.getElem_cons_zero, List.setIfInBounds_toArray, List.set_cons_zero, List.set_cons_succ]
                      refine wpAny_take (i := 23) (v := ?_) rfl (by kernel_rfl) (by kernel_rfl) (by kernel_rfl) (fun _ _ _ h => h) (Or.inl ⟨by rfl, ?_⟩) ?_
                      rotate_left
                      · intro w; go_simp; first | done | with_reducible rfl
                      try simp only [Act.put, List.getElem_toArray, List.getElem_cons_succ, List.getElem_cons_zero, List.setIfInBounds_toArray, List.set_cons_zero, List.set_cons_succ]
                      refine wpAny_take (i := 24) (v := ?_) rfl (by kernel_rfl) (by kernel_rfl) (by kernel_rfl) (fun _ _ _ h => h) (Or.inl ⟨by rfl, ?_⟩) ?_
                      rotate_left
                      · intro w; go_simp; first | done | with_reducible rfl
                      try simp only [Act.put, List.getElem_toArray, List.getElem_cons_succ, List.getElem_cons_zero, List.setIfInBounds_toArray, List.set_cons_zero, List.set_cons_succ]
                      refine wpAny_done (by kernel_rfl) ?_ _
                      go_wp2
                      go_ret
                      exact ⟨rfl, HF6.out⟩
                    exact AllReady.nil
                  exact AllReady.nil
                exact AllReady.nil
              exact AllReady.nil
            exact AllReady.nil
          exact AllReady.nil
end Go.Proofs.YtgkcnocfijckoaaGreat
namespace Go.Proofs.YtgkcnocfijckoaaGreat
open Go.RowKit Sg
set_option linter.unusedVariables false
set_option linter.unusedSimpArgs false
theorem step_any (w : World) (pw ps p m : Nat) (v vl : Value) (S : Bk) (l : List Gn) (im : Int → ByteArray) (h : WW w pw ps p m v vl S l im (modelK l im)) (hS : S.length ≤ 70000000) (hl : l.length < 4000) (kd n mm : Int) (wn : (Lit.int .i64 n).wf = true) (wm : (Lit.int .i64 mm).wf = true) (t : ByteArray) (ht : t.size ≤ maxLen) :
    Calls Tryz.prog 31 #[.pointer (some ⟨pw, 0, none⟩), .agg #[.int .i64 kd, .int .i64 n, .int .i64 mm, .string t]] w fun e w' => e = .returned (.bool true) ∧ STP w pw ps p m v vl S l w' := by
  by_cases h0 : kd = 0
  · exact stepW_any w pw ps p m v vl S l im h hS hl kd n mm wn wm t ht (.inl h0)
  by_cases h1 : kd = 1
  · exact stepW_any w pw ps p m v vl S l im h hS hl kd n mm wn wm t ht (.inr h1)
  by_cases h2 : kd = 2
  · exact stepD_any w pw ps p m v vl S l im h hS hl kd n mm wn wm t ht h2
  by_cases h3 : kd = 3
  · exact stepG_any w pw ps p m v vl S l im h hS hl kd n mm wn wm t ht h3
  · exact stepR_any w pw ps p m v vl S l im h hS hl kd n mm wn wm t ht ⟨h0, h1, h2, h3⟩
/-- a call of the script -/
structure Op4 where
  kind : Int
  n : Int
  m : Int
  text : ByteArray
deriving Inhabited
def Op4.c (o : Op4) : List Value := [.int .i64 o.kind, .int .i64 o.n, .int .i64 o.m, .string o.text]
def Op4.ok (o : Op4) : Prop := (Lit.int .i64 o.n).wf = true ∧ (Lit.int .i64 o.m).wf = true ∧ o.text.size ≤ maxLen
def op4K : Kd := .agg [.int .i64, .int .i64, .int .i64, .str]
theorem op4_of {w : World} {c : Array Value} (h : Kd.ok w op4K c.toList) : ∃ o : Op4, c = #[.int .i64 o.kind, .int .i64 o.n, .int .i64 o.m, .string o.text] ∧ o.ok := by
  simp only [op4K, Kd.ok, Kd.okL, Kd.cells] at h
  obtain ⟨a, a', ha, _, ⟨k, rfl, hk⟩, a2, a2', rfl, _, ⟨n, rfl, hn⟩, a3, a3', rfl, _, ⟨mm, rfl, hm⟩, a4, a4', rfl, _, ⟨t, rfl, ht⟩, rfl⟩ := h
  refine ⟨⟨k, n, mm, t⟩, ?_, hn, hm, ht⟩
  apply Array.ext'
  rw [ha]; rfl
theorem ops_of {w : World} {ao : Option Addr} {len cap : Nat} (h : (Kd.sl op4K).ok w [.slice ao len cap]) : ∃ l : List Op4, Rs w ao len cap 4 l Op4.c ∧ ∀ x ∈ l, x.ok :=
  Kd.rows (k := op4K) Op4.c Op4.ok (fun es h => by
    simp only [op4K, Kd.ok, Kd.okL, Kd.cells] at h
    obtain ⟨a, a', ha, _, ⟨k, rfl, hk⟩, a2, a2', rfl, _, ⟨n, rfl, hn⟩, a3, a3', rfl, _, ⟨mm, rfl, hm⟩, a4, a4', rfl, _, ⟨t, rfl, ht⟩, rfl⟩ := h
    exact ⟨⟨k, n, mm, t⟩, by rw [ha]; rfl, hn, hm, ht⟩) h
theorem rs_op {w : World} {ao : Option Addr} {len cap : Nat} {l : List Op4} (h : Rs w ao len cap 4 l Op4.c) (h0 : 0 < len) :
    ∃ b off, ao = some ⟨b, off, none⟩ ∧ b < w.heap.size ∧ ∀ k g, l[k]? = some g → w.cell? ⟨b, off + k * 4, none⟩ = some (.int .i64 g.kind) ∧ w.cell? ⟨b, off + k * 4 + 1, none⟩ = some (.int .i64 g.n) ∧ w.cell? ⟨b, off + k * 4 + 2, none⟩ = some (.int .i64 g.m) ∧ w.cell? ⟨b, off + k * 4 + 3, none⟩ = some (.string g.text) := by
  obtain ⟨_, _, _, h4⟩ := h
  obtain ⟨b, off, e, hb, hc⟩ := h4 h0
  refine ⟨b, off, e, hb, fun k g hg => ?_⟩
  obtain ⟨hk, rfl⟩ := List.getElem?_eq_some_iff.1 hg
  exact ⟨by simpa using hc k hk 0 _ rfl, by simpa [Nat.add_assoc] using hc k hk 1 _ rfl, by simpa [Nat.add_assoc] using hc k hk 2 _ rfl, by simpa [Nat.add_assoc] using hc k hk 3 _ rfl⟩
/-- a world that was played, all of it new -/
structure PW (w0 w : World) (pw ps p m : Nat) (v vl : Value) (S : Bk) (l : List Gn) (im : Int → ByteArray) : Prop where
  ww : WW w pw ps p m v vl S l im (modelK l im)
  bel : Below w0.heap.size w0 w
  ge : w0.heap.size ≤ m ∧ w0.heap.size ≤ ps ∧ w0.heap.size ≤ pw ∧ (∀ k, v.ownBlock = some k → w0.heap.size ≤ k) ∧ ∀ k, vl.ownBlock = some k → w0.heap.size ≤ k
theorem PW.move {w0 w w' : World} {pw ps p m : Nat} {v vl v' vl' : Value} {S S' : Bk} {l l' : List Gn} {im im' : Int → ByteArray} (h : PW w0 w pw ps p m v vl S l im) (hw : WW w' pw ps p m v' vl' S' l' im' (modelK l' im')) (hm : Moves w w' pw ps m v v' vl vl') : PW w0 w' pw ps p m v' vl' S' l' im' := by
  obtain ⟨g1, g2, g3, g4, g5⟩ := h.ge
  refine ⟨hw, bel_kept h.bel hm.kept ?_, g1, g2, g3, fun k e => ?_, fun k e => ?_⟩
  · rintro k (e | e | e | e)
    · omega
    · omega
    · omega
    · exact g4 k e
  · rcases hm.own k e with e | e
    · exact g4 k e
    · have := h.bel.size; omega
  · rcases hm.ownl k e with e | e
    · exact g5 k e
    · have := h.bel.size; omega
theorem PW.moves {w0 w w' : World} {pw ps p m : Nat} {v vl v' vl' : Value} {S : Bk} {l : List Gn} {im : Int → ByteArray} (h : PW w0 w pw ps p m v vl S l im) (hm : Moves w w' pw ps m v v' vl vl') : Below w0.heap.size w0 w' := by
  obtain ⟨g1, g2, g3, g4, g5⟩ := h.ge
  refine bel_kept h.bel hm.kept ?_
  rintro k (e | e | e | e)
  · omega
  · omega
  · omega
  · exact g4 k e
/-- what played leaves -/
def PlayP (w : World) (e : Ending) (w' : World) : Prop := ∃ pw ps p m v vl S l im, e = .returned (.pointer (some ⟨pw, 0, none⟩)) ∧ PW w w' pw ps p m v vl S l im ∧ S.length ≤ 60000400 ∧ l.length ≤ 20
set_option maxRecDepth 100000 in
set_option maxHeartbeats 4000000 in
theorem played_any (w : World) (ao : Option Addr) (n cap : Nat) (ops : List Op4) (hR : Rs w ao n cap 4 ops Op4.c) (hok : ∀ x ∈ ops, x.ok) :
    Calls Tryz.prog 17 #[.slice ao n cap] w (PlayP w) := by
  have HR := Lib.hid hR
  have HOK := Lib.hid hok
  have hcm : n ≤ 9223372036854775807 := by have h1 := hR.1; have h2 := hR.2.1; unfold maxLen at h2; omega
  have hlen : ops.length = n := hR.2.2.1
  have HLN := Lib.hid hlen
  clear hR hok hlen
  go_enter Tryz.func17, Tryz.ntmps17
  go_wp2_with fail
  refine (fresh_any w).mono ?_
  rintro e w1 ⟨pw, ps, p, m, rfl, hW1, hb1, hm1, hp1, hw1⟩
  have HP0 : Hid (PW w w1 pw ps p m (.slice none 0 0) (.slice none 0 0) [] [] (fun _ => ByteArray.empty)) := Lib.hid ⟨hW1, hb1, hm1, hp1, hw1, (fun k e => by cases e), (fun k e => by cases e)⟩
  clear hW1 hb1 hm1 hp1 hw1
  go_wp2_with fail
  go_loopw [4] (fun i wr => ∃ (k : Nat) (v vl : Value) (S : Bk) (l : List Gn) (im : Int → ByteArray), i = .int .i64 k ∧ k ≤ 20 ∧ k ≤ n ∧ Hid (PW w wr pw ps p m v vl S l im ∧ S.length ≤ k * 3000020 ∧ l.length ≤ k)) (fun i _ => 20 - (intOf i).toNat)
  case atStart => exact ⟨0, _, _, [], [], _, by go_num, by omega, by omega, Lib.hid ⟨HP0.out, by simp, by simp⟩⟩
  case round =>
    obtain ⟨k, v, vl, S, l, im, rfl, hk, hkn, hP⟩ := hrel
    by_cases hlt : k < n
    case pos =>
      have jk : (k : Int) < (n : Int) := by omega
      by_cases h20 : k < 20
      case pos =>
        have j20 : (k : Int) < 20 := by omega
        obtain ⟨g, hg⟩ : ∃ g, ops[k]? = some g := ⟨_, List.getElem?_eq_getElem (by rw [HLN.out]; exact hlt)⟩
        obtain ⟨b, off, rfl, hb, hc⟩ := rs_op (HR.out.below hP.out.1.bel (Nat.le_refl _)) (by omega)
        obtain ⟨c0, c1, c2, c3⟩ := hc k g hg
        have hgo := HOK.out g (List.mem_of_getElem? hg)
        obtain ⟨⟨gk, gn, gm, gt⟩, rfl⟩ : ∃ x, x = g := ⟨_, rfl⟩
        simp only at c0 c1 c2 c3
        have HST := Lib.hid (step_any wr pw ps p m v vl S l im hP.out.1.ww (by have := hP.out.2.1; omega) (by have := hP.out.2.2; omega) gk gn gm hgo.1 hgo.2.1 gt hgo.2.2)
        clear hg hb hc hgo
        go_wp2_with fail
        refine HST.out.mono ?_
        rintro e w2 ⟨rfl, v', vl', S', l', im', a1, a2, a3, a4, a5⟩
        have HF : Hid (PW w w2 pw ps p m v' vl' S' l' im' ∧ S'.length ≤ (k + 1) * 3000020 ∧ l'.length ≤ k + 1) := Lib.hid ⟨hP.out.1.move a1 a2, by have := hP.out.2.1; omega, by have := hP.out.2.2; omega⟩
        clear a1 a2 a3 a4 a5 c0 c1 c2 c3 HST
        go_wp2
        go_roundw
        case rel => exact ⟨k + 1, v', vl', S', l', im', by go_num, by omega, by omega, HF⟩
        case measure => simp [intOf]; omega
      case neg =>
        have j20 : ¬ (k : Int) < 20 := by omega
        have HF : Hid (PW w wr pw ps p m v vl S l im ∧ S.length ≤ 60000400 ∧ l.length ≤ 20) := Lib.hid ⟨hP.out.1, by have := hP.out.2.1; omega, by have := hP.out.2.2; omega⟩
        go_wp2
        go_ret
        exact ⟨pw, ps, p, m, v, vl, S, l, im, rfl, HF.out.1, HF.out.2.1, HF.out.2.2⟩
    case neg =>
      have jk : ¬ (k : Int) < (n : Int) := by omega
      have HF : Hid (PW w wr pw ps p m v vl S l im ∧ S.length ≤ 60000400 ∧ l.length ≤ 20) := Lib.hid ⟨hP.out.1, by have := hP.out.2.1; omega, by have := hP.out.2.2; omega⟩
      go_wp2
      go_ret
      exact ⟨pw, ps, p, m, v, vl, S, l, im, rfl, HF.out.1, HF.out.2.1, HF.out.2.2⟩
end Go.Proofs.YtgkcnocfijckoaaGreat
