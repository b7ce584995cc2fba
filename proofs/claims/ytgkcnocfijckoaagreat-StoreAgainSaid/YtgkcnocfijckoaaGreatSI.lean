/- The law's world: step, kind 2. Conditions: as named in each theorem. -/
import Derived.Test.YtgkcnocfijckoaaGreatSH
import Derived.Test.YtgkcnocfijckoaaGreatSB
import Derived.Test.YtgkcnocfijckoaaGreatSD
namespace Go.Proofs.YtgkcnocfijckoaaGreat
open Go.RowKit Sg
set_option linter.unusedVariables false
set_option linter.unusedSimpArgs false
set_option maxRecDepth 100000 in
set_option maxHeartbeats 8000000 in
theorem stepD_any (w : World) (pw ps p m : Nat) (v vl : Value) (S : Bk) (l : List Gn) (im : Int → ByteArray) (h : WW w pw ps p m v vl S l im (modelK l im)) (hS : S.length ≤ 70000000) (hl : l.length < 4000) (kd n mm : Int) (wn : (Lit.int .i64 n).wf = true) (wm : (Lit.int .i64 mm).wf = true) (t : ByteArray) (ht : t.size ≤ maxLen) (hk : kd = 2) :
    Calls Tryz.prog 31 #[.pointer (some ⟨pw, 0, none⟩), .agg #[.int .i64 kd, .int .i64 n, .int .i64 mm, .string t]] w fun e w' => e = .returned (.bool true) ∧ STP w pw ps p m v vl S l w' := by
  obtain ⟨V, hV⟩ : ∃ V, V = w.alloc (Obj.cells #[.int .i64 kd, .int .i64 n, .int .i64 mm, .string t] 71) := ⟨_, rfl⟩
  obtain ⟨q, hq⟩ : ∃ q, q = w.heap.size := ⟨_, rfl⟩
  have hG : Blk V q [.int .i64 kd, .int .i64 n, .int .i64 mm, .string t] 71 := by rw [hV, hq]; exact Blk.new _ _ _
  have hbV : Below w.heap.size w V := by rw [hV]; exact below_alloc _ _
  have HV := Lib.hid (And.intro hV hq)
  have HG := Lib.hid hG
  have HW := Lib.hid (h.below hbV)
  have HB := Lib.hid hbV
  have HCU := Lib.hid (cut_any V t ht)
  obtain ⟨s, hs⟩ : ∃ s, s = cut6 t := ⟨_, rfl⟩
  have hss : s.size ≤ 600 := by rw [hs]; exact cut6_size t
  rw [← hs] at HCU
  have q0 := hG.cell (i := 0) rfl
  have q1 := hG.cell (i := 1) rfl
  have q2 := hG.cell (i := 2) rfl
  have q3 := hG.cell (i := 3) rfl
  have hqw : w.heap.size ≤ q := by omega
  have HNE : Hid (q ≠ pw ∧ q ≠ ps ∧ q ≠ p ∧ q ≠ m ∧ (∀ k, v.ownBlock = some k → k ≠ q) ∧ (∀ k, vl.ownBlock = some k → k ≠ q)) := Lib.hid (by
    have h1 := h.ob.lt
    have h2 := h.sw.st.lt
    have h3 := h.sw.bk.2.2.2.2.1
    refine ⟨by omega, by omega, by omega, by omega, fun k e => ?_, fun k e => ?_⟩
    · have := h.sw.own e; omega
    · have := (World.ownsRow.lt h.row k e).2; omega)
  obtain ⟨P, hP⟩ : ∃ P : World → Prop, P = STP w pw ps p m v vl S l := ⟨_, rfl⟩
  rw [← hP]
  have HP := Lib.hid hP
  have HKD := Lib.hid hk
  clear hV hq hG hbV h hs hP hqw hk
  go_enter Tryz.func31, Tryz.ntmps31
  go_upto_region 1 with fail
  rw [← HV.out.1, ← HV.out.2]
  go_wp2_with fail
  refine HCU.out.mono ?_
  rintro e w1 ⟨rfl, rfl⟩
  obtain rfl := HKD.out
  obtain ⟨ao, cp, rfl⟩ := owns_slice HW.out.row
  have HFI := Lib.hid (find_any V pw ps p m v _ S l im _ HW.out (by rw [modelK_len]; omega) mm)
  go_wp2_with fail
  refine HFI.out.mono ?_
  rintro e w1 ⟨r, rfl, hF, rfl⟩
  have HF0 : Hid (P V) := Lib.hid (by
    rw [HP.out]
    exact ⟨v, _, S, l, im, HW.out, Moves.of_below HB.out, Ext.refl S, by omega, Nat.le_succ _⟩)
  rcases hF with ⟨rfl, hno⟩ | ⟨k, y, rfl, hy, hyn⟩
  · clear hno
    go_wp2
    go_ret
    exact ⟨rfl, HF0.out⟩
  have i0 : (0 : Int) ≤ (k : Int) := by omega
  have d0 : decide ((k : Int) < 0) = false := decide_eq_false (by omega)
  by_cases hmn : n ≤ mm
  case pos =>
    have d1 : decide (n ≤ mm) = true := decide_eq_true hmn
    clear hmn hy hyn
    go_wp2
    go_ret
    exact ⟨rfl, HF0.out⟩
  have d1 : decide (n ≤ mm) = false := decide_eq_false hmn
  obtain ⟨g, hg, hyg⟩ := modelK_at hy
  have hgn : g.gen = mm := by rw [← hyn, hyg]
  have hG := HW.out.sw.inv.each g (List.mem_of_getElem? hg)
  have hmm0 : 0 ≤ mm ∧ mm ≤ 4611686018427387903 := by rw [← hgn]; exact ⟨hG.lo, hG.hi⟩
  obtain ⟨N, hN⟩ : ∃ N, N = (modelK l im).length := ⟨_, rfl⟩
  have hkr := HW.out.rs rfl
  have o1 := HW.out.ob.cell (i := 1) rfl
  have o2 := HW.out.ob.cell (i := 2) rfl
  have hNl : N = l.length := by rw [hN, modelK_len]
  have hkN : k < N := by rw [hNl]; exact (List.getElem?_eq_some_iff.1 hg).1
  obtain ⟨b, off, rfl, hb, hc⟩ := rs_kp hkr (by rw [← hN]; omega)
  have x1 := (hc k y hy).2
  rw [← hN] at o2
  have hys : y.s = im mm := by rw [hyg, ← hgn]
  obtain ⟨old, hold⟩ : ∃ t, t = im mm := ⟨_, rfl⟩
  rw [hys, ← hold] at x1
  have himm : bytesOf old ∈ S := by rw [hold, ← hgn]; exact hG.mem
  have hil : old.size ≤ 524288 := by rw [hold, ← hgn]; exact hG.ilen
  have hbm : b ≠ m := fun e => HW.out.ne.2.2.2.2.2.2.1 (by rw [← e]; rfl)
  have HGM := Lib.hid (And.intro hg (And.intro hgn (And.intro hG (And.intro hold himm))))
  have HLT : Hid (pw < V.heap.size ∧ q < V.heap.size ∧ b < V.heap.size ∧ ¬ some m = some pw ∧ ¬ some m = some q ∧ ¬ some m = some b) := Lib.hid ⟨HW.out.ob.lt, HG.out.lt, hb, fun e => by injection e with e; exact HW.out.ne.2.2.1 e.symm, fun e => by injection e with e; exact HNE.out.2.2.2.1 e.symm, fun e => by injection e with e; exact hbm e.symm⟩
  obtain ⟨L, hL⟩ : ∃ L, L = stepsI old s 16 := ⟨_, rfl⟩
  obtain ⟨z, hz⟩ : ∃ z : Int, z = s.size := ⟨_, rfl⟩
  have HOF : Hid (∀ W, Below V.heap.size V W → Calls Tryz.prog 50 #[.pointer (some ⟨p, 0, none⟩), .string old, .string s, .int .i64 16] W (OfS p m S old s z L W)) := Lib.hid (fun W hW => by
    rw [hL, hz]
    exact of_s W p m S old s 16 (HW.out.sw.bk.next hW) (by omega) (by omega) (by omega) hil (by omega))
  have hst := stepsI_right old s 16
  have HPR : Hid (∀ i j, RightP ⟨numS i, numS j, z, L⟩ ∧ runS old L ByteArray.empty = (s, 0) ∧ sentL L ≤ 10000 ∧ L.length ≤ 10000 ∧ ∀ x ∈ L, x.ok) := Lib.hid (fun i j => by
    rw [hL, hz]
    obtain ⟨p1, p2, p3, p4, p5⟩ := hst i j (by omega) hil (by omega)
    exact ⟨p1, p2, by omega, by omega, p5⟩)
  have hmw5 : m < V.heap.size := HW.out.sw.bk.2.2.2.2.1.2
  have hpw5 : p < V.heap.size := HW.out.sw.bk.2.2.2.2.1.1
  have wz : (Lit.int .i64 z).wf = true := by rw [hz]; exact wfI _ (by omega) (by omega)
  have HAL : Hid (∀ x : Obj, Below V.heap.size V (V.drew.alloc x)) := Lib.hid (fun x => (Below.refl _ _).drew.trans ((below_alloc V.drew x).mono (Nat.le_refl _)))
  have hdz := dlZ_run
  have n1 : V.heap.size ≠ pw := by have := HLT.out.1; omega
  have n2 : V.heap.size ≠ b := by have := HLT.out.2.2.1; omega
  have jk : (k : Int) < (N : Int) := by omega
  have HNN := Lib.hid (And.intro hN (And.intro hNl hmn))
  clear hy hyn hyg hgn hG hkr hc hys hold himm hil hbm hL hz hst hg hb hN hNl hmn
  go_upto_region 24 with fail
  go_region_held3 (fun w' => w'.cell? ⟨pw, 1, none⟩ = some (.pointer (some ⟨p, 0, none⟩)) ∧ w'.cell? ⟨pw, 2, none⟩ = some (.slice (some ⟨b, off, none⟩) N cp) ∧ w'.cell? ⟨b, off + k * 2 + 1, none⟩ = some (.string old))
    (first | exact ⟨o1, o2, x1⟩ | go_keep)
    (first
      | (go_at_call 50; refine (HOF.out V.drew (bl_drew (Below.refl _ _))).mono ?_; rintro e w6 ⟨a6, n6, k6, M1, M2, S', rfl, HX, hk6⟩; replace o1 := (hk6.cell (i := 1) (by exact HLT.out.1) HLT.out.2.2.2.1).trans o1; replace o2 := (hk6.cell (i := 2) (by exact HLT.out.1) HLT.out.2.2.2.1).trans o2; replace x1 := (hk6.cell (i := off + k * 2 + 1) (by exact HLT.out.2.2.1) HLT.out.2.2.2.2.2).trans x1)
      | (go_at_call 50; refine (HOF.out (V.drew.alloc _) (HAL.out _)).mono ?_; rintro e w6 ⟨a6, n6, k6, M1, M2, S', rfl, HX, hk6⟩; replace o1 := (hk6.cell (i := 1) (by exact Nat.lt_of_lt_of_le HLT.out.1 (HAL.out _).size) HLT.out.2.2.2.1).trans (((HAL.out _).cell (p := ⟨pw, 1, none⟩) HLT.out.1).trans o1); replace o2 := (hk6.cell (i := 2) (by exact Nat.lt_of_lt_of_le HLT.out.1 (HAL.out _).size) HLT.out.2.2.2.1).trans (((HAL.out _).cell (p := ⟨pw, 2, none⟩) HLT.out.1).trans o2); replace x1 := (hk6.cell (i := off + k * 2 + 1) (by exact Nat.lt_of_lt_of_le HLT.out.2.2.1 (HAL.out _).size) HLT.out.2.2.2.2.2).trans (((HAL.out _).cell (p := ⟨b, off + k * 2 + 1, none⟩) HLT.out.2.2.1).trans x1); have hQ5 : Blk w6 V.heap.size [.string ByteArray.empty, .string ByteArray.empty, .int .i64 0, .slice none 0 0] 55 := blkKept (Blk.new V.drew [.string ByteArray.empty, .string ByteArray.empty, .int .i64 0, .slice none 0 0] 55) hk6 (fun e => by injection e with e; have e2 : m = V.heap.size := e; omega); have u0 := hQ5.cell (i := 0) rfl; have u1 := hQ5.cell (i := 1) rfl; have u2 := hQ5.cell (i := 2) rfl; have u3 := hQ5.cell (i := 3) rfl; have v0 := hQ5.frozen 0; have v1 := hQ5.frozen 1; have v2 := hQ5.frozen 2; have v3 := hQ5.frozen 3))
  all_goals (first
    | (obtain ⟨Y, hY⟩ : ∃ Y, Y = w6.alloc (Obj.cells #[.string M1, .string M2, .int .i64 z, .slice a6 n6 k6] 55) := ⟨_, rfl⟩
       obtain ⟨qd, hqd⟩ : ∃ q, q = w6.heap.size := ⟨_, rfl⟩
       rw [← hY, ← hqd]
       have HD : Hid (DlAt V Y p m S' qd M1 M2 z a6 n6 k6 L) := Lib.hid (by rw [hY, hqd]; exact DlAt.of_alloc hk6 HX.out.2.2.2.1 HX.out.2.2.1 HX.out.2.2.2.2.1))
    | (obtain ⟨Y, hY⟩ : ∃ Y, Y = (((w6.setCell ⟨V.heap.size, 0, none⟩ (.string M1)).setCell ⟨V.heap.size, 1, none⟩ (.string M2)).setCell ⟨V.heap.size, 2, none⟩ (.int .i64 z)).setCell ⟨V.heap.size, 3, none⟩ (.slice a6 n6 k6) := ⟨_, rfl⟩
       obtain ⟨qd, hqd⟩ : ∃ q, q = V.heap.size := ⟨_, rfl⟩
       rw [← hY, ← hqd]
       have HD : Hid (DlAt V Y p m S' qd M1 M2 z a6 n6 k6 L) := Lib.hid (by rw [hY, hqd]; exact DlAt.of_store (HAL.out _) hk6 hQ5 HX.out.2.2.2.1 (by simp) HX.out.2.2.1 HX.out.2.2.2.2.1 hpw5 hmw5)
       clear hQ5 u0 u1 u2 u3 v0 v1 v2 v3))
  all_goals (
    rename_i hHeld0
    have HM : Hid (M1 = mkI S' old ∧ M2 = mkI S' s ∧ bytesOf old ∈ S' ∧ bytesOf s ∈ S' ∧ Ext S S' ∧ S'.length ≤ S.length + 3000000) := Lib.hid ⟨HX.out.1, HX.out.2.1, HX.out.2.2.2.2.2.1, HX.out.2.2.2.2.2.2.1, HX.out.2.2.2.2.2.2.2.1, HX.out.2.2.2.2.2.2.2.2⟩
    obtain ⟨hp1, hp2, hp3, hp4, hp5⟩ := HPR.out (S'.idxOf (bytesOf old) + 1) (S'.idxOf (bytesOf s) + 1)
    have hdd : (⟨numS (S'.idxOf (bytesOf old) + 1), numS (S'.idxOf (bytesOf s) + 1), z, L⟩ : Dl) = ⟨M1, M2, z, L⟩ := by rw [HM.out.1, HM.out.2.1]; rfl
    rw [hdd] at hp1
    obtain ⟨BY, hBY⟩ : ∃ BY : ByteArray, BY = ⟨(bytesD ⟨M1, M2, z, L⟩).toArray⟩ := ⟨_, rfl⟩
    have hBl : BY.size ≤ 500000 := by
      have h1 := bytesD_len hp1 (k := 10000) hp4 hp3
      have h2 : BY.size = (bytesD ⟨M1, M2, z, L⟩).length := by rw [hBY]; simp [ByteArray.size]
      omega
    have hRDB : readD BY.data.toList = (⟨M1, M2, z, L⟩, 0) := by rw [hBY]; exact readD_back _ hp1
    have HBYT : Hid (Calls Tryz.prog 23 #[.agg #[.string M1, .string M2, .int .i64 z, .slice a6 n6 k6]] Y fun e w' => e = .returned (.tuple #[.string BY, .int .i64 (0 : Nat)]) ∧ Below Y.heap.size Y w') := Lib.hid (by
      have h1 := dlBytes_any Y M1 M2 z a6 n6 k6 L wz (by rw [hp1.1]; decide) (by have := hp1.2.1; unfold maxLen; simp only at this; omega) HD.out.2.1 hp5
      rw [bytesR_yes hp1, ← hBY] at h1
      exact h1)
    have HPP := Lib.hid (And.intro hp1 (And.intro hp2 (And.intro hBl hRDB)))
    have e0 := HD.out.1.cell (i := 0) rfl
    have e1 := HD.out.1.cell (i := 1) rfl
    have e2 := HD.out.1.cell (i := 2) rfl
    have e3 := HD.out.1.cell (i := 3) rfl
    clear hHeld0 hp1 hp2 hp3 hp4 hp5 hdd hBY hBl hRDB hY hqd o1 o2 x1 HX hk6 HPR HOF HAL q0 q1 q2 q3
    go_wp2_with fail
    refine HBYT.out.mono ?_
    rintro e w7 ⟨rfl, hb7⟩
    have hk7 : Kept (fun k => some m = some k) V w7 := kept_bel HD.out.2.2.2 hb7
    have HW7 := Lib.hid (HW.out.book hk7 (HD.out.2.2.1.next hb7) HM.out.2.2.2.2.1)
    have HG7 := Lib.hid (blkKept HG.out hk7 HLT.out.2.2.2.2.1)
    have HM7 := Lib.hid ((Moves.of_below HB.out).trans (Moves.of_book (pw := pw) (ps := ps) (v := v) (vl := (.slice (some ⟨b, off, none⟩) (modelK l im).length cp)) hk7))
    have o0 := HW7.out.ob.cell (i := 0) rfl
    have q1 := HG7.out.cell (i := 1) rfl
    have q2 := HG7.out.cell (i := 2) rfl
    have HRES : Hid (∃ R X, (∀ W, Below w7.heap.size w7 W → Calls Tryz.prog 24 #[.pointer (some ⟨ps, 0, none⟩), .int .i64 n, .int .i64 mm, .string BY] W fun e w' => e = .returned (.tuple #[.string R, .int .i64 X]) ∧ Below W.heap.size W w') ∧ ((4611686018427387903 < n ∧ X = 2) ∨ (¬ 4611686018427387903 < n ∧ X = 0 ∧ RecOk S' l im R n s))) := Lib.hid (by
      have hG := HGM.out.2.2.1
      have hhas : hasN l mm = true := (HW.out.sw.inv.up.has_iff mm).2 ⟨g, List.mem_of_getElem? HGM.out.1, HGM.out.2.1⟩
      have hmk : markN l mm = M1 := by
        have h1 := HW.out.sw.inv.up.at HGM.out.1
        rw [HGM.out.2.1] at h1
        rw [markN_at (by rw [h1.1]; exact HGM.out.1) HGM.out.2.1, hG.mark, HGM.out.2.1, ← HGM.out.2.2.2.1, HM.out.1, mkI_ext HM.out.2.2.2.2.1 HGM.out.2.2.2.2]
      have hao : AppOk S' (im mm) ⟨M1, M2, z, L⟩ s := ⟨HPP.out.1, by rw [← HGM.out.2.2.2.1]; exact HM.out.1, by rw [← HGM.out.2.2.2.1]; exact HPP.out.2.1, HM.out.2.1⟩
      by_cases hbig : 4611686018427387903 < n
      · refine ⟨ByteArray.empty, 2, fun W hW => ?_, .inl ⟨hbig, rfl⟩⟩
        refine (stPartly_any W ps p (ps + 1) v l ((HW7.out.below hW).sw.st) (by omega) n mm wn wm BY (by have := HPP.out.2.2.1; omega)).mono ?_
        rintro e w' ⟨hb, ⟨h1, h2⟩ | ⟨h1, _⟩ | ⟨h1, _⟩ | ⟨h1, _⟩ | ⟨h1, _⟩⟩
        · exact ⟨h2, hb⟩
        all_goals exact absurd h1.1.2 (by omega)
      · refine ⟨recD n.toNat mm.toNat M2 BY, 0, fun W hW => ?_, .inr ⟨hbig, rfl, ?_⟩⟩
        · refine (stPartly_any W ps p (ps + 1) v l ((HW7.out.below hW).sw.st) (by omega) n mm wn wm BY (by have := HPP.out.2.2.1; omega)).mono ?_
          have hrd := HPP.out.2.2.2
          have hnm := HNN.out.2.2
          have hok3 : NumOk n ∧ 0 ≤ mm ∧ mm < n := ⟨⟨by omega, by omega⟩, hmm0.1, by omega⟩
          rintro e w' ⟨hb, ⟨h1, _⟩ | ⟨_, h1, _⟩ | ⟨_, _, h1, _⟩ | ⟨_, _, _, h1, _⟩ | ⟨_, _, _, _, h1⟩⟩
          · exact absurd hok3 h1
          · rw [hrd] at h1; exact absurd rfl h1
          · rw [hhas] at h1; cases h1
          · rw [hrd] at h1; exact absurd hmk h1
          · rw [hrd] at h1; exact ⟨h1, hb⟩
        · exact recD_ok ⟨by have := HNN.out.2.2; omega, by omega⟩ (HW.out.sw.inv.ext HM.out.2.2.2.2.1) (List.mem_of_getElem? HGM.out.1) HGM.out.2.1 (by have := HNN.out.2.2; omega) HPP.out.2.2.1 HPP.out.2.2.2 hao HM.out.2.2.2.1)
    obtain ⟨R, X, hPA, hRX⟩ := HRES.out
    have HPA := Lib.hid (hPA w7.drew (bl_drew (Below.refl _ w7)))
    have HRX := Lib.hid hRX
    have HL7 : Hid (pw < w7.heap.size ∧ q < w7.heap.size) := Lib.hid ⟨HW7.out.ob.lt, HG7.out.lt⟩
    clear hb7 hk7 hPA hRX HRES HBYT e0 e1 e2 e3
    go_upto_region 26 with fail
    go_region_held3 (fun w' => w'.cell? ⟨pw, 0, none⟩ = some (.pointer (some ⟨ps, 0, none⟩)) ∧ w'.cell? ⟨q, 1, none⟩ = some (.int .i64 n) ∧ w'.cell? ⟨q, 2, none⟩ = some (.int .i64 mm))
      (first | exact ⟨o0, q1, q2⟩)
      (first | (go_at_call 24; refine HPA.out.mono ?_; rintro e w8 ⟨rfl, hb8⟩; replace o0 := (hb8.cell (p := ⟨pw, 0, none⟩) (by exact HL7.out.1)).trans o0; replace q1 := (hb8.cell (p := ⟨q, 1, none⟩) (by exact HL7.out.2)).trans q1; replace q2 := (hb8.cell (p := ⟨q, 2, none⟩) (by exact HL7.out.2)).trans q2))
    all_goals (
      have hb78 := bl_nx (bl_drew (Below.refl _ w7)) hb8
      have HW8 := Lib.hid (HW7.out.below hb78)
      have HM8 := Lib.hid (HM7.out.trans (Moves.of_below hb78))
      clear hb78 hb8 o0 q2 HPA
      rcases HRX.out with ⟨hbig, rfl⟩ | ⟨hbig, rfl, hrec⟩
      · have d2 : decide (4611686018427387903 < n) = true := decide_eq_true hbig
        have HF : Hid (P w8) := Lib.hid (by
          rw [HP.out]
          exact ⟨v, _, S', l, im, HW8.out, HM8.out, HM.out.2.2.2.2.1, by have := HM.out.2.2.2.2.2; omega, Nat.le_succ _⟩)
        clear hbig
        go_wp2
        go_ret
        exact ⟨rfl, HF.out⟩
      · have d2 : decide (4611686018427387903 < n) = false := decide_eq_false (by omega)
        have HDO := Lib.hid (wDo_rec w8 pw ps p m v _ S' l im HW8.out (by have := HM.out.2.2.2.2.2; omega) (by omega) R n s hrec)
        clear hbig hrec
        go_wp2_with fail
        refine HDO.out.mono ?_
        rintro e wz ⟨rfl, x, hd⟩
        have HF : Hid (P wz) := Lib.hid (by rw [HP.out]; exact hd.stp HM8.out HM.out.2.2.2.2.1 (by have := HM.out.2.2.2.2.2; omega))
        clear hd
        go_wp2
        go_ret
        exact ⟨rfl, HF.out⟩))
end Go.Proofs.YtgkcnocfijckoaaGreat
namespace Go.Proofs.YtgkcnocfijckoaaGreat
open Go.RowKit Sg
set_option linter.unusedVariables false
set_option linter.unusedSimpArgs false
/-- in the midst of a rebase: what is left hangs below the floor -/
structure RbI (l : List Gn) (f : Int) (k : Nat) (l' : List Gn) : Prop where
  gens : l'.map Gn.gen = l.map Gn.gen
  left : ∀ g ∈ l', (f ≤ g.gen → f ≤ g.basis) ∨ g.gen ∈ ((l.filter (rebP f)).drop k).map Gn.gen
theorem RbI.start (l : List Gn) (f : Int) : RbI l f 0 l := by
  refine ⟨rfl, fun g hg => ?_⟩
  by_cases h : f ≤ g.gen → f ≤ g.basis
  · exact .inl h
  · refine .inr (List.mem_map.2 ⟨g, ?_, rfl⟩)
    rw [List.drop_zero]
    refine List.mem_filter.2 ⟨hg, ?_⟩
    unfold rebP
    have h2 : f ≤ g.gen ∧ ¬ f ≤ g.basis := Classical.not_imp.1 h
    rw [Bool.and_eq_true, decide_eq_true_iff, decide_eq_true_iff]
    omega
theorem setN_gens {l : List Gn} {x : Gn} (h : hasN l x.gen = true) : (setN l x).map Gn.gen = l.map Gn.gen := by
  obtain ⟨y, hy, hyg⟩ := hasN_at h
  unfold setN
  rw [if_pos h, List.map_set]
  apply List.ext_getElem?
  intro i
  by_cases hi : i = atN l x.gen
  · subst hi
    rw [List.getElem?_set_self (by rw [List.length_map]; exact (List.getElem?_eq_some_iff.1 hy).1), List.getElem?_map, hy, ← hyg]; rfl
  · rw [List.getElem?_set_ne (fun e => hi e.symm)]
theorem ris_unique {l : List Gn} (h : Ris l) {x y : Gn} (hx : x ∈ l) (hy : y ∈ l) (e : x.gen = y.gen) : x = y := by
  obtain ⟨i, hi⟩ := List.getElem?_of_mem hx
  obtain ⟨j, hj⟩ := List.getElem?_of_mem hy
  have h1 := (h.at hi).1
  have h2 := (h.at hj).1
  rw [e, h2] at h1
  rw [h1, hi] at hj
  exact Option.some.inj hj
theorem RbI.has {l l' : List Gn} {f : Int} {k : Nat} (h : RbI l f k l') (hr : Ris l') {g : Gn} (hg : g ∈ l) : hasN l' g.gen = true := by
  refine (hr.has_iff _).2 ?_
  have h1 : g.gen ∈ l'.map Gn.gen := by rw [h.gens]; exact List.mem_map_of_mem hg
  obtain ⟨x, hx, e⟩ := List.mem_map.1 h1
  exact ⟨x, hx, e⟩
theorem RbI.step {l l' : List Gn} {f : Int} {k : Nat} {g : Gn} {mk tx : ByteArray} (h : RbI l f k l') (hr : Ris l') (hg : (l.filter (rebP f))[k]? = some g) : RbI l f (k + 1) (setN l' ⟨g.gen, g.gen, mk, tx⟩) := by
  have hgl : g ∈ l := (List.mem_filter.1 (List.mem_of_getElem? hg)).1
  have hh := h.has hr hgl
  refine ⟨(setN_gens (x := ⟨g.gen, g.gen, mk, tx⟩) hh).trans h.gens, fun y hy => ?_⟩
  by_cases he : y.gen = g.gen
  · have e := ris_unique (hr.set ⟨g.gen, g.gen, mk, tx⟩) hy (self_setN l' ⟨g.gen, g.gen, mk, tx⟩) he
    rw [e]
    exact .inl (fun h => h)
  · rcases mem_setN hy with e | hyl
    · exact absurd (by rw [e]) he
    · rcases h.left y hyl with h1 | h1
      · exact .inl h1
      · right
        obtain ⟨hk, hk2⟩ := List.getElem?_eq_some_iff.1 hg
        rw [List.drop_eq_getElem_cons hk, hk2, List.map_cons, List.mem_cons] at h1
        rcases h1 with h1 | h1
        · exact absurd h1 he
        · exact h1
theorem RbI.stop {S : Bk} {l l' : List Gn} {im : Int → ByteArray} {f : Int} {k : Nat} (h : RbI l f k l') (hinv : Inv S l' im) (hk : (l.filter (rebP f)).length ≤ k) (c : Int) : l'.any (badG f c) = false := by
  rw [Bool.eq_false_iff]
  intro hb
  obtain ⟨g, hg, h1⟩ := List.any_eq_true.1 hb
  unfold badG at h1
  rw [Bool.and_eq_true] at h1
  obtain ⟨h2, h3⟩ := h1
  unfold staysN at h2 h3
  rw [Bool.and_eq_true, decide_eq_true_iff, decide_eq_true_iff] at h2
  have hle : g.basis ≤ g.gen := by
    rcases (hinv.each g hg).way with ⟨e, _⟩ | ⟨e, _⟩ <;> omega
  rcases h.left g hg with h4 | h4
  · have h5 := h4 h2.1
    have h6 : (decide (f ≤ g.basis) && decide (g.basis < c)) = true := by
      rw [Bool.and_eq_true, decide_eq_true_iff, decide_eq_true_iff]; omega
    rw [h6] at h3; cases h3
  · rw [List.drop_of_length_le hk] at h4; cases h4
theorem model_gens {l l' : List Gn} {im : Int → ByteArray} (h : l'.map Gn.gen = l.map Gn.gen) : modelK l' im = modelK l im := by
  have e : ∀ l : List Gn, modelK l im = (l.map Gn.gen).map (fun n => ⟨n, im n⟩) := fun l => by unfold modelK; rw [List.map_map]; rfl
  rw [e, e, h]
theorem updI_id (im : Int → ByteArray) (n : Int) : updI im n (im n) = im := by
  funext k
  unfold updI
  split
  · rename_i h; rw [h]
  · rfl
theorem reb_at {S : Bk} {im : Int → ByteArray} {f : Int} {l : List Gn} {k : Nat} {R : ByteArray} (h : (rebR S im f l)[k]? = some R) : ∃ g, (l.filter (rebP f))[k]? = some g ∧ R = recW g.gen.toNat (mkI S (im g.gen)) (im g.gen) := by
  unfold rebR at h
  rw [List.getElem?_map] at h
  cases hg : (l.filter (rebP f))[k]? with
  | none => rw [hg] at h; cases h
  | some g => rw [hg] at h; exact ⟨g, rfl, (Option.some.inj h).symm⟩
theorem reb_do {S : Bk} {l l' : List Gn} {im : Int → ByteArray} {f : Int} {k : Nat} {g : Gn} (h : RbI l f k l') (hinv : Inv S l' im) (hinv0 : Inv S l im) (hg : (l.filter (rebP f))[k]? = some g) :
    doS S l' im (recW g.gen.toNat (mkI S (im g.gen)) (im g.gen)).data.toList = (0, setN l' ⟨g.gen, g.gen, mkI S (im g.gen), im g.gen⟩, im, S) ∧ (recW g.gen.toNat (mkI S (im g.gen)) (im g.gen)).size ≤ 600000 := by
  have hgl : g ∈ l := (List.mem_filter.1 (List.mem_of_getElem? hg)).1
  have hG := hinv0.each g hgl
  have e : ((g.gen.toNat : Nat) : Int) = g.gen := by have := hG.lo; omega
  have hd := doS_W (S := S) (l := l') (im := im) (n := g.gen.toNat) (t := im g.gen) (by have := hG.lo; have := hG.hi; omega) hG.ilen hG.mem
  rw [e] at hd
  refine ⟨?_, ?_⟩
  · rw [hd.2 ?_, updI_id]
    rintro ⟨x, hx, hxg, h1, _⟩
    have hX := hinv.each x (List.mem_of_getElem? hx)
    apply h1
    rw [hX.mark, hxg]
  · rw [recW_size, mkI_size]
    have := numL_le9 g.gen.toNat (by have := hG.lo; have := hG.hi; omega)
    have := hG.ilen
    omega
theorem recW_head (n : Nat) (mk t : ByteArray) : ∃ r, (recW n mk t).data.toList = 87 :: r := by
  refine ⟨numL n ++ (mk.data.toList ++ t.data.toList), ?_⟩
  unfold recW; simp [ByteArray.data_append, numBs]
/-- a whole's record, however long -/
theorem SW.doW_ {w : World} {ps p m : Nat} {v : Value} {S : Bk} {l : List Gn} {im : Int → ByteArray} (h : SW w ps p m v S l im) (hS : S.length ≤ 90000000) (hl : l.length < 4096) (s : ByteArray) (hs : s.size ≤ 1000000) (hr : ∃ r, s.data.toList = 87 :: r) :
    Calls Tryz.prog 13 #[.pointer (some ⟨ps, 0, none⟩), .string s] w fun e w' => ∃ x v' S' l' im', e = .returned (.int .i64 x) ∧ SWD w ps p m v S l im s w' x v' S' l' im' := by
  have h1 := h.lt
  have h2 := h.psl
  refine (stDo_any w ps p m (ps + 1) v S l im s h.st h.bk h.inv hS hs ⟨by omega, by omega, by omega, h2⟩ ⟨by omega, by omega⟩).mono ?_
  rintro e w' ⟨rfl, v', a1, a2, a3, a4⟩
  obtain ⟨r, hr⟩ := hr
  have hi : DoI S l im (doS S l im s.data.toList) := by
    rw [hr]
    exact doW_inv h.inv hl hS (r, 0)
  obtain ⟨D, hD⟩ : ∃ D, D = doS S l im s.data.toList := ⟨_, rfl⟩
  rw [← hD] at hi a1 a2 ⊢
  obtain ⟨x, l', im', S'⟩ := D
  exact ⟨x, v', S', l', im', rfl, hD.symm, ⟨a1, a2, hi.inv, h.lt⟩, a3, a4, hi.ext, hi.slen, hi.llen, hi.bad⟩
end Go.Proofs.YtgkcnocfijckoaaGreat
