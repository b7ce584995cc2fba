/- The program's reading of a message: readM. Conditions: as named in each theorem. -/
import Derived.Test.YtlcpnpoleaanmaaMsgRead0
import Derived.Test.YtlcpnpoleaanmaaMsgMem
namespace Go.Proofs.Ytlcpnpoleaanmaa
open Go.RowKit
set_option linter.unusedVariables false

def MReadP (w : World) (pr : Nat) (s : ByteArray) (z : RSt) (e : Ending) (w' : World) : Prop :=
  ∃ ao n cap, e = .returned (.agg (mgC (readM z).1 (.slice ao n cap)).toArray) ∧ RdB 92 w' pr s (readM z).2 ∧ Rs w' ao n cap 3 (readM z).1.list enC ∧ (readM z).1.list.length ≤ 1000 ∧ w.grownBy w' (some pr) ∧ ∀ b off, ao = some ⟨b, off, none⟩ → w.heap.size ≤ b

theorem putM_grown (w : World) (q : Nat) (m : Mg) (v : Value) : w.grownBy (putM w q m v) (some q) := by
  unfold putM
  exact grown_set (grown_set (grown_set (grown_set (grown_set (grown_set (grown_set (grown_set (grown_set (grown_set (grown_set (grown_set (grown_set (grown_set (grown_refl w (some q)) 0 _) 1 _) 2 _) 3 _) 4 _) 5 _) 6 _) 7 _) 8 _) 9 _) 10 _) 11 _) 12 _) 13 _
theorem MrS.cell {w wr : World} {pz pr pg L : Nat} {o : Obj} {s : ByteArray} {m m' : Mg} {v : Value} {z : RSt} (h : MrS w wr pz pr pg L o s m v z) (i : Nat) (x : Value) (e : (mgC m v).set i x = mgC m' v) (hl : m'.list = m.list) :
    MrS w (wr.setCell ⟨pg, i, none⟩ x) pz pr pg L o s m' v z := h.put (grown_set (grown_refl _ _) _ _) (by rw [← e]; exact h.g.set i x) hl
theorem cells_newM (w : World) (l : List Value) (e : TypeId) : ∀ j u, l[j]? = some u → (w.alloc (.cells l.toArray e)).cell? ((⟨w.heap.size, 0, none⟩ : Addr).add j) = some u := by
  intro j u hj
  have h1 : (⟨w.heap.size, 0, none⟩ : Addr).add j = ⟨w.heap.size, j, none⟩ := by unfold Addr.add; split <;> simp_all
  rw [h1]
  exact (Blk.new w l e).cell hj
theorem grown_any {a b : World} (h : a.grownBy b none) {row : Option Nat} : a.grownBy b row := ⟨h.os, h.tape, h.output, h.size, fun k hk _ => h.block k hk (by simp)⟩
set_option maxRecDepth 100000 in
set_option maxHeartbeats 20000000 in
theorem mread_any (w : World) (pr : Nat) (s : ByteArray) (z0 : RSt) (hs : s.size ≤ 1000000000) (h : RdB 92 w pr s z0) :
    Calls Try.prog 43 #[.pointer (some ⟨pr, 0, none⟩)] w (MReadP w pr s z0) := by
  obtain ⟨i0, hi, hz0, hz1, hz2⟩ := info_parts infoEn
  have hmz := mgZ_run
  obtain ⟨V1, hV1⟩ : ∃ V, V = w.alloc (.cells mgZ.toArray 26) := ⟨_, rfl⟩
  obtain ⟨pz, hpz⟩ : ∃ p, p = w.heap.size := ⟨_, rfl⟩
  have hZ : Blk V1 pz mgZ 26 := by rw [hV1, hpz]; exact Blk.new _ _ _
  have hr1 : RdB 92 V1 pr s z0 := by rw [hV1]; exact h.grown (World.grownBy_alloc w _ none) (by simp)
  have hprw : pr < w.heap.size := h.lt
  obtain ⟨n1, hn1⟩ : ∃ R, R = stNum z0 := ⟨_, rfl⟩
  obtain ⟨n2, hn2⟩ : ∃ R, R = stNum n1.2 := ⟨_, rfl⟩
  obtain ⟨n3, hn3⟩ : ∃ R, R = stNum n2.2 := ⟨_, rfl⟩
  have hg1 : w.grownBy V1 (some pr) := by rw [hV1]; exact grown_alloc (grown_refl _ _) _
  have H1 := Lib.hid (And.intro hZ (And.intro hr1 hg1))
  have HH : Hid (rdH z0 = (mg0 (n1.1 : Nat) (n2.1 : Nat) (n3.1 : Nat), n3.2)) := Lib.hid (by unfold rdH; rw [← hn1, ← hn2, ← hn3])
  have HN1 := Lib.hid (hn1 : n1 = stNum z0)
  have HN2 := Lib.hid (hn2 : n2 = stNum n1.2)
  have HN3 := Lib.hid (hn3 : n3 = stNum n2.2)
  unfold mgZ mgC mg0 at hV1
  simp only at hV1
  have HV1 := Lib.hid hV1
  have HPZ := Lib.hid hpz
  clear hV1 hpz hZ hr1 hg1 hn1 hn2 hn3 h
  go_enter Try.func43, Try.ntmps43
  go_upto_region 1 with fail
  rw [← HPZ.out, ← HV1.out]
  go_wp2_with fail
  refine (num_rd V1 pr s z0 hs H1.out.2.1).mono ?_
  rw [← HN1.out]
  rintro e w2 ⟨rfl, hr2, hg2⟩
  have H2 := Lib.hid (And.intro (H1.out.1.grown hg2 (by have := HPZ.out; simp; omega)) (And.intro hr2 (grown_trans H1.out.2.2 hg2)))
  clear hr2 hg2
  go_wp2_with fail
  refine (num_rd w2 pr s n1.2 hs H2.out.2.1).mono ?_
  rw [← HN2.out]
  rintro e w3 ⟨rfl, hr3, hg3⟩
  have H3 := Lib.hid (And.intro (H2.out.1.grown hg3 (by have := HPZ.out; simp; omega)) (And.intro hr3 (grown_trans H2.out.2.2 hg3)))
  clear hr3 hg3
  go_wp2_with fail
  refine (num_rd w3 pr s n2.2 hs H3.out.2.1).mono ?_
  rw [← HN3.out]
  rintro e w4 ⟨rfl, hr4, hg4⟩
  have H4 := Lib.hid (And.intro (H3.out.1.grown hg4 (by have := HPZ.out; simp; omega)) (And.intro hr4 (grown_trans H3.out.2.2 hg4)))
  clear hr4 hg4
  obtain ⟨V5, hV5⟩ : ∃ V, V = w4.alloc (.cells (mgC (mg0 (n1.1 : Nat) (n2.1 : Nat) (n3.1 : Nat)) (.slice none 0 0)).toArray 26) := ⟨_, rfl⟩
  obtain ⟨pg, hpg⟩ : ∃ p, p = w4.heap.size := ⟨_, rfl⟩
  have hG5 : Blk V5 pg (mgC (mg0 (n1.1 : Nat) (n2.1 : Nat) (n3.1 : Nat)) (.slice none 0 0)) 26 := by rw [hV5, hpg]; exact Blk.new _ _ _
  have d0 := hG5.cell (i := 0) rfl
  have HG5 := Lib.hid hG5
  unfold mgC mg0 at hV5
  simp only at hV5
  have HV5 := Lib.hid hV5
  have HPG := Lib.hid hpg
  obtain ⟨kd, hkd⟩ : ∃ k : Int, k = ((n1.1 : Nat) : Int) := ⟨_, rfl⟩
  obtain ⟨cl, C, fz, hlc, hcv, hC⟩ := letters_run V5 (lowS kd)
  obtain ⟨nl, hnl⟩ : ∃ nl, nl = (lowS kd).size := ⟨_, rfl⟩
  have hnl2 : nl = (flds kd).length := by rw [hnl]; show (low (flds kd)).length = _; unfold low; rw [List.length_map]
  have hnl5 : nl ≤ 5 := by rw [hnl2]; exact flds_len _
  rw [← hnl] at hcv hlc
  obtain ⟨W, hW⟩ : ∃ W, W = (V5.alloc (Obj.cells C 5 fz)).drew := ⟨_, rfl⟩
  obtain ⟨L, hL⟩ : ∃ L, L = V5.heap.size := ⟨_, rfl⟩
  have hSt : MrS w W pz pr pg L (Obj.cells C 5 fz) s (mg0 (n1.1 : Nat) (n2.1 : Nat) (n3.1 : Nat)) (.slice none 0 0) n3.2 := by
    have e5 : w4.grownBy V5 none := by rw [hV5]; exact World.grownBy_alloc w4 _ none
    have e6 : V5.grownBy W none := by rw [hW]; exact grown_drew (World.grownBy_alloc V5 _ none)
    have q1 := HPZ.out
    have q2 := H4.out.1.lt
    refine ⟨(H4.out.1.grown e5 (by simp)).grown e6 (by simp), hG5.grown e6 (by simp), (H4.out.2.1.grown e5 (by simp)).grown e6 (by simp), World.ownsRow_nil _ _ _ _, by rw [hW, hL]; exact heap_alloc_new V5 _, ?_, hprw, by omega, by omega, by rw [hL, hV5]; simp; omega⟩
    exact grown_trans (grown_trans H4.out.2.2 (grown_any e5)) (grown_any e6)
  have HST := Lib.hid hSt
  have HNL := Lib.hid hnl
  have HNL2 := Lib.hid hnl2
  have HW := Lib.hid hW
  have HLL := Lib.hid hL
  have HC := Lib.hid hC
  have HCV := Lib.hid hcv
  have HKD := Lib.hid hkd
  clear hG5 hV5 hpg hlc hcv hC hnl hnl2 hW hL hSt hkd
  go_upto_region 2 with fail
  rw [← HPG.out, ← HV5.out]
  go_wp2_with fail
  rw [← HKD.out]
  refine (form_any V5 kd).mono ?_
  rintro e wf ⟨rfl, rfl⟩
  have hcv := HCV.out
  go_wp2_with fail
  rw [← HLL.out, ← HW.out]
  clear hcv d0 hmz
  clear HCV
  obtain ⟨R0, hR0⟩ : ∃ R, R = rdH z0 := ⟨_, rfl⟩
  have HR0 := Lib.hid hR0
  obtain ⟨O, hO⟩ : ∃ O, O = Obj.cells C 5 fz := ⟨_, rfl⟩
  rw [← hO] at HST
  have hOc : ∀ (wr : World) (k : Nat) (u : UInt8), wr.heap[L]? = some O → (flds kd)[k]? = some u → wr.cell? ⟨L, k, none⟩ = some (.int .u8 ((u + 32).toNat : Nat)) := fun wr k u h1 h2 => by
    rw [hO] at h1; exact cell_heap h1 (HC.out k _ (low_at h2))
  have HOC := Lib.hid hOc
  have HST0 : Hid (rdAll ((flds kd).take 0) R0 = (mg0 (n1.1 : Nat) (n2.1 : Nat) (n3.1 : Nat), n3.2)) := Lib.hid (by rw [List.take_zero, hR0, ← HH.out]; rfl)
  clear hR0 hO hOc HC
  go_loopw [19] (fun i wr => ∃ k : Nat, k ≤ nl ∧ i = .int .i64 k ∧ ∃ (m : Mg) (v : Value) (z : RSt), Hid (rdAll ((flds kd).take k) R0 = (m, z)) ∧ MrS w wr pz pr pg L O s m v z ∧ m.list.length ≤ 64 * k) (fun i _ => nl - (intOf i).toNat)
  case atStart => exact ⟨0, by omega, rfl, _, _, _, HST0, HST.out, by simp [mg0]⟩
  case round =>
    clear HST HST0
    obtain ⟨k, hk, rfl, m, v, z, HR, hS, hml⟩ := hrel
    by_cases hlt : k < nl
    case neg =>
      have hkn : k = nl := by omega
      have e : (flds kd).take k = flds kd := by rw [hkn, HNL2.out, List.take_length]
      have hfin : readM z0 = (m, z) := by
        unfold readM
        have h1 : (rdH z0).1.kind = kd := by rw [HH.out, HKD.out]; rfl
        rw [h1, ← HR0.out, ← e]; exact HR.out
      obtain ⟨ao, cap, rfl⟩ := owns_slice hS.i
      have HS := Lib.hid hS
      have HF := Lib.hid hfin
      clear e hfin hS HR
      go_wp2_with (first | (refine ld_mg HS.out.g rfl rfl rfl ?_) | (refine st_mg (m := m) (ao := ao) (n := m.list.length) (cap := cap) HS.out.zb rfl rfl rfl rfl ?_))
      refine bodyPost_ret (results_cell_row rfl _ _ pz 26 _ (0, 0) _ rfl (putM_blk HS.out.zb) Try.underlying26 rfl (by kernel_rfl)) rfl ?_
      have hgp := putM_grown wr pz m (.slice ao m.list.length cap)
      have h1 := HS.out.o1; have h2 := HS.out.o2; have h3 := HS.out.o3; have h4 := HS.out.o4
      have hq := World.ownsRow.kept HS.out.i hgp (.inr fun e => by have := (World.ownsRow.lt HS.out.i pz e).1; omega)
      have hR5 := Rs.of_owns en_len rfl hq
      unfold MReadP
      rw [HF.out]
      refine ⟨ao, m.list.length, cap, rfl, HS.out.r.grown hgp (by simp; omega), hR5, by show m.list.length ≤ 1000; omega, ?_⟩
      refine ⟨?_, fun b off e => by have := (World.ownsRow.lt HS.out.i b (by rw [e]; rfl)).1; omega⟩
      exact ⟨hgp.os.trans HS.out.gr.os, hgp.tape.trans HS.out.gr.tape, hgp.output.trans HS.out.gr.output, Nat.le_trans HS.out.gr.size hgp.size, fun k hk1 hk2 => by
        rw [hgp.block k (Nat.lt_of_lt_of_le hk1 HS.out.gr.size) (by simp; omega)]; exact HS.out.gr.block k hk1 hk2⟩
    have hkf : k < (flds kd).length := by rw [← HNL2.out]; exact hlt
    obtain ⟨u, hu⟩ : ∃ u, (flds kd)[k]? = some u := ⟨_, List.getElem?_eq_getElem hkf⟩
    have hum : u ∈ flds kd := List.mem_of_getElem? hu
    have hnine := nine_cases (flds_nine kd u hum)
    have a0 := HOC.out wr k u hS.lt hu
    have htk : (flds kd).take (k + 1) = (flds kd).take k ++ [u] := by
      obtain ⟨h1, h2⟩ := List.getElem?_eq_some_iff.1 hu
      rw [List.take_succ_eq_append_getElem h1, h2]
    have HTK : Hid (rdAll ((flds kd).take (k + 1)) R0 = rdF u (m, z)) := Lib.hid (by rw [htk, rdAll_snoc, HR.out])
    have HS := Lib.hid hS
    have i2 : (k : Int) < (nl : Int) := by omega
    clear hu hum hkf htk hS HR
    rcases hnine with rfl | rfl | rfl | rfl | rfl | rfl | rfl | rfl | rfl

    · as_aux_lemma =>
        have a1 : wr.cell? ⟨L, k, none⟩ = some (.int .u8 98) := a0
        have HN := Lib.hid (num_rd wr pr s z hs HS.out.r)
        obtain ⟨Q, hQ⟩ : ∃ Q, Q = stNum z := ⟨_, rfl⟩
        have hF : rdF 66 (m, z) = (setM m 66 (Q.1 : Nat), Q.2) := by rw [hQ]; rfl
        rw [← hQ] at HN
        have HT := Lib.hid (HTK.out.trans hF)
        clear a0 hQ hF HTK
        go_wp2_with fail
        refine HN.out.mono ?_
        rintro e w2 ⟨rfl, hr2, hg2⟩
        have HS2 := Lib.hid (HS.out.read hr2 hg2)
        clear hr2 hg2
        have x := HS2.out.g.cell (i := 3) rfl
        have y := HS2.out.g.frozen 3
        have HS3 : Hid (MrS w (w2.setCell ⟨pg, 3, none⟩ (.int .i64 (Q.1 : Nat))) pz pr pg L O s (setM m 66 (Q.1 : Nat)) v Q.2) := Lib.hid (HS2.out.cell 3 _ rfl rfl)
        have hl3 : (setM m 66 (Q.1 : Nat)).list.length ≤ 64 * (k + 1) := by show m.list.length ≤ _; omega
        go_wp2
        go_roundw
        case rel => exact ⟨k + 1, by omega, by go_num, _, _, _, HT, HS3.out, hl3⟩
        case measure => simp [intOf]; omega
    · as_aux_lemma =>
        have a1 : wr.cell? ⟨L, k, none⟩ = some (.int .u8 103) := a0
        have HN := Lib.hid (num_rd wr pr s z hs HS.out.r)
        obtain ⟨Q, hQ⟩ : ∃ Q, Q = stNum z := ⟨_, rfl⟩
        have hF : rdF 71 (m, z) = (setM m 71 (Q.1 : Nat), Q.2) := by rw [hQ]; rfl
        rw [← hQ] at HN
        have HT := Lib.hid (HTK.out.trans hF)
        clear a0 hQ hF HTK
        go_wp2_with fail
        refine HN.out.mono ?_
        rintro e w2 ⟨rfl, hr2, hg2⟩
        have HS2 := Lib.hid (HS.out.read hr2 hg2)
        clear hr2 hg2
        have x := HS2.out.g.cell (i := 4) rfl
        have y := HS2.out.g.frozen 4
        have HS3 : Hid (MrS w (w2.setCell ⟨pg, 4, none⟩ (.int .i64 (Q.1 : Nat))) pz pr pg L O s (setM m 71 (Q.1 : Nat)) v Q.2) := Lib.hid (HS2.out.cell 4 _ rfl rfl)
        have hl3 : (setM m 71 (Q.1 : Nat)).list.length ≤ 64 * (k + 1) := by show m.list.length ≤ _; omega
        go_wp2
        go_roundw
        case rel => exact ⟨k + 1, by omega, by go_num, _, _, _, HT, HS3.out, hl3⟩
        case measure => simp [intOf]; omega
    · as_aux_lemma =>
        have a1 : wr.cell? ⟨L, k, none⟩ = some (.int .u8 115) := a0
        have HN := Lib.hid (num_rd wr pr s z hs HS.out.r)
        obtain ⟨Q, hQ⟩ : ∃ Q, Q = stNum z := ⟨_, rfl⟩
        have hF : rdF 83 (m, z) = (setM m 83 (Q.1 : Nat), Q.2) := by rw [hQ]; rfl
        rw [← hQ] at HN
        have HT := Lib.hid (HTK.out.trans hF)
        clear a0 hQ hF HTK
        go_wp2_with fail
        refine HN.out.mono ?_
        rintro e w2 ⟨rfl, hr2, hg2⟩
        have HS2 := Lib.hid (HS.out.read hr2 hg2)
        clear hr2 hg2
        have x := HS2.out.g.cell (i := 5) rfl
        have y := HS2.out.g.frozen 5
        have HS3 : Hid (MrS w (w2.setCell ⟨pg, 5, none⟩ (.int .i64 (Q.1 : Nat))) pz pr pg L O s (setM m 83 (Q.1 : Nat)) v Q.2) := Lib.hid (HS2.out.cell 5 _ rfl rfl)
        have hl3 : (setM m 83 (Q.1 : Nat)).list.length ≤ 64 * (k + 1) := by show m.list.length ≤ _; omega
        go_wp2
        go_roundw
        case rel => exact ⟨k + 1, by omega, by go_num, _, _, _, HT, HS3.out, hl3⟩
        case measure => simp [intOf]; omega
    · as_aux_lemma =>
        have a1 : wr.cell? ⟨L, k, none⟩ = some (.int .u8 102) := a0
        have HN := Lib.hid (num_rd wr pr s z hs HS.out.r)
        obtain ⟨Q, hQ⟩ : ∃ Q, Q = stNum z := ⟨_, rfl⟩
        have hF : rdF 70 (m, z) = (setM m 70 (Q.1 : Nat), Q.2) := by rw [hQ]; rfl
        rw [← hQ] at HN
        have HT := Lib.hid (HTK.out.trans hF)
        clear a0 hQ hF HTK
        go_wp2_with fail
        refine HN.out.mono ?_
        rintro e w2 ⟨rfl, hr2, hg2⟩
        have HS2 := Lib.hid (HS.out.read hr2 hg2)
        clear hr2 hg2
        have x := HS2.out.g.cell (i := 6) rfl
        have y := HS2.out.g.frozen 6
        have HS3 : Hid (MrS w (w2.setCell ⟨pg, 6, none⟩ (.int .i64 (Q.1 : Nat))) pz pr pg L O s (setM m 70 (Q.1 : Nat)) v Q.2) := Lib.hid (HS2.out.cell 6 _ rfl rfl)
        have hl3 : (setM m 70 (Q.1 : Nat)).list.length ≤ 64 * (k + 1) := by show m.list.length ≤ _; omega
        go_wp2
        go_roundw
        case rel => exact ⟨k + 1, by omega, by go_num, _, _, _, HT, HS3.out, hl3⟩
        case measure => simp [intOf]; omega
    · as_aux_lemma =>
        have a1 : wr.cell? ⟨L, k, none⟩ = some (.int .u8 116) := a0
        have HN := Lib.hid (num_rd wr pr s z hs HS.out.r)
        obtain ⟨Q, hQ⟩ : ∃ Q, Q = stNum z := ⟨_, rfl⟩
        have hF : rdF 84 (m, z) = (setM m 84 (Q.1 : Nat), Q.2) := by rw [hQ]; rfl
        rw [← hQ] at HN
        have HT := Lib.hid (HTK.out.trans hF)
        clear a0 hQ hF HTK
        go_wp2_with fail
        refine HN.out.mono ?_
        rintro e w2 ⟨rfl, hr2, hg2⟩
        have HS2 := Lib.hid (HS.out.read hr2 hg2)
        clear hr2 hg2
        have x := HS2.out.g.cell (i := 7) rfl
        have y := HS2.out.g.frozen 7
        have HS3 : Hid (MrS w (w2.setCell ⟨pg, 7, none⟩ (.int .i64 (Q.1 : Nat))) pz pr pg L O s (setM m 84 (Q.1 : Nat)) v Q.2) := Lib.hid (HS2.out.cell 7 _ rfl rfl)
        have hl3 : (setM m 84 (Q.1 : Nat)).list.length ≤ 64 * (k + 1) := by show m.list.length ≤ _; omega
        go_wp2
        go_roundw
        case rel => exact ⟨k + 1, by omega, by go_num, _, _, _, HT, HS3.out, hl3⟩
        case measure => simp [intOf]; omega
    · as_aux_lemma =>
        have a1 : wr.cell? ⟨L, k, none⟩ = some (.int .u8 114) := a0
        have HN := Lib.hid (num_rd wr pr s z hs HS.out.r)
        obtain ⟨Q, hQ⟩ : ∃ Q, Q = stNum z := ⟨_, rfl⟩
        have hF : rdF 82 (m, z) = (setM m 82 (Q.1 : Nat), Q.2) := by rw [hQ]; rfl
        rw [← hQ] at HN
        have HT := Lib.hid (HTK.out.trans hF)
        clear a0 hQ hF HTK
        go_wp2_with fail
        refine HN.out.mono ?_
        rintro e w2 ⟨rfl, hr2, hg2⟩
        have HS2 := Lib.hid (HS.out.read hr2 hg2)
        clear hr2 hg2
        have x := HS2.out.g.cell (i := 8) rfl
        have y := HS2.out.g.frozen 8
        have HS3 : Hid (MrS w (w2.setCell ⟨pg, 8, none⟩ (.int .i64 (Q.1 : Nat))) pz pr pg L O s (setM m 82 (Q.1 : Nat)) v Q.2) := Lib.hid (HS2.out.cell 8 _ rfl rfl)
        have hl3 : (setM m 82 (Q.1 : Nat)).list.length ≤ 64 * (k + 1) := by show m.list.length ≤ _; omega
        go_wp2
        go_roundw
        case rel => exact ⟨k + 1, by omega, by go_num, _, _, _, HT, HS3.out, hl3⟩
        case measure => simp [intOf]; omega
    · as_aux_lemma =>
        have a1 : wr.cell? ⟨L, k, none⟩ = some (.int .u8 109) := a0
        have HN := Lib.hid (raw_rd wr pr s z 32 (by decide) hs HS.out.r)
        obtain ⟨Q, hQ⟩ : ∃ Q, Q = stRaw 32 z := ⟨_, rfl⟩
        have hF : rdF 77 (m, z) = ({ m with mark := mkB Q.1 }, Q.2) := by rw [hQ]; rfl
        rw [← hQ] at HN
        have HT := Lib.hid (HTK.out.trans hF)
        clear a0 hQ hF HTK
        go_wp2_with fail
        refine HN.out.mono ?_
        rintro e w2 ⟨rfl, hr2, hg2⟩
        have HS2 := Lib.hid (HS.out.read hr2 hg2)
        clear hr2 hg2
        have x := HS2.out.g.cell (i := 9) rfl
        have y := HS2.out.g.frozen 9
        have HS3 : Hid (MrS w (w2.setCell ⟨pg, 9, none⟩ (.string (mkB Q.1))) pz pr pg L O s { m with mark := mkB Q.1 } v Q.2) := Lib.hid (HS2.out.cell 9 _ rfl rfl)
        have hl3 : m.list.length ≤ 64 * (k + 1) := by omega
        go_wp2
        go_roundw
        case rel => exact ⟨k + 1, by omega, by go_num, _, _, _, HT, HS3.out, hl3⟩
        case measure => simp [intOf]; omega
    · as_aux_lemma =>
        have a1 : wr.cell? ⟨L, k, none⟩ = some (.int .u8 112) := a0
        obtain ⟨Q1, hQ1⟩ : ∃ Q, Q = stNum z := ⟨_, rfl⟩
        obtain ⟨Q2, hQ2⟩ : ∃ Q, Q = stNum Q1.2 := ⟨_, rfl⟩
        obtain ⟨Q3, hQ3⟩ : ∃ Q, Q = stText 1024 Q2.2 := ⟨_, rfl⟩
        have hF : rdF 80 (m, z) = ({ m with pat := (Q1.1 : Nat), pof := (Q2.1 : Nat), ptext := mkB Q3.1 }, Q3.2) := by rw [hQ3, hQ2, hQ1]; rfl
        have HN1 := Lib.hid (num_rd wr pr s z hs HS.out.r)
        rw [← hQ1] at HN1
        have HQ2 := Lib.hid hQ2
        have HQ3 := Lib.hid hQ3
        have HT := Lib.hid (HTK.out.trans hF)
        clear a0 hQ1 hQ2 hQ3 hF HTK
        go_wp2_with fail
        refine HN1.out.mono ?_
        rintro e w2 ⟨rfl, hr2, hg2⟩
        have HS2 := Lib.hid (HS.out.read hr2 hg2)
        have HN2 := Lib.hid (num_rd w2 pr s Q1.2 hs hr2)
        rw [← HQ2.out] at HN2
        clear hr2 hg2 HN1
        go_wp2_with fail
        refine HN2.out.mono ?_
        rintro e w3 ⟨rfl, hr3, hg3⟩
        have HS3 := Lib.hid (HS2.out.read hr3 hg3)
        have HN3 := Lib.hid (text_rd w3 pr s Q2.2 1024 (by decide) hs hr3)
        rw [← HQ3.out] at HN3
        clear hr3 hg3 HN2
        go_wp2_with fail
        refine HN3.out.mono ?_
        rintro e w4 ⟨rfl, hr4, hg4⟩
        have HS4 := Lib.hid (HS3.out.read hr4 hg4)
        clear hr4 hg4 HN3
        have x10 := HS4.out.g.cell (i := 10) rfl
        have y10 := HS4.out.g.frozen 10
        have x11 := HS4.out.g.cell (i := 11) rfl
        have y11 := HS4.out.g.frozen 11
        have x12 := HS4.out.g.cell (i := 12) rfl
        have y12 := HS4.out.g.frozen 12
        have HS5 : Hid (MrS w (((w4.setCell ⟨pg, 10, none⟩ (.int .i64 (Q1.1 : Nat))).setCell ⟨pg, 11, none⟩ (.int .i64 (Q2.1 : Nat))).setCell ⟨pg, 12, none⟩ (.string (mkB Q3.1))) pz pr pg L O s { m with pat := (Q1.1 : Nat), pof := (Q2.1 : Nat), ptext := mkB Q3.1 } v Q3.2) :=
          Lib.hid (((HS4.out.cell (m' := { m with pat := (Q1.1 : Nat) }) 10 _ rfl rfl).cell (m' := { m with pat := (Q1.1 : Nat), pof := (Q2.1 : Nat) }) 11 _ rfl rfl).cell 12 _ rfl rfl)
        have hl3 : m.list.length ≤ 64 * (k + 1) := by omega
        go_wp2
        go_roundw
        case rel => exact ⟨k + 1, by omega, by go_num, _, _, _, HT, HS5.out, hl3⟩
        case measure => simp [intOf]; omega
    · as_aux_lemma =>
        have a1 : wr.cell? ⟨L, k, none⟩ = some (.int .u8 108) := a0
        obtain ⟨Q, hQ⟩ : ∃ Q, Q = stCount 64 z := ⟨_, rfl⟩
        have hF : rdF 76 (m, z) = ({ m with list := m.list ++ (rdEs Q.1 Q.2).1 }, (rdEs Q.1 Q.2).2) := by rw [hQ]; rfl
        have HN1 := Lib.hid (count_rd wr pr s z 64 (by decide) hs HS.out.r)
        have hQ64 := stCount_bd 64 z
        rw [← hQ] at HN1 hQ64
        have HT := Lib.hid (HTK.out.trans hF)
        clear a0 hQ hF HTK
        go_wp2_with fail
        refine HN1.out.mono ?_
        rintro e w2 ⟨rfl, hr2, hg2⟩
        have HS2 := Lib.hid (HS.out.read hr2 hg2)
        clear hr2 hg2 HN1 HS a1
        obtain ⟨c, z1⟩ := Q
        simp only at hQ64 HT HS2 ⊢
        go_wp2_with fail
        go_loopw [73] (fun i wx => ∃ j : Nat, j ≤ c ∧ i = .int .i64 j ∧ ∃ (l : List En) (v2 : Value) (z2 : RSt), Hid (rdEs j z1 = (l, z2)) ∧ l.length ≤ j ∧ MrS w wx pz pr pg L O s { m with list := m.list ++ l } v2 z2) (fun i _ => c - (intOf i).toNat)
        case atStart => exact ⟨0, by omega, rfl, [], v, z1, Lib.hid rfl, by simp, by rw [List.append_nil]; exact HS2.out⟩
        case round =>
          clear HS2
          obtain ⟨j, hj, rfl, l, v2, z2, HE, hlj, hS⟩ := hrel
          by_cases hjc : j < c
          case neg =>
            have hjn : j = c := by omega
            rw [hjn] at HE
            rw [HE.out] at HT
            have HS2 := Lib.hid hS
            have hl3 : (m.list ++ l).length ≤ 64 * (k + 1) := by rw [List.length_append]; omega
            clear hS HE hjn
            go_wp2
            go_roundw
            case rel => exact ⟨k + 1, by omega, by go_num, _, _, _, HT, HS2.out, hl3⟩
            case measure => simp [intOf]; omega
          case pos =>
            obtain ⟨E1, hE1⟩ : ∃ Q, Q = stNum z2 := ⟨_, rfl⟩
            obtain ⟨E2, hE2⟩ : ∃ Q, Q = stNum E1.2 := ⟨_, rfl⟩
            obtain ⟨E3, hE3⟩ : ∃ Q, Q = stRaw 32 E2.2 := ⟨_, rfl⟩
            have hE : rdEs (j + 1) z1 = (l ++ [⟨(E1.1 : Nat), (E2.1 : Nat), mkB E3.1⟩], E3.2) := by
              show ((rdEs j z1).1 ++ [(rdE (rdEs j z1).2).1], (rdE (rdEs j z1).2).2) = _
              rw [HE.out, hE3, hE2, hE1]; rfl
            obtain ⟨ao2, cap2, hv2⟩ := owns_slice hS.i
            obtain ⟨N, hN⟩ : ∃ N, N = (m.list ++ l).length := ⟨_, rfl⟩
            obtain ⟨XS, hXS⟩ : ∃ X, X = (m.list ++ l).flatMap enC := ⟨_, rfl⟩
            obtain rfl : v2 = .slice ao2 N cap2 := by rw [hN]; exact hv2
            have hN1000 : N ≤ 1000 := by rw [hN, List.length_append]; omega
            have HNN := Lib.hid hN
            have HXS := Lib.hid hXS
            have HN1 := Lib.hid (num_rd wr pr s z2 hs hS.r)
            rw [← hE1] at HN1
            have HS := Lib.hid hS
            have HQ2 := Lib.hid hE2
            have HQ3 := Lib.hid hE3
            have HE4 := Lib.hid hE
            have i3 : (j : Int) < (c : Int) := by omega
            have hll2 : l.length + 1 ≤ j + 1 := by omega
            clear hS hE1 hE2 hE3 hE HE hlj hN hXS hv2
            go_wp2_with fail
            refine HN1.out.mono ?_
            rintro e w2 ⟨rfl, hr2, hg2⟩
            have HS2 := Lib.hid (HS.out.read hr2 hg2)
            have HN2 := Lib.hid (num_rd w2 pr s E1.2 hs hr2)
            rw [← HQ2.out] at HN2
            clear hr2 hg2 HN1
            go_wp2_with fail
            refine HN2.out.mono ?_
            rintro e w3 ⟨rfl, hr3, hg3⟩
            have HS3 := Lib.hid (HS2.out.read hr3 hg3)
            have HN3 := Lib.hid (raw_rd w3 pr s E2.2 32 (by decide) hs hr3)
            rw [← HQ3.out] at HN3
            clear hr3 hg3 HN2
            go_wp2_with fail
            refine HN3.out.mono ?_
            rintro e w4 ⟨rfl, hr4, hg4⟩
            have HS4 := Lib.hid (HS3.out.read hr4 hg4)
            clear hr4 hg4 HN3 HS HS2 HS3
            obtain ⟨X, hX⟩ : ∃ X : En, X = ⟨(E1.1 : Nat), (E2.1 : Nat), mkB E3.1⟩ := ⟨_, rfl⟩
            rw [← hX] at HE4
            obtain ⟨Wa, hWa⟩ : ∃ W, W = w4.alloc (Obj.cells #[.int .i64 (E1.1 : Nat), .int .i64 (E2.1 : Nat), .string (mkB E3.1)] 55) := ⟨_, rfl⟩
            obtain ⟨px, hpx⟩ : ∃ p, p = w4.heap.size := ⟨_, rfl⟩
            have hXa : Blk Wa px [.int .i64 (E1.1 : Nat), .int .i64 (E2.1 : Nat), .string (mkB E3.1)] 55 := by rw [hWa, hpx]; exact Blk.new _ _ _
            have HSa : Hid (MrS w Wa pz pr pg L O s { m with list := m.list ++ l } (.slice ao2 N cap2) E3.2) := Lib.hid (by rw [hWa]; exact HS4.out.alloc _)
            have HIa : Hid (Wa.ownsRow (L + 1) 55 3 (.slice ao2 N cap2) N XS) := Lib.hid (by rw [HNN.out, HXS.out]; have h := HSa.out.i; rw [HNN.out] at h; exact h)
            have x0 := hXa.cell (i := 0) rfl
            have x1 := hXa.cell (i := 1) rfl
            have x2 := hXa.cell (i := 2) rfl
            have x13 := HSa.out.g.cell (i := 13) rfl
            have HWA := Lib.hid hWa
            have HPX := Lib.hid hpx
            have HX := Lib.hid hX
            clear hWa hpx hXa hX HS4
            go_upto_region 26 with fail
            rw [← HPX.out, ← HWA.out]
            go_wp2_with (at_builtin; refine wpList_append_own _ rfl _ _ 24 rfl (L + 1) 55 i0 (.agg #[.int .i64 0, .int .i64 0, .string ByteArray.empty]) 3 32 Try.underlying24 hi hz0 hz1 hz2 rfl (by decide) _ _ _ rfl (World.ownsRow.alloc HIa.out _) ⟨Wa.heap.size, 0, none⟩ 1 1 [.int .i64 (E1.1 : Nat), .int .i64 (E2.1 : Nat), .string (mkB E3.1)] rfl rfl (cells_newM Wa _ _) (en_one ⟨(E1.1 : Nat), (E2.1 : Nat), mkB E3.1⟩) (by unfold maxLen; omega) (by omega) (by simp; have h1 := HSa.out.o4; have h2 := (Array.getElem?_eq_some_iff.1 HSa.out.lt).1; omega) ?_)
            intro v5 w5 hO5 hg5 _
            obtain ⟨a5, k5, rfl⟩ := owns_slice hO5
            have hSb := HSa.out.alloc (Obj.cells #[.int .i64 (E1.1 : Nat), .int .i64 (E2.1 : Nat), .string (mkB E3.1)] 55)
            have hg5' := hSb.g.grown hg5 (fun e => by have h1 := (World.ownsRow.lt hSb.i pg e.symm).1; have h2 := hSb.o4; omega)
            have y13 := hg5'.cell (i := 13) rfl
            have z13 := hg5'.frozen 13
            have hO6 : w5.ownsRow (L + 1) 55 3 (.slice a5 (N + 1) k5) ((m.list ++ l).length + 1) ((m.list ++ l).flatMap enC ++ enC ⟨(E1.1 : Nat), (E2.1 : Nat), mkB E3.1⟩) := by
              rw [← HNN.out, ← HXS.out]; exact hO5
            have hS6 := hSb.app (x := ⟨(E1.1 : Nat), (E2.1 : Nat), mkB E3.1⟩) hO6 hg5
            have HS6 : Hid (MrS w (w5.setCell ⟨pg, 13, none⟩ (.slice a5 (N + 1) k5)) pz pr pg L O s { m with list := m.list ++ (l ++ [X]) } (.slice a5 (N + 1) k5) E3.2) := Lib.hid (by rw [HX.out, ← List.append_assoc]; exact hS6)
            clear hO5 hO6 hg5 hSb hg5' hS6 HWA HX
            go_wp2
            go_roundw
            case rel => exact ⟨j + 1, by omega, by go_num, l ++ [X], _, _, HE4, by simp; omega, HS6.out⟩
            case measure => simp [intOf]; omega
end Go.Proofs.Ytlcpnpoleaanmaa
