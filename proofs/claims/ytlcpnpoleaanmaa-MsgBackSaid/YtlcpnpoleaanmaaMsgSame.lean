/- Are two messages one: the document's Same. Conditions: the lists' lengths are at most the machine's. -/
import Derived.Test.YtlcpnpoleaanmaaMsgRefRight0
namespace Go.Proofs.Ytlcpnpoleaanmaa
open Go.RowKit
set_option linter.unusedVariables false

theorem mg_cells2 {w : World} {p q : Nat} {m m2 : Mg} {v v2 : Value} {T : TypeId} (h : Blk w p (mgC m v) T) (h2 : Blk w q (mgC m2 v2) T) :
    w.cell? ⟨p, 0, none⟩ = some (.int .i64 m.kind) ∧ w.cell? ⟨p, 1, none⟩ = some (.int .i64 m.src) ∧ w.cell? ⟨p, 2, none⟩ = some (.int .i64 m.dst) ∧ w.cell? ⟨p, 3, none⟩ = some (.int .i64 m.ballot) ∧ w.cell? ⟨p, 4, none⟩ = some (.int .i64 m.gen) ∧ w.cell? ⟨p, 5, none⟩ = some (.int .i64 m.basis) ∧ w.cell? ⟨p, 6, none⟩ = some (.int .i64 m.floor) ∧ w.cell? ⟨p, 7, none⟩ = some (.int .i64 m.top) ∧ w.cell? ⟨p, 8, none⟩ = some (.int .i64 m.read) ∧ w.cell? ⟨p, 9, none⟩ = some (.string m.mark) ∧ w.cell? ⟨p, 10, none⟩ = some (.int .i64 m.pat) ∧ w.cell? ⟨p, 11, none⟩ = some (.int .i64 m.pof) ∧ w.cell? ⟨p, 12, none⟩ = some (.string m.ptext) ∧ w.cell? ⟨p, 13, none⟩ = some v ∧ w.cell? ⟨q, 0, none⟩ = some (.int .i64 m2.kind) ∧ w.cell? ⟨q, 1, none⟩ = some (.int .i64 m2.src) ∧ w.cell? ⟨q, 2, none⟩ = some (.int .i64 m2.dst) ∧ w.cell? ⟨q, 3, none⟩ = some (.int .i64 m2.ballot) ∧ w.cell? ⟨q, 4, none⟩ = some (.int .i64 m2.gen) ∧ w.cell? ⟨q, 5, none⟩ = some (.int .i64 m2.basis) ∧ w.cell? ⟨q, 6, none⟩ = some (.int .i64 m2.floor) ∧ w.cell? ⟨q, 7, none⟩ = some (.int .i64 m2.top) ∧ w.cell? ⟨q, 8, none⟩ = some (.int .i64 m2.read) ∧ w.cell? ⟨q, 9, none⟩ = some (.string m2.mark) ∧ w.cell? ⟨q, 10, none⟩ = some (.int .i64 m2.pat) ∧ w.cell? ⟨q, 11, none⟩ = some (.int .i64 m2.pof) ∧ w.cell? ⟨q, 12, none⟩ = some (.string m2.ptext) ∧ w.cell? ⟨q, 13, none⟩ = some v2 := by
  obtain ⟨c0, c1, c2, c3, c4, c5, c6, c7, c8, c9, c10, c11, c12, c13⟩ := mg_cells h
  obtain ⟨g0, g1, g2, g3, g4, g5, g6, g7, g8, g9, g10, g11, g12, g13⟩ := mg_cells h2
  exact ⟨c0, c1, c2, c3, c4, c5, c6, c7, c8, c9, c10, c11, c12, c13, g0, g1, g2, g3, g4, g5, g6, g7, g8, g9, g10, g11, g12, g13⟩
theorem number_n (w : World) (m : Mg) (ao : Option Addr) (n cap : Nat) (c : UInt8) (x : Int) (hx : x = (c.toNat : Nat)) (N : Int) (hN : Hid (numM m c = N)) :
    Calls Try.prog 32 #[.agg #[.int .i64 m.kind, .int .i64 m.src, .int .i64 m.dst, .int .i64 m.ballot, .int .i64 m.gen, .int .i64 m.basis, .int .i64 m.floor, .int .i64 m.top, .int .i64 m.read, .string m.mark, .int .i64 m.pat, .int .i64 m.pof, .string m.ptext, .slice ao n cap], .int .u8 x] w fun e w' => e = .returned (.int .i64 N) ∧ Below w.heap.size w w' := by
  rw [hx, ← hN.out]; exact number_below w m ao n cap c
theorem dn2' (w : World) (a b : Nat) : ∃ m, (w.drewN a).drewN b = w.drewN m := ⟨a + b, by simp⟩
theorem six_eq {m n : Mg} (h : ∀ c ∈ sixL, numM m c = numM n c) : m.ballot = n.ballot ∧ m.gen = n.gen ∧ m.basis = n.basis ∧ m.floor = n.floor ∧ m.top = n.top ∧ m.read = n.read :=
  ⟨h 66 (by decide), h 71 (by decide), h 83 (by decide), h 70 (by decide), h 84 (by decide), h 82 (by decide)⟩
def enRow (x : En) (w : World) (b o : Nat) : Prop := w.cell? ⟨b, o, none⟩ = some (.int .i64 x.gen) ∧ w.cell? ⟨b, o + 1, none⟩ = some (.int .i64 x.ballot) ∧ w.cell? ⟨b, o + 2, none⟩ = some (.string x.mark)
theorem rs_en {w : World} {ao : Option Addr} {n cap : Nat} {l : List En} (h : Rs w ao n cap 3 l enC) {j : Nat} (hj : j < n) : ∃ b off x, ao = some ⟨b, off, none⟩ ∧ l[j]? = some x ∧ enRow x w b (off + j * 3) := by
  have hl := h.2.2.1
  obtain ⟨b, off, e, hb, hc⟩ := h.2.2.2 (by omega)
  have hjl : j < l.length := by omega
  exact ⟨b, off, l[j], e, List.getElem?_eq_getElem hjl, hc j hjl 0 _ rfl, hc j hjl 1 _ rfl, hc j hjl 2 _ rfl⟩
theorem beqStr {a b : ByteArray} (h : a ≠ b) : a.data.toList ≠ b.data.toList := by
  intro e; apply h
  cases a; cases b
  simp only [ByteArray.mk.injEq]
  exact Array.toList_inj.1 e

set_option maxRecDepth 100000 in
set_option maxHeartbeats 20000000 in
theorem same_any (w : World) (m m2 : Mg) (ao : Option Addr) (n cap : Nat) (bo : Option Addr) (n2 cap2 : Nat) (hR : Rs w ao n cap 3 m.list enC) (hR2 : Rs w bo n2 cap2 3 m2.list enC) (hn : n ≤ 1000000000) :
    Calls Try.prog 17 #[.agg (mgC m (.slice ao n cap)).toArray, .agg (mgC m2 (.slice bo n2 cap2)).toArray] w fun e w' => AnsR (m = m2) e ∧ Below w.heap.size w w' := by
  obtain ⟨k2, s2, d2, b2, g2, ba2, f2, t2, r2, mk2, pa2, po2, pt2, l2⟩ := m2
  obtain ⟨V1, hV1⟩ : ∃ V, V = w.alloc (.cells (mgC m (.slice ao n cap)).toArray 26) := ⟨_, rfl⟩
  obtain ⟨p1, hp1⟩ : ∃ p, p = w.heap.size := ⟨_, rfl⟩
  obtain ⟨V, hV⟩ : ∃ V, V = V1.alloc (.cells (mgC ⟨k2, s2, d2, b2, g2, ba2, f2, t2, r2, mk2, pa2, po2, pt2, l2⟩ (.slice bo n2 cap2)).toArray 26) := ⟨_, rfl⟩
  obtain ⟨p2, hp2⟩ : ∃ p, p = w.heap.size + 1 := ⟨_, rfl⟩
  have hG1 : Blk V p1 (mgC m (.slice ao n cap)) 26 := by rw [hV, hV1, hp1]; exact (Blk.new _ _ _).alloc _
  have hG2 : Blk V p2 (mgC ⟨k2, s2, d2, b2, g2, ba2, f2, t2, r2, mk2, pa2, po2, pt2, l2⟩ (.slice bo n2 cap2)) 26 := by
    have := Blk.new V1 (mgC ⟨k2, s2, d2, b2, g2, ba2, f2, t2, r2, mk2, pa2, po2, pt2, l2⟩ (.slice bo n2 cap2)) 26
    rw [hV1, World.size_alloc] at this
    rw [hV, hp2, hV1]; exact this
  have hB : Below w.heap.size w V := by rw [hV, hV1]; exact (below_alloc' w _).alloc (by simp) _
  have HRV := Lib.hid (hR.below hB (Nat.le_refl _))
  have HRV2 := Lib.hid (hR2.below hB (Nat.le_refl _))
  have HL1 := Lib.hid hR.2.2.1
  have HL2 := Lib.hid hR2.2.2.1
  obtain ⟨c0, c1, c2, c3, c4, c5, c6, c7, c8, c9, c10, c11, c12, c13⟩ := mg_cells hG1
  obtain ⟨g0, g1, g2', g3, g4, g5, g6, g7, g8, g9, g10, g11, g12, g13⟩ := mg_cells hG2
  simp only at g0 g1 g2' g3 g4 g5 g6 g7 g8 g9 g10 g11 g12
  unfold mgC at hV1 hV ⊢
  simp only at hV ⊢
  have HV := Lib.hid hV
  have HV1 := Lib.hid hV1
  have HP1 := Lib.hid hp1
  have HP2 := Lib.hid hp2
  have HB := Lib.hid hB
  have HG1 := Lib.hid hG1
  have HG2 := Lib.hid hG2
  clear hV hV1 hp1 hp2 hB hG1 hG2 hR hR2
  go_enter Try.func17, Try.ntmps17
  go_upto_region 1 with fail
  rw [← HP2.out, ← HP1.out, ← HV1.out, ← HV.out]
  by_cases e0 : m.kind = k2
  case neg =>
    have d0 : (m.kind != k2) = true := by simpa using e0
    have HE := Lib.hid e0
    clear e0
    go_wp2
    go_ret
    exact ⟨AnsR.no (fun h => HE.out (congrArg Mg.kind h)), HB.out⟩
  subst e0
  by_cases e0 : m.src = s2
  case neg =>
    have d0 : (m.src != s2) = true := by simpa using e0
    have HE := Lib.hid e0
    clear e0
    go_wp2
    go_ret
    exact ⟨AnsR.no (fun h => HE.out (congrArg Mg.src h)), HB.out⟩
  subst e0
  by_cases e0 : m.dst = d2
  case neg =>
    have d0 : (m.dst != d2) = true := by simpa using e0
    have HE := Lib.hid e0
    clear e0
    go_wp2
    go_ret
    exact ⟨AnsR.no (fun h => HE.out (congrArg Mg.dst h)), HB.out⟩
  subst e0
  by_cases e0 : m.mark = mk2
  case neg =>
    have d0 : (m.mark.toList == mk2.toList) = false := beqS_f (beqStr e0)
    have HE := Lib.hid e0
    clear e0
    go_wp2
    go_ret
    exact ⟨AnsR.no (fun h => HE.out (congrArg Mg.mark h)), HB.out⟩
  subst e0
  by_cases e0 : m.pat = pa2
  case neg =>
    have d0 : (m.pat == pa2) = false := by simpa using e0
    have HE := Lib.hid e0
    clear e0
    go_wp2
    go_ret
    exact ⟨AnsR.no (fun h => HE.out (congrArg Mg.pat h)), HB.out⟩
  subst e0
  by_cases e0 : m.pof = po2
  case neg =>
    have d0 : (m.pof == po2) = false := by simpa using e0
    have HE := Lib.hid e0
    clear e0
    go_wp2
    go_ret
    exact ⟨AnsR.no (fun h => HE.out (congrArg Mg.pof h)), HB.out⟩
  subst e0
  by_cases e0 : m.ptext = pt2
  case neg =>
    have d0 : (m.ptext.toList == pt2.toList) = false := beqS_f (beqStr e0)
    have HE := Lib.hid e0
    clear e0
    go_wp2
    go_ret
    exact ⟨AnsR.no (fun h => HE.out (congrArg Mg.ptext h)), HB.out⟩
  subst e0
  by_cases e0 : n = n2
  case neg =>
    have d0 : ((n : Int) != (n2 : Int)) = true := by simp; omega
    have HE := Lib.hid e0
    clear e0
    go_wp2
    go_ret
    exact ⟨AnsR.no (fun h => HE.out (by rw [← HL1.out, ← HL2.out, h])), HB.out⟩
  subst e0
  go_wp2_with fail
  clear c0 c1 c2 c3 c4 c5 c6 c7 c8 c9 c10 c11 c12 c13 g0 g1 g2' g3 g4 g5 g6 g7 g8 g9 g10 g11 g12 g13
  obtain ⟨M2, hM2⟩ : ∃ M2, M2 = (⟨m.kind, m.src, m.dst, b2, g2, ba2, f2, t2, r2, m.mark, m.pat, m.pof, m.ptext, l2⟩ : Mg) := ⟨_, rfl⟩
  rw [← hM2] at HG2
  have HM2 := Lib.hid hM2
  obtain ⟨LS, hLS⟩ : ∃ S, S = sixS := ⟨_, rfl⟩
  have hls : (6 : Nat) = LS.size := by rw [hLS]; rfl
  have HLS := Lib.hid hLS
  have HL6 := Lib.hid hls
  clear hls
  rw [show (⟨#[66, 71, 83, 70, 84, 82]⟩ : ByteArray) = LS from hLS.symm]
  clear hLS
  clear hM2
  go_loopw [6] (fun i wr => ∃ k : Nat, k ≤ 6 ∧ i = .int .i64 k ∧ (∀ c ∈ sixL.take k, numM m c = numM M2 c) ∧ Below V.heap.size V wr) (fun i _ => 6 - (intOf i).toNat)
  case atStart => exact ⟨0, by omega, rfl, fun c h => absurd h (by simp), Below.refl _ _⟩
  case round =>
    obtain ⟨k, hk, rfl, ha, hBw⟩ := hrel
    have hGw1 := HG1.out.below hBw HG1.out.lt
    have hGw2 := HG2.out.below hBw HG2.out.lt
    have HA := Lib.hid ha
    have HBW := Lib.hid hBw
    have HGW := Lib.hid (And.intro hGw1 hGw2)
    have HPW := Lib.hid (And.intro hGw1.lt hGw2.lt)
    obtain ⟨c0, c1, c2, c3, c4, c5, c6, c7, c8, c9, c10, c11, c12, c13⟩ := mg_cells hGw1
    obtain ⟨g0, g1, g2', g3, g4, g5, g6, g7, g8, g9, g10, g11, g12, g13⟩ := mg_cells hGw2
    clear ha hBw hGw1 hGw2
    by_cases hlt : k < 6
    case pos =>
      as_aux_lemma =>
        have hkL : k < LS.size := by rw [← HL6.out]; exact hlt
        have hk6 : k < sixL.length := by unfold sixL; simp; omega
        obtain ⟨u, hu⟩ : ∃ u, u = LS[k] := ⟨_, rfl⟩
        have hu6 : u = sixL[k] := by rw [hu]; have h2 := HLS.out; subst h2; rfl
        have htk : sixL.take (k + 1) = sixL.take k ++ [u] := by rw [hu6]; exact List.take_succ_eq_append_getElem hk6
        have hmem : u ∈ sixL := by rw [hu6]; exact List.getElem_mem hk6
        have HTK := Lib.hid htk
        have HMEM := Lib.hid hmem
        have i1 : (0 : Int) ≤ (k : Int) := by omega
        have i2 : (k : Int) < (LS.size : Int) := by omega
        have HU := Lib.hid hu
        obtain ⟨N1, hN1⟩ : ∃ N, N = numM m u := ⟨_, rfl⟩
        obtain ⟨N2, hN2⟩ : ∃ N, N = numM M2 u := ⟨_, rfl⟩
        have HN1 : Hid (numM m u = N1) := Lib.hid hN1.symm
        have HN2 : Hid (numM M2 u = N2) := Lib.hid hN2.symm
        clear htk hmem hu6 hk6 hu hN1 hN2
        go_wp2_with fail
        have H : ∀ w1 w2 : World, Blk w1 p1 (mgC m (.slice ao n cap)) 26 ∧ Blk w1 p2 (mgC M2 (.slice bo n cap2)) 26 → Below w1.heap.size w1 w2 → Blk w2 p1 (mgC m (.slice ao n cap)) 26 ∧ Blk w2 p2 (mgC M2 (.slice bo n cap2)) 26 := fun w1 w2 h hb => ⟨h.1.below hb h.1.lt, h.2.below hb h.2.lt⟩
        have H0 : Blk wr.drew p1 (mgC m (.slice ao n cap)) 26 ∧ Blk wr.drew p2 (mgC M2 (.slice bo n cap2)) 26 := HGW.out
        have hBZ : Below V.heap.size V wr.drew := below_drewN' HBW.out 1
        go_region_held3 (fun w' => w'.cell? ⟨p1, 0, none⟩ = some (.int .i64 m.kind) ∧ w'.cell? ⟨p1, 1, none⟩ = some (.int .i64 m.src) ∧ w'.cell? ⟨p1, 2, none⟩ = some (.int .i64 m.dst) ∧ w'.cell? ⟨p1, 3, none⟩ = some (.int .i64 m.ballot) ∧ w'.cell? ⟨p1, 4, none⟩ = some (.int .i64 m.gen) ∧ w'.cell? ⟨p1, 5, none⟩ = some (.int .i64 m.basis) ∧ w'.cell? ⟨p1, 6, none⟩ = some (.int .i64 m.floor) ∧ w'.cell? ⟨p1, 7, none⟩ = some (.int .i64 m.top) ∧ w'.cell? ⟨p1, 8, none⟩ = some (.int .i64 m.read) ∧ w'.cell? ⟨p1, 9, none⟩ = some (.string m.mark) ∧ w'.cell? ⟨p1, 10, none⟩ = some (.int .i64 m.pat) ∧ w'.cell? ⟨p1, 11, none⟩ = some (.int .i64 m.pof) ∧ w'.cell? ⟨p1, 12, none⟩ = some (.string m.ptext) ∧ w'.cell? ⟨p1, 13, none⟩ = some (.slice ao n cap) ∧ w'.cell? ⟨p2, 0, none⟩ = some (.int .i64 M2.kind) ∧ w'.cell? ⟨p2, 1, none⟩ = some (.int .i64 M2.src) ∧ w'.cell? ⟨p2, 2, none⟩ = some (.int .i64 M2.dst) ∧ w'.cell? ⟨p2, 3, none⟩ = some (.int .i64 M2.ballot) ∧ w'.cell? ⟨p2, 4, none⟩ = some (.int .i64 M2.gen) ∧ w'.cell? ⟨p2, 5, none⟩ = some (.int .i64 M2.basis) ∧ w'.cell? ⟨p2, 6, none⟩ = some (.int .i64 M2.floor) ∧ w'.cell? ⟨p2, 7, none⟩ = some (.int .i64 M2.top) ∧ w'.cell? ⟨p2, 8, none⟩ = some (.int .i64 M2.read) ∧ w'.cell? ⟨p2, 9, none⟩ = some (.string M2.mark) ∧ w'.cell? ⟨p2, 10, none⟩ = some (.int .i64 M2.pat) ∧ w'.cell? ⟨p2, 11, none⟩ = some (.int .i64 M2.pof) ∧ w'.cell? ⟨p2, 12, none⟩ = some (.string M2.ptext) ∧ w'.cell? ⟨p2, 13, none⟩ = some (.slice bo n cap2))
          (first | go_keep | exact mg_cells2 hH.1 hH.2)
          (first
            | (go_at_call 32; ((with_reducible refine (number_n _ m ao n cap u _ (congrArg (fun c : UInt8 => ((c.toNat : Nat) : Int)) HU.out.symm) N1 HN1).mono ?_)); rintro e w4 ⟨rfl, hb4⟩; have hH := H _ _ (by assumption) hb4; have hBZ2 := below_then' (by assumption : Below V.heap.size V _) hb4; clear hb4)
            | (go_at_call 32; ((with_reducible refine (number_n _ M2 bo n cap2 u _ (congrArg (fun c : UInt8 => ((c.toNat : Nat) : Int)) HU.out.symm) N2 HN2).mono ?_)); rintro e w4 ⟨rfl, hb4⟩; have hH := H _ _ (by assumption) hb4; have hBZ2 := below_then' (by assumption : Below V.heap.size V _) hb4; clear hb4))
        all_goals
          have HBE := Lib.hid hBZ2
          clear hBZ2 hH H H0
          by_cases hq : N1 = N2
          case pos =>
            have dq : (N1 != N2) = false := by simp [hq]
            have HQ := Lib.hid hq
            clear hq
            go_wp2
            go_roundw
            case rel =>
              refine ⟨k + 1, by omega, by go_num, fun c hc => ?_, HBE.out⟩
              rw [HTK.out] at hc
              rcases List.mem_append.1 hc with h | h
              · exact HA.out c h
              · obtain rfl : c = u := by simpa using h
                rw [HN1.out, HN2.out]; exact HQ.out
            case measure => simp [intOf]; omega
          case neg =>
            have dq : (N1 != N2) = true := by simpa using hq
            have HQ := Lib.hid hq
            clear hq
            go_wp2
            go_ret
            refine ⟨AnsR.no (fun h => HQ.out ?_), below_then' HB.out HBE.out⟩
            rw [← HN1.out, ← HN2.out, HM2.out]
            exact congrArg (numM · u) h
    have hk6 : k = 6 := by omega
    have HSX : Hid (∀ c ∈ sixL, numM m c = numM M2 c) := Lib.hid (by have h := HA.out; rw [hk6] at h; exact h)
    have HIFF : Hid ((m = ⟨m.kind, m.src, m.dst, b2, g2, ba2, f2, t2, r2, m.mark, m.pat, m.pof, m.ptext, l2⟩) ↔ m.list = l2) := by
      have h6 := six_eq HSX.out
      rw [HM2.out] at h6
      simp only at h6
      obtain ⟨x1, x2, x3, x4, x5, x6⟩ := h6
      refine Lib.hid ⟨fun h => congrArg Mg.list h, fun h => ?_⟩
      rw [← h, ← x1, ← x2, ← x3, ← x4, ← x5, ← x6]
    subst hk6
    clear HA c0 c1 c2 c3 c4 c5 c6 c7 c8 c9 c10 c11 c12 g0 g1 g2' g3 g4 g5 g6 g7 g8 g9 g10 g11 g12
    have HBE := Lib.hid (below_then' HB.out HBW.out)
    have HR1 := Lib.hid (HRV.out.below HBW.out (Nat.le_refl _))
    have HR2 := Lib.hid (HRV2.out.below HBW.out (Nat.le_refl _))
    go_wp2_with fail
    obtain ⟨wo, rfl⟩ : ∃ wo : World, wo = wr := ⟨_, rfl⟩
    go_loopw [7] (fun i wr => ∃ k : Nat, k ≤ n ∧ i = .int .i64 k ∧ m.list.take k = l2.take k ∧ ∃ q, wr = wo.drewN q) (fun i _ => n - (intOf i).toNat)
    case atStart => exact ⟨0, by omega, rfl, rfl, 0, rfl⟩
    case round =>
      obtain ⟨k, hk, rfl, ha, q, rfl⟩ := hrel
      have HA := Lib.hid ha
      clear ha
      by_cases hlt : k < n
      case neg =>
        have hkn : k = n := by omega
        have HF : Hid (m.list = l2) := by
          have h := HA.out
          rw [hkn, List.take_of_length_le (by rw [HL1.out]; omega), List.take_of_length_le (by rw [HL2.out]; omega)] at h
          exact Lib.hid h
        clear HA
        go_wp2
        go_ret
        exact ⟨AnsR.yes (HIFF.out.2 HF.out), below_drewN' HBE.out _⟩
      obtain ⟨b, off, x, rfl, hx, hr1⟩ := rs_en HR1.out hlt
      obtain ⟨b', off', y, rfl, hy, hr2⟩ := rs_en HR2.out hlt
      obtain ⟨a0, a1, a2⟩ := hr1
      obtain ⟨e0, e1, e2⟩ := hr2
      have HX := Lib.hid hx
      have HY := Lib.hid hy
      have i1 : (k : Int) < (n : Int) := by omega
      have i0 : (0 : Int) ≤ (k : Int) := by omega
      clear hx hy
      have no : x ≠ y → ¬ m.list = l2 := fun hne h => by
        have h1 := HX.out
        rw [h, HY.out] at h1
        exact hne (Option.some.inj h1).symm
      have NO := Lib.hid no
      clear no
      by_cases q0 : x.gen = y.gen
      case neg =>
        have d0 : (x.gen == y.gen) = false := by simpa using q0
        have HF : Hid (¬ m.list = l2) := Lib.hid (NO.out (fun h => q0 (congrArg En.gen h)))
        clear q0
        go_wp2_with fail
        go_quiet (fail)
        go_wp2
        go_ret
        exact ⟨AnsR.no (fun h => HF.out (HIFF.out.1 h)), below_drewN' (below_drewN' HBE.out _) _⟩
      by_cases q1 : x.ballot = y.ballot
      case neg =>
        have d0 : (x.gen == y.gen) = true := by simpa using q0
        have d1 : (x.ballot == y.ballot) = false := by simpa using q1
        have HF : Hid (¬ m.list = l2) := Lib.hid (NO.out (fun h => q1 (congrArg En.ballot h)))
        clear q0 q1
        go_wp2_with fail
        go_quiet (fail)
        go_wp2
        go_ret
        exact ⟨AnsR.no (fun h => HF.out (HIFF.out.1 h)), below_drewN' (below_drewN' HBE.out _) _⟩
      by_cases q2 : x.mark = y.mark
      case neg =>
        have d0 : (x.gen == y.gen) = true := by simpa using q0
        have d1 : (x.ballot == y.ballot) = true := by simpa using q1
        have d2 : (x.mark.toList == y.mark.toList) = false := beqS_f (beqStr q2)
        have HF : Hid (¬ m.list = l2) := Lib.hid (NO.out (fun h => q2 (congrArg En.mark h)))
        clear q0 q1 q2
        go_wp2_with fail
        go_quiet (fail)
        go_wp2
        go_ret
        exact ⟨AnsR.no (fun h => HF.out (HIFF.out.1 h)), below_drewN' (below_drewN' HBE.out _) _⟩
      have hxy : x = y := by cases x; cases y; simp only at q0 q1 q2; subst q0; subst q1; subst q2; rfl
      subst hxy
      have HF : Hid (m.list.take (k + 1) = l2.take (k + 1)) := by
        obtain ⟨u1, u2⟩ := List.getElem?_eq_some_iff.1 HX.out
        obtain ⟨v1, v2⟩ := List.getElem?_eq_some_iff.1 HY.out
        refine Lib.hid ?_
        rw [List.take_succ_eq_append_getElem u1, List.take_succ_eq_append_getElem v1, HA.out, u2, v2]
      clear q0 q1 q2 NO HA
      go_wp2_with fail
      go_quiet (fail)
      go_wp2
      go_roundw
      case rel => exact ⟨k + 1, by omega, by go_num, HF.out, by first | exact ⟨_, rfl⟩ | (exact ⟨_, World.drewN_drewN _ _ _⟩) | exact dn2' _ _ _⟩
      case measure => simp [intOf]; omega
end Go.Proofs.Ytlcpnpoleaanmaa
