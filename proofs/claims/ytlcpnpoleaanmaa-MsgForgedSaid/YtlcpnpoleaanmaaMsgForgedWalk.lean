/- MsgForged, walked: just what was told as a message's bytes is taken, and is that message. No conditions. -/
import Derived.Test.YtlcpnpoleaanmaaMsgForge
namespace Go.Proofs.Ytlcpnpoleaanmaa
open Go.RowKit
set_option linter.unusedVariables false
set_option linter.unusedSimpArgs false

theorem infoStrM : (Try.prog.info? 9).map (fun i => (i.zero, i.size, i.bytes)) = some (some (.string ByteArray.empty), 1, 16) := by kernel_rfl
def BIn (b : Bool) (A : ByteArray) (T : List ByteArray) : Prop := b = true ↔ A ∈ T
/-- the state of the telling -/
structure FgS (w wr : World) (bp mm B : Nat) (T : List ByteArray) (v : Value) (seen : List (List UInt8)) : Prop where
  o : wr.ownsRow B 9 1 v T.length (T.map Value.string)
  k : BookI wr bp mm seen
  b : Below w.heap.size w wr
  l1 : w.heap.size ≤ mm
  l2 : mm < B
  l3 : bp < B
  l4 : B ≤ wr.heap.size
section
variable {w wr : World} {bp mm B : Nat} {T : List ByteArray} {v : Value} {seen : List (List UInt8)}
theorem FgS.next (h : FgS w wr bp mm B T v seen) {w' : World} (hb : Below wr.heap.size wr w') : FgS w w' bp mm B T v seen :=
  ⟨World.ownsRow.kept h.o (below_grown hb none) (by cases hv : v.ownBlock <;> simp), h.k.next hb, below_then' h.b hb, h.l1, h.l2, h.l3, Nat.le_trans h.l4 hb.size⟩
/-- behind a message's bytes -/
theorem FgS.mark (h : FgS w wr bp mm B T v seen) {w' : World} {seen' : List (List UInt8)} (hk : BookI w' bp mm seen') (hg : wr.grownBy w' (some mm)) : FgS w w' bp mm B T v seen' := by
  have h1 := h.l1; have h2 := h.l2
  exact ⟨World.ownsRow.kept h.o hg (.inr fun e => by have := (World.ownsRow.lt h.o mm e).1; omega), hk, h.b.grown hg h.b.size (by intro k hk; cases hk; exact h1), h1, h2, h.l3, Nat.le_trans h.l4 hg.size⟩
/-- a block of one's own above all -/
theorem FgS.far (h : FgS w wr bp mm B T v seen) {w' : World} {p : Nat} (hg : wr.grownBy w' (some p)) (h1 : B ≤ p) (h2 : v.ownBlock ≠ some p) : FgS w w' bp mm B T v seen := by
  have e1 := h.l1; have e2 := h.l2; have e3 := h.l3
  have hsz := h.b.size
  exact ⟨World.ownsRow.kept h.o hg (.inr h2), h.k.grown hg (by intro e; injection e with e; omega) (by intro e; injection e with e; omega), h.b.grown hg h.b.size (by intro k hk; cases hk; omega), e1, e2, e3, Nat.le_trans h.l4 hg.size⟩
/-- a text more -/
theorem FgS.app (h : FgS w wr bp mm B T v seen) {w5 : World} {v5 : Value} {s : ByteArray} (ho : w5.ownsRow B 9 1 v5 (T.length + 1) (T.map Value.string ++ [.string s])) (hg : wr.grownBy w5 v.ownBlock) : FgS w w5 bp mm B (T ++ [s]) v5 seen := by
  have e1 := h.l1; have e2 := h.l2; have e3 := h.l3
  have far : ∀ q, q < B → some q ≠ v.ownBlock := fun q hq e => by have := (World.ownsRow.lt h.o q e.symm).1; omega
  exact ⟨by simpa using ho, h.k.grown hg (far bp e3) (far mm e2), h.b.grown hg h.b.size (fun k hk => by have := (World.ownsRow.lt h.o k hk).1; omega), e1, e2, e3, Nat.le_trans h.l4 hg.size⟩
end
theorem TI.at {T : List ByteArray} {seen : List (List UInt8)} (h : TI T seen) (k : Nat) (hk : k < T.length) : 32 ≤ T[k].size ∧ T[k].size ≤ 30032 := h.size (List.getElem_mem hk)
theorem told_cell {w : World} {B n : Nat} {v : Value} {T : List ByteArray} (h : w.ownsRow B 9 1 v T.length (T.map Value.string)) (hn : T.length = n) (h0 : 0 < n) : ∃ b cap, v = .slice (some ⟨b, 0, none⟩) n cap ∧ ∀ k, (hk : k < T.length) → w.cell? ⟨b, k, none⟩ = some (.string T[k]) := by
  subst hn
  obtain ⟨ao, cap, rfl⟩ := owns_slice h
  have h1 := h
  obtain ⟨h2, h3⟩ := h
  rcases h3 with ⟨e1, e2⟩ | ⟨g, cap', cur, e, r⟩
  · omega
  · injection e with e1 e2 e3
    subst e1
    refine ⟨g, cap, rfl, fun k hk => ?_⟩
    have := World.ownsRow.cells h1 (g := g) rfl k (.string T[k]) (by simp [hk])
    rw [add_off', Nat.zero_add] at this
    exact this

set_option maxRecDepth 100000 in
set_option maxHeartbeats 20000000 in
theorem msgForged_walk (w : World) (ao : Option Addr) (len cap : Nat) (o0 : (Kd.sl mgK).ok w [.slice ao len cap]) (ask : ByteArray) (hask : ask.size ≤ 140737488351232) (which : Int) (w2 : (Lit.int .i64 which).wf = true) (at_ : Int) (w3 : (Lit.int .i64 at_).wf = true) (by_ : Int) (w4 : (Lit.int .u8 by_).wf = true) :
    Calls Try.prog 8 #[.slice ao len cap, .string ask, .int .i64 which, .int .i64 at_, .int .u8 by_] w fun e w' => e = .returned (.bool true) ∧ Below w.heap.size w w' := by
  obtain ⟨l, hR, hg⟩ := msgs_of o0
  obtain ⟨i0, hi, hz0, hz1, hz2⟩ := info_parts infoStrM
  have hmz := mgZ_run
  have HLEN := Lib.hid hR.2.2.1
  have HRR := Lib.hid hR
  have HG := Lib.hid hg
  have hcl : len ≤ cap := hR.1
  clear o0 hg hR
  by_cases h1 : 2000 < ask.size
  case pos =>
    have d1 : decide ((2000 : Int) < (ask.size : Int)) = true := decide_eq_true (by omega)
    go_enter Try.func8, Try.ntmps8
    go_wp2_with fail
    refine (awake_any w).mono ?_
    rintro e w2 ⟨rfl, hb2⟩
    go_wp2
    go_ret
    exact ⟨rfl, hb2⟩
  by_cases h2 : 12 < len
  case pos =>
    have d1 : decide ((2000 : Int) < (ask.size : Int)) = false := decide_eq_false (by omega)
    have d2 : decide ((12 : Int) < (len : Int)) = true := decide_eq_true (by omega)
    go_enter Try.func8, Try.ntmps8
    go_wp2_with fail
    refine (awake_any w).mono ?_
    rintro e w2 ⟨rfl, hb2⟩
    go_wp2
    go_ret
    exact ⟨rfl, hb2⟩
  have d1 : decide ((2000 : Int) < (ask.size : Int)) = false := decide_eq_false (by omega)
  have d2 : decide ((12 : Int) < (len : Int)) = false := decide_eq_false (by omega)
  go_enter Try.func8, Try.ntmps8
  go_wp2_with fail
  refine (ideal_any w).mono ?_
  rintro e w1 ⟨rfl, hI, hb1⟩
  obtain ⟨mm, hmm⟩ : ∃ mm, mm = w.heap.size := ⟨_, rfl⟩
  have hl := hI.2.2.2.2.1
  rw [← hmm] at hI hl
  rw [← hmm]
  have HS0 : Hid (FgS w w1 (mm + 1) mm w1.heap.size [] (.slice none 0 0) []) := Lib.hid ⟨World.ownsRow_nil _ _ _ _, hI, hb1, by omega, hl.2, hl.1, Nat.le_refl _⟩
  obtain ⟨B, hB⟩ : ∃ B, B = w1.heap.size := ⟨_, rfl⟩
  rw [← hB] at HS0
  clear hI hb1 hmm hl hB d1 d2
  go_wp2_with fail
  go_loopw [12, 13] (fun v i wr => ∃ (k : Nat) (T : List ByteArray) (seen : List (List UInt8)) (vt : Value), i = .int .i64 k ∧ v = vt ∧ k ≤ len ∧ T.length ≤ k ∧ TI T seen ∧ FgS w wr (mm + 1) mm B T vt seen) (fun _ i _ => len - (intOf i).toNat)
  case atStart => exact ⟨0, [], [], _, rfl, rfl, by omega, by simp, TI.nil, HS0.out⟩
  case round =>
    clear HS0
    obtain ⟨k, T, seen, vt, rfl, hvv, hk, hTk, hTI, hS⟩ := hrel
    have hvw := hvv.symm
    clear hvv
    subst hvw
    by_cases hlt : k < len
    case pos => as_aux_lemma =>
      have hks : k < l.length := by rw [HLEN.out]; exact hlt
      obtain ⟨b, off, rfl, hbw, hc⟩ := rs_m HRR.out (by omega)
      have hr := hc k hks
      have hgx := HG.out _ (List.getElem_mem hks)
      obtain ⟨x, hx⟩ : ∃ x, x = l[k] := ⟨_, rfl⟩
      rw [← hx] at hr hgx
      obtain ⟨m, ax, nx, kx⟩ := x
      simp only [MV.good] at hr hgx
      have hr2 : wr.rangeAt b (off + k * 14) (mgC m (.slice ax nx kx)) := fun j v hj => (hS.b.cell (p := ⟨b, off + k * 14 + j, none⟩) hbw).trans (hr j v hj)
      have HR2 := Lib.hid hr2
      have HGX : Hid (Rs wr ax nx kx 3 m.list enC) := Lib.hid (hgx.below hS.b (Nat.le_refl _))
      have HS := Lib.hid hS
      have i1 : (k : Int) < (len : Int) := by omega
      clear hc hr hgx hx hr2 hS hks
      go_wp2_with (refine ld_at HR2.out rfl rfl rfl ?_)
      refine (few_any wr m ax nx kx HGX.out).mono ?_
      rintro e w2 ⟨rfl, hb2⟩
      have HS2 := Lib.hid (HS.out.next hb2)
      have HRM : Hid (Rs w2 ax (cut80 nx) kx 3 (fewM m).list enC) := Lib.hid (few_rows (HGX.out.below hb2 (Nat.le_refl _)))
      obtain ⟨M, hM⟩ : ∃ M, M = fewM m := ⟨_, rfl⟩
      obtain ⟨N, hN⟩ : ∃ N, N = cut80 nx := ⟨_, rfl⟩
      rw [← hM, ← hN] at HRM
      rw [← hM, ← hN]
      have hsl : seen.length ≤ 1000000000000 := by have := hTI.c; omega
      have HTI := Lib.hid hTI
      clear hb2 hM hN HGX HR2 HS hTI
      go_wp2_with fail
      refine (bytes_either w2 (mm + 1) mm seen HS2.out.k hsl M ax N kx HRM.out).mono ?_
      rintro e w3 ⟨s1, k1, seen1, rfl, hy1, hn1, hI1, hg1⟩
      by_cases hrt : rightM M
      case neg =>
        obtain ⟨rfl, rfl, rfl⟩ := hn1 hrt
        have HS3 := Lib.hid (HS2.out.mark hI1 hg1)
        have HRT := Lib.hid hrt
        clear hy1 hn1 hI1 hg1 hrt HS2 HRM
        go_wp2
        go_roundw
        case rel => exact ⟨k + 1, T, seen1, _, by go_num, rfl, by omega, by omega, HTI.out, HS3.out⟩
        case measure => simp [intOf]; omega
      case pos =>
        obtain ⟨rfl, e2, e3⟩ := hy1 hrt
        have hT3 := HTI.out.step hrt
        rw [← e2, ← e3] at hT3
        have HT3 := Lib.hid hT3
        have hS3 := HS2.out.mark hI1 hg1
        obtain ⟨at3, c3, hv3⟩ := owns_slice hS3.o
        obtain ⟨n3, hn3⟩ : ∃ n, n = T.length := ⟨_, rfl⟩
        obtain rfl : vt = .slice at3 n3 c3 := by rw [hn3]; exact hv3
        obtain ⟨XS, hXS⟩ : ∃ X, X = T.map Value.string := ⟨_, rfl⟩
        have HO3 : Hid (w3.ownsRow B 9 1 (.slice at3 n3 c3) n3 XS) := Lib.hid (by rw [hXS]; have h := hS3.o; rw [← hn3] at h; exact h)
        have hn12 : n3 ≤ 12 := by omega
        have HS3 := Lib.hid hS3
        have HN3 := Lib.hid hn3
        have HXS := Lib.hid hXS
        have hl4 := hS3.l4
        clear hy1 hn1 hI1 hg1 hrt HS2 HRM e2 e3 hT3 hS3 hv3 hn3 hXS HTI
        go_wp2_with (at_builtin; refine wpList_append_own _ rfl _ _ 44 rfl B 9 i0 (.string ByteArray.empty) 1 16 Try.underlying44 hi hz0 hz1 hz2 rfl (by decide) _ _ _ rfl (World.ownsRow.alloc HO3.out _) ⟨w3.heap.size, 0, none⟩ 1 1 [.string s1] rfl rfl (cell1_new _ _ _) (one1 _ rfl) (by unfold maxLen; omega) (by omega) (by simp; omega) ?_)
        intro v5 w5 hO5 hg5 _
        have hS5 := (HS3.out.next (below_alloc' w3 (Obj.cells #[.string s1] 9))).app (s := s1) (by rw [← HN3.out, ← HXS.out]; exact hO5) hg5
        have HS5 := Lib.hid hS5
        have hl5 : (T ++ [s1]).length ≤ k + 1 := by rw [List.length_append, List.length_singleton]; omega
        have HL5 := Lib.hid hl5
        clear hO5 hg5 hS5 hl5
        go_wp2
        go_roundw
        case rel => exact ⟨k + 1, T ++ [s1], seen1, _, by go_num, rfl, by omega, HL5.out, HT3.out, HS5.out⟩
        case measure => simp [intOf]; omega
    case neg =>
      have HS := Lib.hid hS
      have HTI := Lib.hid hTI
      have hT12 : T.length ≤ 12 := by omega
      clear hS hTI hTk
      obtain ⟨n3, hn3⟩ : ∃ n, n = T.length := ⟨_, rfl⟩
      obtain ⟨at3, c3, hv3⟩ := owns_slice HS.out.o
      obtain rfl : vt = .slice at3 n3 c3 := by rw [hn3]; exact hv3
      have HN3 := Lib.hid hn3
      have hn12 : n3 ≤ 12 := by omega
      clear hv3 hn3
      go_upto_region 11 with fail
      go_cut [62] (fun c wx => ∃ r : Bool, c = .bool r ∧ (r = true → ∃ j : Nat, which = j ∧ j < n3) ∧ wr = wx)
      case first => as_aux_lemma =>
        clear hk
        by_cases hw0 : which < 0
        case pos =>
          have d1 : decide (0 ≤ which) = false := decide_eq_false (by omega)
          have d2 : ¬ 0 ≤ which := by omega
          go_wp2
          go_meet
          case rel => exact ⟨false, rfl, (fun h => by cases h), rfl⟩
        case neg =>
          obtain ⟨j, hj⟩ : ∃ j : Nat, which = j := ⟨which.toNat, by omega⟩
          subst hj
          have d1 : decide ((0 : Int) ≤ (j : Int)) = true := decide_eq_true (by omega)
          by_cases hjn : j < n3
          case neg =>
            have d2 : decide ((j : Int) < (n3 : Int)) = false := decide_eq_false (by omega)
            have d3 : decide (j < n3) = false := decide_eq_false hjn
            go_wp2
            go_meet
            case rel => exact ⟨false, rfl, (fun h => by cases h), rfl⟩
          case pos =>
            have d2 : decide ((j : Int) < (n3 : Int)) = true := decide_eq_true (by omega)
            have d3 : decide (j < n3) = true := decide_eq_true hjn
            go_wp2
            go_meet
            case rel => exact ⟨true, rfl, (fun _ => ⟨j, rfl, hjn⟩), rfl⟩
      obtain ⟨r, rfl, hr, rfl⟩ := hcut
      have HRW := Lib.hid hr
      clear hk hr
      go_upto_if 62 with fail
      go_cut [1, 16] (fun v _ wx => ∃ A : ByteArray, v = .string A ∧ A.size ≤ 40000 ∧ FgS w wx (mm + 1) mm B T (.slice at3 n3 c3) seen)
      case first =>
        cases r
        case false => as_aux_lemma =>
          go_wp2
          go_meet
          case rel => exact ⟨ask, rfl, by omega, HS.out⟩
        case true => as_aux_lemma =>
            obtain ⟨j, hj, hjn⟩ := HRW.out rfl
            subst hj
            have d1 : decide ((0 : Int) ≤ (j : Int)) = true := decide_eq_true (by omega)
            have hjT : j < T.length := by rw [← HN3.out]; exact hjn
            obtain ⟨b, cp, hbv, hc⟩ := told_cell HS.out.o HN3.out.symm (by omega)
            have hcj := hc j hjT
            injection hbv with e1 e2 e3
            subst e1
            subst e3
            have hts := HTI.out.at j hjT
            obtain ⟨S, hS⟩ : ∃ S, S = T[j] := ⟨_, rfl⟩
            rw [← hS] at hcj hts
            have d2 : decide ((j : Int) < (n3 : Int)) = true := decide_eq_true (by omega)
            have d3 : decide (j < n3) = true := decide_eq_true hjn
            have i1 : (j : Int) < (n3 : Int) := by omega
            obtain ⟨cp2, W, hcp, hcv, hbW, hcW, hfW⟩ := letters_run2 wr S
            obtain ⟨L, hL⟩ : ∃ L, L = wr.heap.size := ⟨_, rfl⟩
            rw [← hL] at hcv hcW hfW
            have HSW := Lib.hid (HS.out.next hbW)
            have hBL : B ≤ L := by rw [hL]; exact HS.out.l4
            have hvL : (Value.slice (some ⟨b, 0, none⟩) n3 c3).ownBlock ≠ some L := fun e => by have := (World.ownsRow.lt HS.out.o L e).2; omega
            have HCW := Lib.hid hcW
            have HFW := Lib.hid hfW
            clear hc hjT hS hL hcW hfW hbW HS
            have hcv0 := run_bytes_str (P := Try.prog) (w := W) (src := 45) (dst := 9) (e := 5) (b := L) (off := 0) (len := S.size) (cap := cp2) S.data.toList Try.underlying45 Try.underlying5 Try.underlying9 (by simp) (fun j c h => by rw [Nat.zero_add]; exact HCW.out j c h)
            have hz : (⟨S.data.toList.toArray⟩ : ByteArray).size ≤ 40000 := Nat.le_trans (Nat.le_of_eq (bA_size S.data.toList)) (by rw [dlen]; omega)
            obtain ⟨S2, hS2⟩ : ∃ S2 : ByteArray, S2 = ⟨S.data.toList.toArray⟩ := ⟨_, rfl⟩
            rw [← hS2] at hcv0 hz
            clear hS2
            by_cases ha0 : at_ < 0
            case pos =>
              have d5 : decide (0 ≤ at_) = false := decide_eq_false (by omega)
              have d6 : ¬ 0 ≤ at_ := by omega
              go_wp2
              go_meet
              case rel => exact ⟨S2, rfl, hz, HSW.out⟩
            case neg =>
              obtain ⟨q, hq⟩ : ∃ q : Nat, at_ = q := ⟨at_.toNat, by omega⟩
              subst hq
              have d5 : decide ((0 : Int) ≤ (q : Int)) = true := decide_eq_true (by omega)
              by_cases hqs : q < S.size
              case neg =>
                have d6 : decide ((q : Int) < (S.size : Int)) = false := decide_eq_false (by omega)
                have d7 : decide (q < S.size) = false := decide_eq_false hqs
                go_wp2
                go_meet
                case rel => exact ⟨S2, rfl, hz, HSW.out⟩
              case pos =>
                clear hcv0 hz
                have d6 : decide ((q : Int) < (S.size : Int)) = true := decide_eq_true (by omega)
                have d7 : decide (q < S.size) = true := decide_eq_true hqs
                have i2 : (q : Int) < (S.size : Int) := by omega
                have hql : q < S.data.toList.length := by simpa using hqs
                have y := HCW.out q S.data.toList[q] (List.getElem?_eq_getElem hql)
                have z := HFW.out q hqs
                obtain ⟨c0, hc0⟩ : ∃ c, c = S.data.toList[q] := ⟨_, rfl⟩
                rw [← hc0] at y
                obtain ⟨x, hx⟩ := u8_xor ((c0.toNat : Nat) : Int) by_
                have hC2 : ∀ j c, (S.data.toList.set q x)[j]? = some c → (W.setCell ⟨L, q, none⟩ (Value.int .u8 (x.toNat : Nat))).cell? ⟨L, j, none⟩ = some (Value.int .u8 (c.toNat : Nat)) := by
                  intro j c hj
                  by_cases hjq : j = q
                  · subst hjq
                    rw [List.getElem?_set_self hql] at hj
                    injection hj with hj
                    subst hj
                    exact World.cell?_setCell_same' W _ _ (by rw [y]; rfl)
                  · rw [List.getElem?_set_ne (fun h => hjq h.symm)] at hj
                    rw [World.cell?_setCell_other W _ _ _ (by intro e; injection e with e1 e2; exact hjq e2.symm)]
                    exact HCW.out j c hj
                have hcv2 := run_bytes_str (P := Try.prog) (w := W.setCell ⟨L, q, none⟩ (Value.int .u8 (x.toNat : Nat))) (src := 45) (dst := 9) (e := 5) (b := L) (off := 0) (len := S.size) (cap := cp2) (S.data.toList.set q x) Try.underlying45 Try.underlying5 Try.underlying9 (by simp) (fun j c h => by rw [Nat.zero_add]; exact hC2 j c h)
                have hz : (⟨(S.data.toList.set q x).toArray⟩ : ByteArray).size ≤ 40000 := Nat.le_trans (Nat.le_of_eq (bA_size (S.data.toList.set q x))) (by rw [List.length_set, dlen]; omega)
                obtain ⟨S2, hS2⟩ : ∃ S2 : ByteArray, S2 = ⟨(S.data.toList.set q x).toArray⟩ := ⟨_, rfl⟩
                rw [← hS2] at hcv2 hz
                have HS2 := Lib.hid (HSW.out.far (grown_set (grown_refl W (some L)) q (Value.int .u8 (x.toNat : Nat))) hBL hvL)
                clear hc0 hC2 hS2
                go_wp2
                go_meet
                case rel => exact ⟨S2, rfl, hz, HS2.out⟩
      case rest =>
        obtain ⟨A, rfl, hA, hS'⟩ := hcut
        have HS2 := Lib.hid hS'
        clear hS' HS HRW
        go_wp2_with fail
        go_loopw [17, 18] (fun v i wx => ∃ (j : Nat) (b : Bool), i = .int .i64 j ∧ v = .bool b ∧ j ≤ n3 ∧ Hid (BIn b A (T.take j)) ∧ wc = wx) (fun _ i _ => n3 - (intOf i).toNat)
        case atStart => exact ⟨0, false, rfl, rfl, by omega, Lib.hid (Iff.intro (fun h => by cases h) (fun h => by simp at h)), rfl⟩
        case round =>
          obtain ⟨j, b, rfl, rfl, hj, hb, rfl⟩ := hrel
          by_cases hjn : j < n3
          case pos => as_aux_lemma =>
            have hjT : j < T.length := by rw [← HN3.out]; exact hjn
            obtain ⟨q, cp, hbv, hc⟩ := told_cell HS2.out.o HN3.out.symm (by omega)
            have hcj := hc j hjT
            injection hbv with e1 e2 e3
            subst e1
            subst e3
            obtain ⟨S, hS⟩ : ∃ S, S = T[j] := ⟨_, rfl⟩
            rw [← hS] at hcj
            have i1 : (j : Int) < (n3 : Int) := by omega
            have htk : T.take (j + 1) = T.take j ++ [S] := by rw [hS]; exact List.take_succ_eq_append_getElem hjT
            have HTK := Lib.hid htk
            clear hc hjT hS htk
            cases b
            case true =>
              have HB := Lib.hid (hb.out.1 rfl)
              clear hb
              go_wp2
              go_roundw
              case rel => exact ⟨j + 1, true, by go_num, rfl, by omega, Lib.hid (Iff.intro (fun _ => by rw [HTK.out]; exact List.mem_append_left _ HB.out) (fun _ => rfl)), by first | rfl | trivial⟩
              case measure => simp [intOf]; omega
            case false =>
              have hnb : A ∉ T.take j := fun h => by have := hb.out.2 h; cases this
              have HB := Lib.hid hnb
              clear hb hnb
              by_cases hSA : S = A
              case pos =>
                subst hSA
                have d1 : (S.toList == S.toList) = true := by simp
                go_wp2
                go_roundw
                case rel => exact ⟨j + 1, true, by go_num, rfl, by omega, Lib.hid (Iff.intro (fun _ => by rw [HTK.out]; simp) (fun _ => rfl)), by first | rfl | trivial⟩
                case measure => simp [intOf]; omega
              case neg =>
                have d1 : (S.toList == A.toList) = false := beqS_f (fun h => hSA (by cases S; cases A; congr 1; exact Array.ext' h))
                have HN : Hid (A ∉ T.take (j + 1)) := Lib.hid (by
                  rw [HTK.out, List.mem_append]
                  rintro (h | h)
                  · exact HB.out h
                  · simp only [List.mem_cons, List.not_mem_nil, or_false] at h
                    exact hSA h.symm)
                clear hSA
                go_wp2
                go_roundw
                case rel => exact ⟨j + 1, false, by go_num, rfl, by omega, Lib.hid (Iff.intro (fun h => by cases h) (fun h => absurd h HN.out)), by first | rfl | trivial⟩
                case measure => simp [intOf]; omega
          case neg =>
            have htk : T.take j = T := List.take_of_length_le (by have := HN3.out; omega)
            rw [htk] at hb
            have hT12' : T.length ≤ 1000 := by omega
            have hsl : seen.length ≤ 1000 := by have := HTI.out.c; omega
            clear htk
            cases b
            case false =>
              have hnb : A ∉ T := fun h => by have := hb.out.2 h; cases this
              have HOF := Lib.hid (of_forged wc (mm + 1) mm seen T A HS2.out.k HTI.out hT12' hnb (by omega))
              clear hb hnb
              go_wp2_with fail
              refine HOF.out.mono ?_
              rintro e w4 ⟨kk, rfl, hkk, hb4⟩
              obtain ⟨V5, hV5⟩ : ∃ V, V = w4.alloc (.cells (mgC (mg0 0 0 0) (.slice none 0 0)).toArray 26) := ⟨_, rfl⟩
              obtain ⟨p5, hp5⟩ : ∃ p, p = w4.heap.size := ⟨_, rfl⟩
              have hb5 : Below w4.heap.size w4 V5 := by rw [hV5]; exact below_alloc' _ _
              have hG5 : Blk V5 p5 (mgC (mg0 0 0 0) (.slice none 0 0)) 26 := by rw [hV5, hp5]; exact Blk.new _ _ _
              have HB5 := Lib.hid (below_then' (below_then' HS2.out.b hb4) hb5)
              have HG5 := Lib.hid hG5
              have HSM : Hid (Calls Try.prog 17 #[.agg #[.int .i64 0, .int .i64 0, .int .i64 0, .int .i64 0, .int .i64 0, .int .i64 0, .int .i64 0, .int .i64 0, .int .i64 0, .string ByteArray.empty, .int .i64 0, .int .i64 0, .string ByteArray.empty, .slice none 0 0], .agg #[.int .i64 0, .int .i64 0, .int .i64 0, .int .i64 0, .int .i64 0, .int .i64 0, .int .i64 0, .int .i64 0, .int .i64 0, .string ByteArray.empty, .int .i64 0, .int .i64 0, .string ByteArray.empty, .slice none 0 0]] V5 fun e w' => e = .returned (.bool true) ∧ Below V5.heap.size V5 w') := Lib.hid (same_is V5 (mg0 0 0 0) (mg0 0 0 0) none 0 0 none 0 0 (Rs.nilM V5) (Rs.nilM V5) (by omega) true (Lib.hid ⟨fun _ => rfl, fun _ => rfl⟩))
              have HV5 := Lib.hid hV5
              have HP5 := Lib.hid hp5
              unfold mgC mg0 at HV5 ⊢
              clear hb4 hV5 hp5 hb5 hG5 HOF HS2 HTI
              go_upto_region 22 with fail
              rw [← HP5.out, ← HV5.out]
              have c0 : V5.cell? ⟨p5, 0, none⟩ = some (.int .i64 0) := HG5.out.cell (i := 0) rfl
              have c1 : V5.cell? ⟨p5, 1, none⟩ = some (.int .i64 0) := HG5.out.cell (i := 1) rfl
              have c2 : V5.cell? ⟨p5, 2, none⟩ = some (.int .i64 0) := HG5.out.cell (i := 2) rfl
              have c3 : V5.cell? ⟨p5, 3, none⟩ = some (.int .i64 0) := HG5.out.cell (i := 3) rfl
              have c4 : V5.cell? ⟨p5, 4, none⟩ = some (.int .i64 0) := HG5.out.cell (i := 4) rfl
              have c5 : V5.cell? ⟨p5, 5, none⟩ = some (.int .i64 0) := HG5.out.cell (i := 5) rfl
              have c6 : V5.cell? ⟨p5, 6, none⟩ = some (.int .i64 0) := HG5.out.cell (i := 6) rfl
              have c7 : V5.cell? ⟨p5, 7, none⟩ = some (.int .i64 0) := HG5.out.cell (i := 7) rfl
              have c8 : V5.cell? ⟨p5, 8, none⟩ = some (.int .i64 0) := HG5.out.cell (i := 8) rfl
              have c9 : V5.cell? ⟨p5, 9, none⟩ = some (.string ByteArray.empty) := HG5.out.cell (i := 9) rfl
              have c10 : V5.cell? ⟨p5, 10, none⟩ = some (.int .i64 0) := HG5.out.cell (i := 10) rfl
              have c11 : V5.cell? ⟨p5, 11, none⟩ = some (.int .i64 0) := HG5.out.cell (i := 11) rfl
              have c12 : V5.cell? ⟨p5, 12, none⟩ = some (.string ByteArray.empty) := HG5.out.cell (i := 12) rfl
              have c13 : V5.cell? ⟨p5, 13, none⟩ = some (.slice none 0 0) := HG5.out.cell (i := 13) rfl
              have hd : ((kk == 6) = true) ∨ ((kk == 6) = false ∧ (kk == 3) = true ∧ decide ((A.size : Int) < 32) = true) := by
                rcases hkk with rfl | ⟨h32, rfl⟩
                · exact .inl rfl
                · exact .inr ⟨rfl, rfl, decide_eq_true (by omega)⟩
              clear hkk
              rcases hd with d1 | ⟨d1, d2, d3⟩
              all_goals (
                go_wp2_with fail
                refine HSM.out.mono ?_
                rintro e w7 ⟨rfl, hb7⟩
                have HB7 := Lib.hid (below_then' HB5.out hb7)
                clear hb7 HSM
                go_wp2_with fail
                refine (awake_any w7).mono ?_
                rintro e w8 ⟨rfl, hb8⟩
                have HB8 := Lib.hid (below_then' HB7.out hb8)
                clear hb8
                go_wp2
                go_ret
                exact ⟨rfl, HB8.out⟩)
            case true =>
              obtain ⟨M, hM, hMs, hAe⟩ := HTI.out.a A (hb.out.1 rfl)
              have HOF := Lib.hid (of_told wc (mm + 1) mm seen M A HS2.out.k hsl hM hMs hAe)
              have HM := Lib.hid hM
              have HAE := Lib.hid hAe
              clear hb hM hMs hAe
              go_wp2_with fail
              refine HOF.out.mono ?_
              rintro e w4 ⟨ax, nx, kx, rfl, hrs, hnx, hb4⟩
              obtain ⟨V5, hV5⟩ : ∃ V, V = w4.alloc (.cells (mgC M (.slice ax nx kx)).toArray 26) := ⟨_, rfl⟩
              obtain ⟨p5, hp5⟩ : ∃ p, p = w4.heap.size := ⟨_, rfl⟩
              have hb5 : Below w4.heap.size w4 V5 := by rw [hV5]; exact below_alloc' _ _
              have hG5 : Blk V5 p5 (mgC M (.slice ax nx kx)) 26 := by rw [hV5, hp5]; exact Blk.new _ _ _
              have HS5 := Lib.hid ((HS2.out.next hb4).next hb5)
              have HG5 := Lib.hid hG5
              have HBY := Lib.hid (bytes_ideal V5 (mm + 1) mm seen HS5.out.k (by omega) M ax nx kx (hrs.below hb5 (Nat.le_refl _)) HM.out)
              have HV5 := Lib.hid hV5
              have HP5 := Lib.hid hp5
              unfold mgC at HV5 ⊢
              clear hb4 hV5 hp5 hb5 hG5 HOF HS2 HTI hrs
              go_upto_region 22 with fail
              rw [← HP5.out, ← HV5.out]
              go_wp2_with (refine ld_mg HG5.out rfl rfl rfl ?_)
              refine HBY.out.mono ?_
              rintro e w6 ⟨rfl, hI6, hg6⟩
              rw [← HAE.out]
              have HB6 := Lib.hid (HS5.out.mark hI6 hg6).b
              have d1 : (A.toList == A.toList) = true := by simp
              clear hI6 hg6
              go_wp2_with fail
              refine (awake_any w6).mono ?_
              rintro e w8 ⟨rfl, hb8⟩
              have HB8 := Lib.hid (below_then' HB6.out hb8)
              clear hb8
              go_wp2
              go_ret
              exact ⟨rfl, HB8.out⟩
end Go.Proofs.Ytlcpnpoleaanmaa
