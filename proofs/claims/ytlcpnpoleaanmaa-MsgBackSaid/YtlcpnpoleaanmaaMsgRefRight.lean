/- Which messages may be: the document's Right. Conditions: the list's length is at most the machine's. -/
import Derived.Test.YtlcpnpoleaanmaaMsgRefRight0
namespace Go.Proofs.Ytlcpnpoleaanmaa
open Go.RowKit
set_option linter.unusedVariables false


set_option maxRecDepth 100000 in
set_option maxHeartbeats 40000000 in
theorem rright_any (w : World) (m : Mg) (ao : Option Addr) (n cap : Nat) (hR : Rs w ao n cap 3 m.list enC) (hm : n ≤ maxLen) :
    Calls Try.prog 13 #[.agg (mgC m (.slice ao n cap)).toArray] w fun e w' => AnsR (rightM m) e ∧ Below w.heap.size w w' := by
  obtain ⟨V, hV⟩ : ∃ V, V = w.alloc (.cells (mgC m (.slice ao n cap)).toArray 26) := ⟨_, rfl⟩
  obtain ⟨p, hp⟩ : ∃ p, p = w.heap.size := ⟨_, rfl⟩
  have hG : Blk V p (mgC m (.slice ao n cap)) 26 := by rw [hV, hp]; exact Blk.new _ _ _
  have hB : Below w.heap.size w V := by rw [hV]; exact below_alloc' _ _
  have hRV := hR.below hB (Nat.le_refl _)
  obtain ⟨c0, c1, c2, c3, c4, c5, c6, c7, c8, c9, c10, c11, c12, c13⟩ := mg_cells hG
  unfold mgC at hV ⊢
  have HV := Lib.hid hV
  have HP := Lib.hid hp
  have HB := Lib.hid hB
  have HG := Lib.hid hG
  have HRV := Lib.hid hRV
  have HL := Lib.hid hR.2.2.1
  unfold maxLen at hm
  clear hV hp hG hB hR hRV
  go_enter Try.func13, Try.ntmps13
  go_upto_region 1 with fail
  rw [← HP.out, ← HV.out]
  go_wp2_with fail
  refine (fields_any _ m.kind).mono ?_
  rintro e w1 ⟨rfl, rfl⟩
  by_cases t0 : flds m.kind = []
  case pos =>
    have HF : Hid (¬ rightM m) := Lib.hid (fun h => h.1.1 t0)
    rw [fldS_nil t0]
    clear t0
    go_wp2
    go_ret
    exact ⟨AnsR.no HF.out, HB.out⟩
  have d0 := fldS_ne t0
  have T0 := Lib.hid t0
  clear t0
  by_cases s0 : m.src < 0
  case pos =>
    have HF : Hid (¬ rightM m) := Lib.hid (fun h => by have := h.1.2.1; omega)
    go_wp2
    go_ret
    exact ⟨AnsR.no HF.out, HB.out⟩
  by_cases s1 : 255 < m.src
  case pos =>
    have HF : Hid (¬ rightM m) := Lib.hid (fun h => by have := h.1.2.2.1; omega)
    go_wp2
    go_ret
    exact ⟨AnsR.no HF.out, HB.out⟩
  by_cases s2 : m.dst < 0
  case pos =>
    have HF : Hid (¬ rightM m) := Lib.hid (fun h => by have := h.1.2.2.2.1; omega)
    go_wp2
    go_ret
    exact ⟨AnsR.no HF.out, HB.out⟩
  by_cases s3 : 255 < m.dst
  case pos =>
    have HF : Hid (¬ rightM m) := Lib.hid (fun h => by have := h.1.2.2.2.2; omega)
    go_wp2
    go_ret
    exact ⟨AnsR.no HF.out, HB.out⟩
  have HH : Hid (okHead m) := Lib.hid ⟨T0.out, by omega, by omega, by omega, by omega⟩
  go_wp2_with fail
  clear s0 s1 s2 s3 d0 c0 c1 c2 c3 c4 c5 c6 c7 c8 c9 c10 c11 c12 c13
  obtain ⟨LS, hLS⟩ : ∃ S, S = sixS := ⟨_, rfl⟩
  have hls : (6 : Nat) = LS.size := by rw [hLS]; rfl
  have HLS := Lib.hid hLS
  have HL6 := Lib.hid hls
  clear hls
  rw [show (⟨#[66, 71, 83, 70, 84, 82]⟩ : ByteArray) = LS from hLS.symm]
  clear hLS
  go_loopw [4] (fun i wr => ∃ k : Nat, k ≤ 6 ∧ i = .int .i64 k ∧ (∀ c ∈ sixL.take k, okNum m.kind c (numM m c) = true) ∧ Below V.heap.size V wr) (fun i _ => 6 - (intOf i).toNat)
  case atStart => exact ⟨0, by omega, rfl, fun c h => absurd h (by simp), Below.refl _ _⟩
  case round =>
    as_aux_lemma =>
      obtain ⟨k, hk, rfl, ha, hBw⟩ := hrel
      have hGw := HG.out.below hBw HG.out.lt
      have HGW := Lib.hid hGw
      have HA := Lib.hid ha
      have HBW := Lib.hid hBw
      have HRW := Lib.hid (HRV.out.below hBw (Nat.le_refl _))
      have hpw := hGw.lt
      have HPW := Lib.hid hpw
      obtain ⟨c0, c1, c2, c3, c4, c5, c6, c7, c8, c9, c10, c11, c12, c13⟩ := mg_cells hGw
      clear ha hBw hGw hpw
      by_cases hlt : k < 6
      · have hkL : k < LS.size := by rw [← HL6.out]; exact hlt
        have hk6 : k < sixL.length := by unfold sixL; simp; omega
        obtain ⟨u, hu⟩ : ∃ u, u = LS[k] := ⟨_, rfl⟩
        have hu6 : u = sixL[k] := by rw [hu]; have h2 := HLS.out; subst h2; rfl
        have htk : sixL.take (k + 1) = sixL.take k ++ [u] := by rw [hu6]; exact List.take_succ_eq_append_getElem hk6
        have hmem : u ∈ sixL := by rw [hu6]; exact List.getElem_mem hk6
        have HTK := Lib.hid htk
        have HMEM := Lib.hid hmem
        have i1 : (0 : Int) ≤ (k : Int) := by omega
        have i2 : (k : Int) < (LS.size : Int) := by omega
        have hub := u.toNat_lt
        have HU := Lib.hid hu
        clear htk hmem hu6 hk6 hu
        go_wp2_with fail
        have H : ∀ w2 : World, Below wr.drew.heap.size wr.drew w2 → Blk w2 p (mgC m (.slice ao n cap)) 26 := fun w2 hb => (HGW.out.drew).below hb HPW.out
        go_region_held3 (fun w' => w'.cell? ⟨p, 0, none⟩ = some (.int .i64 m.kind) ∧ w'.cell? ⟨p, 1, none⟩ = some (.int .i64 m.src) ∧ w'.cell? ⟨p, 2, none⟩ = some (.int .i64 m.dst) ∧ w'.cell? ⟨p, 3, none⟩ = some (.int .i64 m.ballot) ∧ w'.cell? ⟨p, 4, none⟩ = some (.int .i64 m.gen) ∧ w'.cell? ⟨p, 5, none⟩ = some (.int .i64 m.basis) ∧ w'.cell? ⟨p, 6, none⟩ = some (.int .i64 m.floor) ∧ w'.cell? ⟨p, 7, none⟩ = some (.int .i64 m.top) ∧ w'.cell? ⟨p, 8, none⟩ = some (.int .i64 m.read) ∧ w'.cell? ⟨p, 9, none⟩ = some (.string m.mark) ∧ w'.cell? ⟨p, 10, none⟩ = some (.int .i64 m.pat) ∧ w'.cell? ⟨p, 11, none⟩ = some (.int .i64 m.pof) ∧ w'.cell? ⟨p, 12, none⟩ = some (.string m.ptext) ∧ w'.cell? ⟨p, 13, none⟩ = some (.slice ao n cap))
          (first | go_keep | exact mg_cells (H _ hb4))
          (first | (go_at_call 32; refine (number_is _ m ao n cap u _ (congrArg (fun c : UInt8 => ((c.toNat : Nat) : Int)) HU.out.symm)).mono ?_; rintro e w4 ⟨rfl, hb4⟩))

        have hG4 := H _ hb4
        have HB4 : Hid (Below V.heap.size V w4) := Lib.hid (below_then' HBW.out (((Below.refl _ wr).drew).trans hb4))
        clear c0 c1 c2 c3 c4 c5 c6 c7 c8 c9 c10 c11 c12 c13 H
        have c0 := hG4.cell (i := 0) rfl
        clear hG4 hb4
        obtain ⟨N, hN⟩ : ∃ N, N = numM m u := ⟨_, rfl⟩
        rw [← hN]
        have HN := Lib.hid hN
        clear hN
        have hx : ((LS[k].toNat : Nat) : Int) = (u.toNat : Nat) := congrArg (fun c : UInt8 => ((c.toNat : Nat) : Int)) HU.out.symm
        have HX := Lib.hid hx
        clear hx
        by_cases hh : hasF m.kind u = true
        · have HHAS := Lib.hid hh
          by_cases hin : inNum N = true
          · have HIN := Lib.hid hin
            have HOK : Hid (okNum m.kind u (numM m u) = true) := Lib.hid (by unfold okNum; rw [if_pos hh, ← HN.out]; exact hin)
            clear hh hin
            go_wp2_with fail
            go_quiet ((first | (go_at_call 33; exact quiet_eq (rhas_is _ _ u true HHAS _ HX.out)) | (go_at_call 34; exact quiet_eq (fits_is _ _ _ HIN))))
            go_wp2
            go_roundw
            case rel =>
              refine ⟨k + 1, by omega, by go_num, fun c hc => ?_, below_drewN' HB4.out _⟩
              rw [HTK.out] at hc
              rcases List.mem_append.1 hc with h | h
              · exact HA.out c h
              · obtain rfl : c = u := by simpa using h
                exact HOK.out
            case measure => simp [intOf]; omega
          · have hin2 : inNum N = false := by simpa using hin
            have HIN := Lib.hid hin2
            have HOK : Hid (okNum m.kind u (numM m u) = false) := Lib.hid (by unfold okNum; rw [if_pos hh, ← HN.out]; exact hin2)
            clear hh hin hin2
            go_wp2_with fail
            go_quiet ((first | (go_at_call 33; exact quiet_eq (rhas_is _ _ u true HHAS _ HX.out)) | (go_at_call 34; exact quiet_eq (fits_is _ _ _ HIN))))
            have HF : Hid (¬ rightM m) := Lib.hid (fun h => by have h2 := (okNums_iff m).1 h.2.1 u HMEM.out; rw [HOK.out] at h2; cases h2)
            go_wp2
            go_ret
            exact ⟨AnsR.no HF.out, below_drewN' (below_then' HB.out HB4.out) _⟩
        · have hh2 : hasF m.kind u = false := by simpa using hh
          have HHAS := Lib.hid hh2
          have HIN : Hid (True) := Lib.hid trivial
          by_cases hz : N = 0
          · have HOK : Hid (okNum m.kind u (numM m u) = true) := Lib.hid (by unfold okNum; rw [if_neg hh, ← HN.out]; exact decide_eq_true hz)
            have dz : (N != 0) = false := by simp [hz]
            clear hh hh2 hz
            go_wp2_with fail
            go_quiet ((go_at_call 33; exact quiet_eq (rhas_is _ _ u false HHAS _ HX.out)))
            go_wp2
            go_roundw
            case rel =>
              refine ⟨k + 1, by omega, by go_num, fun c hc => ?_, below_drewN' HB4.out _⟩
              rw [HTK.out] at hc
              rcases List.mem_append.1 hc with h | h
              · exact HA.out c h
              · obtain rfl : c = u := by simpa using h
                exact HOK.out
            case measure => simp [intOf]; omega
          · have HOK : Hid (okNum m.kind u (numM m u) = false) := Lib.hid (by unfold okNum; rw [if_neg hh, ← HN.out]; exact decide_eq_false hz)
            have dz : (N != 0) = true := by simpa using hz
            clear hh hh2 hz
            go_wp2_with fail
            go_quiet ((go_at_call 33; exact quiet_eq (rhas_is _ _ u false HHAS _ HX.out)))
            have HF : Hid (¬ rightM m) := Lib.hid (fun h => by have h2 := (okNums_iff m).1 h.2.1 u HMEM.out; rw [HOK.out] at h2; cases h2)
            go_wp2
            go_ret
            exact ⟨AnsR.no HF.out, below_drewN' (below_then' HB.out HB4.out) _⟩
      · have hk6 : k = 6 := by omega
        have HNS : Hid (okNums m) := Lib.hid ((okNums_iff m).2 (by have h := HA.out; rw [hk6] at h; exact h))
        subst hk6
        clear HA
        have HBY := Lib.hid (below_then' HB.out HBW.out)
        obtain ⟨rm, hrm⟩ : ∃ r, r = hasF m.kind 77 := ⟨_, rfl⟩
        have HRM : Hid (hasF m.kind 77 = rm) := Lib.hid hrm.symm
        clear hrm
        go_upto_region 10 with fail
        go_cut [85] (fun c wx => ∃ r : Bool, c = .bool r ∧ (r = true ↔ ¬ okMark m) ∧ wr = wx)
        case first =>
          as_aux_lemma =>
            cases rm
            case false =>
              by_cases e0 : m.mark.size = 0
              · have HF : Hid (okMark m) := Lib.hid ⟨(fun h2 => by rw [HRM.out] at h2; cases h2), fun _ => e0⟩
                have e33 : m.mark.toList = [] := (toList_nil _).2 e0
                clear e0
                go_wp2_with fail
                refine (rhas_is _ m.kind 77 _ HRM _ (by decide)).mono ?_
                rintro e w5 ⟨rfl, rfl⟩
                go_wp2_with fail
                refine (rhas_is _ m.kind 77 _ HRM _ (by decide)).mono ?_
                rintro e w5 ⟨rfl, rfl⟩
                go_wp2_with fail
                go_meet
                case rel => exact ⟨false, rfl, ⟨(fun h => by cases h), fun h => absurd HF.out h⟩, rfl⟩
              · have HF : Hid (¬ okMark m) := Lib.hid (fun h => e0 (h.2 HRM.out))
                have d32 := strNe' e0
                clear e0
                go_wp2_with fail
                refine (rhas_is _ m.kind 77 _ HRM _ (by decide)).mono ?_
                rintro e w5 ⟨rfl, rfl⟩
                go_wp2_with fail
                refine (rhas_is _ m.kind 77 _ HRM _ (by decide)).mono ?_
                rintro e w5 ⟨rfl, rfl⟩
                go_wp2_with fail
                go_meet
                case rel => exact ⟨true, rfl, ⟨fun _ => HF.out, fun _ => rfl⟩, rfl⟩
            case true =>
              by_cases e32 : m.mark.size = 32
              · have HF : Hid (okMark m) := Lib.hid ⟨fun _ => e32, (fun h2 => by rw [HRM.out] at h2; cases h2)⟩
                have d32 : ((m.mark.size : Int) != 32) = false := by simp; omega
                clear e32
                go_wp2_with fail
                refine (rhas_is _ m.kind 77 _ HRM _ (by decide)).mono ?_
                rintro e w5 ⟨rfl, rfl⟩
                go_wp2_with fail
                refine (rhas_is _ m.kind 77 _ HRM _ (by decide)).mono ?_
                rintro e w5 ⟨rfl, rfl⟩
                go_wp2_with fail
                go_meet
                case rel => exact ⟨false, rfl, ⟨(fun h => by cases h), fun h => absurd HF.out h⟩, rfl⟩
              · have HF : Hid (¬ okMark m) := Lib.hid (fun h => e32 (h.1 HRM.out))
                have d32 : ((m.mark.size : Int) != 32) = true := by simp; omega
                clear e32
                go_wp2_with fail
                refine (rhas_is _ m.kind 77 _ HRM _ (by decide)).mono ?_
                rintro e w5 ⟨rfl, rfl⟩
                go_wp2_with fail
                go_meet
                case rel => exact ⟨true, rfl, ⟨fun _ => HF.out, fun _ => rfl⟩, rfl⟩
        case rest =>
          as_aux_lemma =>
            obtain ⟨r, rfl, hr, rfl⟩ := hcut
            have HMK := Lib.hid hr
            clear hr HRM
            cases r
            case true =>
              have HF : Hid (¬ rightM m) := Lib.hid (fun h => (HMK.out.1 (by simp)) h.2.2.1)
              go_wp2
              go_ret
              exact ⟨AnsR.no HF.out, HBY.out⟩
            have HM : Hid (okMark m) := Lib.hid (Classical.byContradiction fun h => by have := HMK.out.2 h; cases this)
            clear HMK
            obtain ⟨X, hX⟩ : ∃ X, X = wr.alloc (Obj.cells #[.int .i64 m.pat, .int .i64 m.pof, .string m.ptext] 23) := ⟨_, rfl⟩
            obtain ⟨q, hq⟩ : ∃ q, q = wr.heap.size := ⟨_, rfl⟩
            have hxX : Blk X q [.int .i64 m.pat, .int .i64 m.pof, .string m.ptext] 23 := by rw [hX, hq]; exact Blk.new _ _ _
            have hBX : Below wr.heap.size wr X := by rw [hX]; exact below_alloc' _ _
            have hGX := HGW.out.below hBX HGW.out.lt
            have HBX := Lib.hid (below_then' HBY.out hBX)
            have HRX := Lib.hid (HRW.out.below hBX (Nat.le_refl _))
            have HXX := Lib.hid hX
            have HQ := Lib.hid hq
            have HGX := Lib.hid hGX
            go_upto_region 13 with fail
            rw [← HQ.out, ← HXX.out]
            clear c0 c1 c2 c3 c4 c5 c6 c7 c8 c9 c10 c11 c12 c13
            have c0 := hGX.cell (i := 0) rfl
            have c13 := hGX.cell (i := 13) rfl
            have e0 := hxX.cell (i := 0) rfl
            have e1 := hxX.cell (i := 1) rfl
            have e2 := hxX.cell (i := 2) rfl
            clear hxX hGX hBX hX hq
            obtain ⟨rp, hrp⟩ : ∃ r, r = hasF m.kind 80 := ⟨_, rfl⟩
            have HRP : Hid (hasF m.kind 80 = rp) := Lib.hid hrp.symm
            clear hrp
            go_cut [137] (fun c wx => ∃ r : Bool, c = .bool r ∧ (r = true ↔ ¬ okPart m) ∧ X = wx)
            case first =>
              as_aux_lemma =>
                have hd : okPart m ↔ ((rp = true → 0 ≤ m.pat ∧ 0 ≤ m.pof ∧ m.pat ≤ 4096 ∧ m.pof ≤ 4096 ∧ m.ptext.size ≤ 1024) ∧ (rp = false → m.pat = 0 ∧ m.pof = 0 ∧ m.ptext.size = 0)) := by rw [← HRP.out]; exact Iff.rfl
                cases rp
                case true =>
                  have HD : Hid (okPart m ↔ (0 ≤ m.pat ∧ 0 ≤ m.pof ∧ m.pat ≤ 4096 ∧ m.pof ≤ 4096 ∧ m.ptext.size ≤ 1024)) := Lib.hid (by rw [hd]; simp)
                  clear hd
                  go_wp2_with (go_at_call 33; refine (rhas_is _ m.kind 80 _ HRP _ (by decide)).mono ?_; rintro e w5 ⟨rfl, rfl⟩)
                  all_goals
                    go_meet
                    case rel =>
                      first
                        | exact ⟨true, rfl, ⟨(fun _ h => by have := HD.out.1 h; omega), fun _ => rfl⟩, rfl⟩
                        | exact ⟨_, rfl, ⟨(fun h => by simp at h; omega), fun h => absurd (HD.out.2 ⟨by omega, by omega, by omega, by omega, by omega⟩) h⟩, rfl⟩
                case false =>
                  have HD : Hid (okPart m ↔ (m.pat = 0 ∧ m.pof = 0 ∧ m.ptext.size = 0)) := Lib.hid (by rw [hd]; simp)
                  clear hd
                  by_cases t0 : m.pat = 0
                  case neg =>
                    have d0 : (m.pat != 0) = true := by simpa using t0
                    have HF : Hid (¬ okPart m) := Lib.hid (fun h => by have := HD.out.1 h; omega)
                    clear t0
                    go_wp2_with fail
                    refine (rhas_is _ m.kind 80 _ HRP _ (by decide)).mono ?_
                    rintro e w5 ⟨rfl, rfl⟩
                    go_wp2_with fail
                    refine (rhas_is _ m.kind 80 _ HRP _ (by decide)).mono ?_
                    rintro e w5 ⟨rfl, rfl⟩
                    go_wp2_with fail
                    go_meet
                    case rel => exact ⟨true, rfl, ⟨fun _ => HF.out, fun _ => rfl⟩, rfl⟩
                  have d0 : (m.pat != 0) = false := by simp [t0]
                  have HT0 := Lib.hid t0
                  clear t0
                  by_cases t1 : m.pof = 0
                  case neg =>
                    have d1 : (m.pof != 0) = true := by simpa using t1
                    have HF : Hid (¬ okPart m) := Lib.hid (fun h => by have := HD.out.1 h; omega)
                    clear t1
                    go_wp2_with fail
                    refine (rhas_is _ m.kind 80 _ HRP _ (by decide)).mono ?_
                    rintro e w5 ⟨rfl, rfl⟩
                    go_wp2_with fail
                    refine (rhas_is _ m.kind 80 _ HRP _ (by decide)).mono ?_
                    rintro e w5 ⟨rfl, rfl⟩
                    go_wp2_with fail
                    go_meet
                    case rel => exact ⟨true, rfl, ⟨fun _ => HF.out, fun _ => rfl⟩, rfl⟩
                  have d1 : (m.pof != 0) = false := by simp [t1]
                  have HT1 := Lib.hid t1
                  clear t1
                  by_cases t2 : m.ptext.size = 0
                  case neg =>
                    have d2 := strNe' t2
                    have HF : Hid (¬ okPart m) := Lib.hid (fun h => by have := HD.out.1 h; omega)
                    clear t2
                    go_wp2_with fail
                    refine (rhas_is _ m.kind 80 _ HRP _ (by decide)).mono ?_
                    rintro e w5 ⟨rfl, rfl⟩
                    go_wp2_with fail
                    refine (rhas_is _ m.kind 80 _ HRP _ (by decide)).mono ?_
                    rintro e w5 ⟨rfl, rfl⟩
                    go_wp2_with fail
                    go_meet
                    case rel => exact ⟨true, rfl, ⟨fun _ => HF.out, fun _ => rfl⟩, rfl⟩
                  have d2 : m.ptext.toList = [] := (toList_nil _).2 t2
                  have HF : Hid (okPart m) := Lib.hid (HD.out.2 ⟨HT0.out, HT1.out, t2⟩)
                  clear t2
                  go_wp2_with fail
                  refine (rhas_is _ m.kind 80 _ HRP _ (by decide)).mono ?_
                  rintro e w5 ⟨rfl, rfl⟩
                  go_wp2_with fail
                  refine (rhas_is _ m.kind 80 _ HRP _ (by decide)).mono ?_
                  rintro e w5 ⟨rfl, rfl⟩
                  go_wp2_with fail
                  go_meet
                  case rel => exact ⟨false, rfl, ⟨(fun h => by cases h), fun h => absurd HF.out h⟩, rfl⟩
            case rest =>
              obtain ⟨r, rfl, hr, rfl⟩ := hcut
              have HMK := Lib.hid hr
              clear hr HRP
              cases r
              case true =>
                have HF : Hid (¬ rightM m) := Lib.hid (fun h => (HMK.out.1 (by simp)) h.2.2.2.1)
                go_wp2
                go_ret
                exact ⟨AnsR.no HF.out, HBX.out⟩
              have HPA : Hid (okPart m) := Lib.hid (Classical.byContradiction fun h => by have := HMK.out.2 h; cases this)
              clear HMK
              obtain ⟨rl, hrl⟩ : ∃ r, r = hasF m.kind 76 := ⟨_, rfl⟩
              have HRL : Hid (hasF m.kind 76 = rl) := Lib.hid hrl.symm
              clear hrl e0 e1 e2 HRV HLS HL6 HV HP T0 HRW HGW HPW HBY HBW HB HXX HQ HG
              go_wp2_with fail
              refine (rhas_is _ m.kind 76 _ HRL _ (by decide)).mono ?_
              rintro e w5 ⟨rfl, rfl⟩
              have hl := HL.out
              have hd : okList m ↔ ((rl = true → n ≤ 64 ∧ ∀ i, i < n → enAt m.list i) ∧ (rl = false → n = 0)) := by rw [← hl, ← HRL.out]; exact Iff.rfl
              clear hl
              have HALL : Hid (okList m ↔ rightM m) := Lib.hid ⟨fun h => ⟨HH.out, HNS.out, HM.out, HPA.out, h⟩, fun h => h.2.2.2.2⟩
              cases rl
              case false =>
                have HD : Hid (okList m ↔ n = 0) := Lib.hid (by rw [hd]; simp)
                clear hd
                go_wp2
                go_ret
                exact ⟨⟨_, rfl, by rw [← HALL.out, HD.out]; simp⟩, HBX.out⟩
              have HD : Hid (okList m ↔ (n ≤ 64 ∧ ∀ i, i < n → enAt m.list i)) := Lib.hid (by rw [hd]; simp)
              clear hd
              by_cases h64 : n ≤ 64
              case neg =>
                have HF : Hid (¬ rightM m) := Lib.hid (fun h => h64 (HD.out.1 (HALL.out.2 h)).1)
                go_wp2
                go_ret
                exact ⟨AnsR.no HF.out, HBX.out⟩
              go_wp2_with fail
              go_loopw [7] (fun i wr => ∃ k : Nat, k ≤ n ∧ i = .int .i64 k ∧ (∀ i, i < k → enAt m.list i) ∧ Below X.heap.size X wr) (fun i _ => n - (intOf i).toNat)
              case atStart => exact ⟨0, by omega, rfl, fun i h => absurd h (by omega), Below.refl _ _⟩
              case round =>
                clear c0 c13
                obtain ⟨k, hk, rfl, ha, hBw⟩ := hrel
                have f13 := (HGX.out.below hBw HGX.out.lt).cell (i := 13) rfl
                by_cases hlt : k < n
                case neg =>
                  have hkn : k = n := by omega
                  subst hkn
                  have HF : Hid (rightM m) := Lib.hid (HALL.out.1 (HD.out.2 ⟨h64, ha⟩))
                  have HBE := Lib.hid (below_then' HBX.out hBw)
                  clear ha hBw
                  go_wp2
                  go_ret
                  exact ⟨AnsR.yes HF.out, HBE.out⟩
                obtain ⟨b, off, rfl, hbw, hc⟩ := (HRX.out.below hBw (Nat.le_refl _)).2.2.2 (by omega)
                have hkl : k < m.list.length := by rw [HL.out]; exact hlt
                obtain ⟨x, hx⟩ : ∃ x, m.list[k]? = some x := ⟨_, List.getElem?_eq_getElem hkl⟩
                have hxe : m.list[k] = x := by rw [List.getElem?_eq_getElem hkl] at hx; exact Option.some.inj hx
                have hcx := hc k hkl
                rw [hxe] at hcx
                have a0 : wr.cell? ⟨b, off + k * 3, none⟩ = some (.int .i64 x.gen) := hcx 0 _ rfl
                have a1 : wr.cell? ⟨b, off + k * 3 + 1, none⟩ = some (.int .i64 x.ballot) := hcx 1 _ rfl
                have a2 : wr.cell? ⟨b, off + k * 3 + 2, none⟩ = some (.string x.mark) := hcx 2 _ rfl
                obtain ⟨Y, hY⟩ : ∃ Y, Y = wr.alloc (Obj.cells #[.int .i64 x.gen, .int .i64 x.ballot, .string x.mark] 55) := ⟨_, rfl⟩
                obtain ⟨y0, hy0⟩ : ∃ q, q = wr.heap.size := ⟨_, rfl⟩
                have hxX : Blk Y y0 [.int .i64 x.gen, .int .i64 x.ballot, .string x.mark] 55 := by rw [hY, hy0]; exact Blk.new _ _ _
                have e0 := hxX.cell (i := 0) rfl
                have e1 := hxX.cell (i := 1) rfl
                have e2 := hxX.cell (i := 2) rfl
                have hBY : Below X.heap.size X Y := by rw [hY]; exact hBw.alloc hBw.size _
                have g13 := (HGX.out.below hBY HGX.out.lt).cell (i := 13) rfl
                have HKX := Lib.hid hx
                have HYY := Lib.hid hY
                have HY0 := Lib.hid hy0
                have HA := Lib.hid ha
                have HBZ := Lib.hid hBY
                have i1 : (k : Int) < (n : Int) := by omega
                have hRY := (HRX.out.below hBY (Nat.le_refl _)).2.2.2 (by omega)
                have hpr : ∀ j, k = j + 1 → ∃ y, m.list[j]? = some y ∧ Y.cell? ⟨b, off + j * 3, none⟩ = some (.int .i64 y.gen) := by
                  intro j hj
                  have hjl : j < m.list.length := by omega
                  obtain ⟨b', off', e, hb', hc'⟩ := hRY
                  simp only [Option.some.injEq, Addr.mk.injEq, and_true] at e
                  obtain ⟨rfl, rfl⟩ := e
                  exact ⟨_, List.getElem?_eq_getElem hjl, hc' j hjl 0 _ rfl⟩
                have HPR := Lib.hid hpr
                have HLT := Lib.hid hlt
                clear hx hxe hcx hY hy0 hxX hBY ha hBw hc hbw hRY hpr hkl
                go_upto_region 23 with fail
                rw [← HY0.out, ← HYY.out]
                clear a0 a1 a2 f13 HYY HY0 hlt
                by_cases t0 : inNum x.gen = true
                case neg =>
                  have HIN0 : Hid (inNum x.gen = false) := Lib.hid (by simpa using t0)
                  have HIN1 : Hid True := Lib.hid trivial
                  have HF : Hid (¬ rightM m) := Lib.hid (fun h => by
                    obtain ⟨⟨q1, q2, q3, q4, q5⟩, q6⟩ := (HD.out.1 (HALL.out.2 h)).2 k HLT.out x HKX.out
                    exact t0 (decide_eq_true ⟨q1, q2⟩))
                  clear t0 HPR HA
                  go_quiet ((first | (go_at_call_of 34 (Value.int .i64 x.gen); exact quiet_eq (fits_is _ x.gen _ HIN0)) | (go_at_call_of 34 (Value.int .i64 x.ballot); exact quiet_eq (fits_is _ x.ballot _ HIN1))))
                  go_wp2
                  go_ret
                  exact ⟨AnsR.no HF.out, below_drewN' (below_then' HBX.out HBZ.out) _⟩
                have HIN0 := Lib.hid t0
                clear t0
                by_cases t1 : inNum x.ballot = true
                case neg =>
                  have HIN1 : Hid (inNum x.ballot = false) := Lib.hid (by simpa using t1)
                  have HF : Hid (¬ rightM m) := Lib.hid (fun h => by
                    obtain ⟨⟨q1, q2, q3, q4, q5⟩, q6⟩ := (HD.out.1 (HALL.out.2 h)).2 k HLT.out x HKX.out
                    exact t1 (decide_eq_true ⟨q3, q4⟩))
                  clear t1 HPR HA
                  go_quiet ((first | (go_at_call_of 34 (Value.int .i64 x.gen); exact quiet_eq (fits_is _ x.gen _ HIN0)) | (go_at_call_of 34 (Value.int .i64 x.ballot); exact quiet_eq (fits_is _ x.ballot _ HIN1))))
                  go_wp2
                  go_ret
                  exact ⟨AnsR.no HF.out, below_drewN' (below_then' HBX.out HBZ.out) _⟩
                have HIN1 := Lib.hid t1
                clear t1
                by_cases t2 : x.mark.size = 32
                case neg =>
                  have d2 : ((x.mark.size : Int) != 32) = true := by simp; omega
                  have HF : Hid (¬ rightM m) := Lib.hid (fun h => by
                    obtain ⟨⟨q1, q2, q3, q4, q5⟩, q6⟩ := (HD.out.1 (HALL.out.2 h)).2 k HLT.out x HKX.out
                    exact t2 q5)
                  clear t2 HPR HA
                  go_quiet ((first | (go_at_call_of 34 (Value.int .i64 x.gen); exact quiet_eq (fits_is _ x.gen _ HIN0)) | (go_at_call_of 34 (Value.int .i64 x.ballot); exact quiet_eq (fits_is _ x.ballot _ HIN1))))
                  go_wp2
                  go_ret
                  exact ⟨AnsR.no HF.out, below_drewN' (below_then' HBX.out HBZ.out) _⟩
                have d2 : ((x.mark.size : Int) != 32) = false := by simp; omega
                have HEN : Hid (enOk x) := Lib.hid (by have g1 := of_decide_eq_true HIN0.out; have g2 := of_decide_eq_true HIN1.out; exact ⟨by omega, by omega, by omega, by omega, t2⟩)
                clear t2
                by_cases t3 : 0 < k
                case neg =>
                  have d3 : decide ((0 : Int) < (k : Int)) = false := decide_eq_false (by omega)
                  have d3' : decide (0 < k) = false := decide_eq_false t3
                  have HAT : Hid (enAt m.list k) := Lib.hid (fun x' hx' => by rw [HKX.out] at hx'; cases hx'; exact ⟨HEN.out, fun h => absurd h t3⟩)
                  clear t3 HPR
                  go_quiet ((first | (go_at_call_of 34 (Value.int .i64 x.gen); exact quiet_eq (fits_is _ x.gen _ HIN0)) | (go_at_call_of 34 (Value.int .i64 x.ballot); exact quiet_eq (fits_is _ x.ballot _ HIN1))))
                  go_wp2
                  go_roundw
                  case rel => exact ⟨k + 1, by omega, by go_num, (fun i hi => by
                    rcases Nat.lt_or_ge i k with h | h
                    · exact HA.out i h
                    · obtain rfl : i = k := by omega
                      exact HAT.out), below_drewN' HBZ.out _⟩
                  case measure => simp [intOf]; have := HLT.out; omega
                have d3 : decide ((0 : Int) < (k : Int)) = true := decide_eq_true (by omega)
                have d3' : decide (0 < k) = true := decide_eq_true t3
                obtain ⟨j, hj⟩ : ∃ j, k = j + 1 := ⟨k - 1, by omega⟩
                obtain ⟨y, hy, r0⟩ := HPR.out j hj
                have HKY : Hid (m.list[k - 1]? = some y) := Lib.hid (by rw [hj, Nat.add_sub_cancel]; exact hy)
                have j1 : IntKind.i64.wrap ((k : Int) - 1) = (j : Int) := by rw [IntKind.wrap_i64]; omega
                have j2 : (k : Int) - 1 = (j : Int) := by omega
                have j3 : (0 : Int) ≤ (j : Int) := by omega
                have j4 : (j : Int) < (n : Int) := by have := HLT.out; omega
                clear hy hj HPR
                by_cases t4 : x.gen ≤ y.gen
                case pos =>
                  have d4 : decide (x.gen ≤ y.gen) = true := decide_eq_true t4
                  have HF : Hid (¬ rightM m) := Lib.hid (fun h => by
                    obtain ⟨⟨q1, q2, q3, q4, q5⟩, q6⟩ := (HD.out.1 (HALL.out.2 h)).2 k HLT.out x HKX.out
                    have q7 := q6 (by omega) y HKY.out; omega)
                  clear t4 HA
                  go_quiet ((first | (go_at_call_of 34 (Value.int .i64 x.gen); exact quiet_eq (fits_is _ x.gen _ HIN0)) | (go_at_call_of 34 (Value.int .i64 x.ballot); exact quiet_eq (fits_is _ x.ballot _ HIN1))))
                  go_wp2
                  go_ret
                  exact ⟨AnsR.no HF.out, below_drewN' (below_then' HBX.out HBZ.out) _⟩
                have d4 : decide (x.gen ≤ y.gen) = false := decide_eq_false t4
                have HAT : Hid (enAt m.list k) := Lib.hid (fun x' hx' => by rw [HKX.out] at hx'; cases hx'; exact ⟨HEN.out, fun _ y' hy' => by rw [HKY.out] at hy'; cases hy'; omega⟩)
                clear t4
                go_quiet ((first | (go_at_call_of 34 (Value.int .i64 x.gen); exact quiet_eq (fits_is _ x.gen _ HIN0)) | (go_at_call_of 34 (Value.int .i64 x.ballot); exact quiet_eq (fits_is _ x.ballot _ HIN1))))
                go_wp2
                go_roundw
                case rel => exact ⟨k + 1, by omega, by go_num, (fun i hi => by
                  rcases Nat.lt_or_ge i k with h | h
                  · exact HA.out i h
                  · obtain rfl : i = k := by omega
                    exact HAT.out), below_drewN' HBZ.out _⟩
                case measure => simp [intOf]; have := HLT.out; omega
end Go.Proofs.Ytlcpnpoleaanmaa
