/- MsgReads, walked: what message any bytes are that have their mark behind, or why they are none. No conditions. -/
import Derived.Test.YtlcpnpoleaanmaaMsgRefRead
import Derived.Deep.DeepCutAuto
namespace Go.Proofs.Ytlcpnpoleaanmaa
open Go.RowKit
set_option linter.unusedVariables false
set_option linter.unusedSimpArgs false

theorem cat_cut1 (s t : ByteArray) : (s ++ t).extract 0 s.size = s := ByteArray.extract_append_eq_left rfl
theorem cat_cut2 (s t : ByteArray) : (s ++ t).extract s.size (s ++ t).size = t := by
  rw [ByteArray.size_append]; exact ByteArray.extract_append_eq_right rfl rfl
theorem of_own (w : World) (bp mm : Nat) (seen : List (List UInt8)) (s K S : ByteArray) (hI : BookI w bp mm seen) (hsn : seen.length ≤ 1000) (hs : s.size ≤ 100000) (hmem : s.data.toList ∈ seen) (hK : K = numS (seen.idxOf s.data.toList + 1)) (hS : Hid (S = s ++ K)) :
    Calls Try.prog 22 #[.pointer (some ⟨bp, 0, none⟩), .string S] w (OfR w s.data.toList) := by
  have hK32 : K.size = 32 := by rw [hK]; exact numS_size _
  have h1 := of_take w (.pointer (some ⟨bp, 0, none⟩)) S s.size (by rw [hS.out, ByteArray.size_append, hK32]) (by rw [hS.out, ByteArray.size_append]; omega) (Lib.hid (fun W hW => by
    rw [hS.out, cat_cut1, cat_cut2]
    have hl := hI.2.2.2.2.1
    refine (is_ideal W bp mm seen s K (BookI.below hI hW hl.1 hl.2) (by unfold maxLen; omega) (by omega)).mono ?_
    rintro e w' ⟨rfl, h2⟩
    refine ⟨?_, h2⟩
    have : decide (s.data.toList ∈ seen ∧ K.data.toList = numB (seen.idxOf s.data.toList + 1)) = true := decide_eq_true ⟨hmem, by rw [hK]; rfl⟩
    rw [this]))
  rw [hS.out, cat_cut1] at h1
  rw [hS.out]
  exact h1

set_option maxRecDepth 100000 in
set_option maxHeartbeats 8000000 in
theorem msgReads_walk (w : World) (s0 : ByteArray) (hs0 : s0.size ≤ 140737488351232) :
    Calls Try.prog 7 #[.string s0] w fun e w' => e = .returned (.bool true) ∧ Below w.heap.size w w' := by
  go_enter Try.func7, Try.ntmps7
  go_upto_if 10 with fail
  go_cut [0] (fun v wx => ∃ S : ByteArray, v = .string S ∧ S.size ≤ 4000 ∧ w = wx)
  case first =>
    by_cases h : 4000 < s0.size
    · go_wp2
      go_meet
      case rel => exact ⟨_, rfl, by rw [ByteArray.size_extract]; omega, rfl⟩
    · go_wp2
      go_meet
      case rel => exact ⟨_, rfl, by omega, rfl⟩
  case rest =>
    obtain ⟨s, rfl, hs, rfl⟩ := hcut
    go_wp2_with fail
    refine (ideal_any w).mono ?_
    rintro e w1 ⟨rfl, hI, hb1⟩
    obtain ⟨mm, hmm⟩ : ∃ mm, mm = w.heap.size := ⟨_, rfl⟩
    have hwm : w.heap.size ≤ mm := by omega
    rw [← hmm] at hI
    have HI := Lib.hid hI
    have HB1 := Lib.hid hb1
    rw [← hmm]
    clear hI hb1 hmm
    go_wp2_with fail
    refine (mark_as HI.out (s := s) (by unfold maxLen; omega) (by simp) 1 [s.data.toList] (by simp) (by unfold addS; simp)).mono ?_
    rintro e w2 ⟨rfl, hI2, hg2⟩
    have HI2 := Lib.hid hI2
    have HB2 := Lib.hid (HB1.out.grown hg2 HB1.out.size (by intro k hk; cases hk; exact hwm))
    clear hI2 hg2 HB1
    obtain ⟨K, hK⟩ : ∃ K, K = numS 1 := ⟨_, rfl⟩
    have hK32 : K.size = 32 := by rw [hK]; exact numS_size _
    rw [← hK]
    have HK := Lib.hid hK
    have hsum : s.size + K.size ≤ 9223372036854775807 := by omega
    clear hK
    obtain ⟨S, hS⟩ : ∃ S, S = s ++ K := ⟨_, rfl⟩
    have HS := Lib.hid hS
    clear hS
    go_wp2_with fail
    refine (of_own w2 (mm + 1) mm [s.data.toList] s K _ HI2.out (by simp) (by omega) (by simp) (by rw [HK.out]; simp) (Lib.hid rfl)).mono ?_
    rintro e w3 ⟨m, k, ao, n, cap, rfl, hof, hrs, hn, hb3⟩
    have HOF := Lib.hid hof
    have HB3 := Lib.hid (below_then' HB2.out hb3)
    obtain ⟨V4, hV4⟩ : ∃ V, V = w3.alloc (.cells (mgC m (.slice ao n cap)).toArray 26) := ⟨_, rfl⟩
    obtain ⟨p1, hp1⟩ : ∃ p, p = w3.heap.size := ⟨_, rfl⟩
    have hb4 : Below w3.heap.size w3 V4 := by rw [hV4]; exact below_alloc' _ _
    have hG : Blk V4 p1 (mgC m (.slice ao n cap)) 26 := by rw [hV4, hp1]; exact Blk.new _ _ _
    have HB4 := Lib.hid (below_then' HB3.out hb4)
    have HRS := Lib.hid (hrs.below hb4 (Nat.le_refl _))
    have HG := Lib.hid hG
    have HV4 := Lib.hid hV4
    have HP1 := Lib.hid hp1
    unfold mgC at HV4 ⊢
    clear hof hb3 hb4 hG hrs hV4 hp1 HS HK HI HI2 HB2
    go_upto_region 5 with fail
    rw [← HP1.out, ← HV4.out]
    go_wp2_with fail
    refine (rmread_any V4 s (by omega)).mono ?_
    rintro e w5 ⟨m2, k2, bo, n2, cap2, rfl, hof2, hrs2, hn2, hb5⟩
    obtain ⟨rfl, rfl⟩ := OfB.one HOF.out hof2
    have HG5 := Lib.hid (HG.out.below hb5 HG.out.lt)
    have HRS5 := Lib.hid (HRS.out.below hb5 (Nat.le_refl _))
    have HB5 := Lib.hid (below_then' HB4.out hb5)
    obtain ⟨V6, hV6⟩ : ∃ V, V = w5.alloc (.cells (mgC m (.slice bo n2 cap2)).toArray 26) := ⟨_, rfl⟩
    obtain ⟨p2, hp2⟩ : ∃ p, p = w5.heap.size := ⟨_, rfl⟩
    have hb6 : Below w5.heap.size w5 V6 := by rw [hV6]; exact below_alloc' _ _
    have hG2 : Blk V6 p2 (mgC m (.slice bo n2 cap2)) 26 := by rw [hV6, hp2]; exact Blk.new _ _ _
    have HG6 := Lib.hid (HG5.out.below hb6 HG5.out.lt)
    have HG2 := Lib.hid hG2
    have HB6 := Lib.hid (below_then' HB5.out hb6)
    have HSM := Lib.hid (same_is V6 m m ao n cap bo n2 cap2 (HRS5.out.below hb6 (Nat.le_refl _)) (hrs2.below hb6 (Nat.le_refl _)) (by omega) true (Lib.hid ⟨fun _ => rfl, fun _ => rfl⟩))
    have HV6 := Lib.hid hV6
    have HP2 := Lib.hid hp2
    have hkk : ((k : Int) == (k : Int)) = true := by simp
    unfold mgC at HV6 ⊢
    clear hof2 hb5 hb6 hG2 hrs2 hV6 hp2 HV4 HP1 HOF
    go_upto_region 6 with fail
    rw [← HP2.out, ← HV6.out]
    go_wp2_with (first | (refine ld_mg HG6.out rfl rfl rfl ?_) | (refine ld_mg HG2.out rfl rfl rfl ?_))
    refine HSM.out.mono ?_
    rintro e w7 ⟨rfl, hb7⟩
    have HB7 := Lib.hid (below_then' HB6.out hb7)
    clear hb7 HSM
    go_wp2_with fail
    refine (awake_any w7).mono ?_
    rintro e w8 ⟨rfl, hb8⟩
    have HB8 := Lib.hid (below_then' HB7.out hb8)
    clear hb8
    go_wp2
    go_ret
    exact ⟨rfl, HB8.out⟩
end Go.Proofs.Ytlcpnpoleaanmaa
