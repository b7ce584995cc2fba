/- SignReads: the walk. No conditions. -/
import Derived.Test.YtfcfgkhdlpgbdaaSignOfB
import Derived.Test.YtfcfgkhdlpgbdaaSignSame
namespace Go.Proofs.Ytfcfgkhdlpgbdaa
open Go.RowKit
set_option linter.unusedVariables false

set_option maxRecDepth 100000 in
set_option maxHeartbeats 1000000 in
theorem signReads_walk (w : World) (s0 : ByteArray) (hs0 : s0.size ≤ 140737488351232) :
    Calls Try.prog 8 #[.string s0] w fun e w' => e = .returned (.bool true) ∧ Below w.heap.size w w' := by
  have hsz := sigZ_run
  have hcs := cutS_size s0 12000
  go_enter Try.func8, Try.ntmps8
  go_wp2_with fail
  refine (cut_any s0 12000 _ (by unfold maxLen; omega) (by decide)).mono ?_
  rintro e w' ⟨rfl, rfl⟩
  obtain ⟨s, hs⟩ : ∃ s, s = cutS s0 12000 := ⟨_, rfl⟩
  rw [← hs] at hcs
  rw [← hs]
  clear hs hs0
  obtain ⟨P, hP⟩ : ∃ P, P = sgOfP s.data.toList := ⟨_, rfl⟩
  have HA1 := Lib.hid (sgOf_any w s (by omega))
  have HA2 := Lib.hid (fun wx => refSgOf_any wx s (by omega))
  have hWl : P.2.2.1.length ≤ 1000000 ∧ P.2.2.2.1.length ≤ 1000000 := by rw [hP]; exact sgOfP_len _
  rw [← hP] at HA1 HA2
  clear hP
  obtain ⟨b, z, W, T, er⟩ := P
  simp only at hWl
  go_wp2_with fail
  refine HA1.out.mono ?_
  rintro e w2 ⟨ao, cap, bo, cap2, rfl, hW2, hT2, hb2⟩
  obtain ⟨p3, hp3⟩ : ∃ p, p = w2.heap.size := ⟨_, rfl⟩
  obtain ⟨V3, hV3⟩ : ∃ V, V = w2.alloc (Obj.cells #[.int .i64 b, .int .i64 z, .slice ao W.length cap, .slice bo T.length cap2] 31) := ⟨_, rfl⟩
  have H3 : Hid (Blk V3 p3 [.int .i64 b, .int .i64 z, .slice ao W.length cap, .slice bo T.length cap2] 31 ∧ Rs V3 ao W.length cap 1 W (fun x => [.int .i64 x]) ∧ Rs V3 bo T.length cap2 1 T (fun x => [.string x]) ∧ Below w.heap.size w V3) := by
    rw [hV3, hp3]
    exact Lib.hid ⟨Blk.new _ _ _, hW2.next (bel_alloc _ _), hT2.next (bel_alloc _ _), bl_alloc hb2 _⟩
  have HV3 := Lib.hid hV3
  have HP3 := Lib.hid hp3
  clear hV3 hp3 hW2 hT2 hb2
  go_upto_region 3 with fail
  rw [← HP3.out, ← HV3.out]
  go_wp2_with fail
  refine (HA2.out V3).mono ?_
  rintro e w4 ⟨ao', cap', bo', cap2', rfl, hW4, hT4, hb4⟩
  obtain ⟨p5, hp5⟩ : ∃ p, p = w4.heap.size := ⟨_, rfl⟩
  obtain ⟨V5, hV5⟩ : ∃ V, V = w4.alloc (Obj.cells #[.int .i64 b, .int .i64 z, .slice ao' W.length cap', .slice bo' T.length cap2'] 31) := ⟨_, rfl⟩
  have hb5 : Below V3.heap.size V3 V5 := by rw [hV5]; exact bl_alloc hb4 _
  have H5 : Hid (Blk V5 p5 [.int .i64 b, .int .i64 z, .slice ao' W.length cap', .slice bo' T.length cap2'] 31 ∧ Rs V5 ao' W.length cap' 1 W (fun x => [.int .i64 x]) ∧ Rs V5 bo' T.length cap2' 1 T (fun x => [.string x])) := by
    rw [hV5, hp5]
    exact Lib.hid ⟨Blk.new _ _ _, hW4.next (bel_alloc _ _), hT4.next (bel_alloc _ _)⟩
  have H35 : Hid (Blk V5 p3 [.int .i64 b, .int .i64 z, .slice ao W.length cap, .slice bo T.length cap2] 31 ∧ Rs V5 ao W.length cap 1 W (fun x => [.int .i64 x]) ∧ Rs V5 bo T.length cap2 1 T (fun x => [.string x]) ∧ Below w.heap.size w V5) :=
    Lib.hid ⟨H3.out.1.belowW hb5, H3.out.2.1.next hb5, H3.out.2.2.1.next hb5, bl_next H3.out.2.2.2 hb5⟩
  have HV5 := Lib.hid hV5
  have HP5 := Lib.hid hp5
  have c0 := H35.out.1.cell (i := 0) rfl
  have c1 := H35.out.1.cell (i := 1) rfl
  have c2 := H35.out.1.cell (i := 2) rfl
  have c3 := H35.out.1.cell (i := 3) rfl
  have e0 := H5.out.1.cell (i := 0) rfl
  have e1 := H5.out.1.cell (i := 1) rfl
  have e2 := H5.out.1.cell (i := 2) rfl
  have e3 := H5.out.1.cell (i := 3) rfl
  clear hV5 hp5 hW4 hT4 hb4 hb5
  go_upto_region 4 with fail
  rw [← HP5.out, ← HV5.out]
  go_wp2_with fail
  refine (same_true V5 b z ao W.length cap bo T.length cap2 ao' cap' bo' cap2' W T (by omega) (by omega) H35.out.2.1 H35.out.2.2.1 H5.out.2.1 H5.out.2.2).mono ?_
  rintro e w6 ⟨rfl, hb6⟩
  go_wp2_with fail
  refine (awake_sign _).mono ?_
  rintro e w7 ⟨rfl, hb7⟩
  go_wp2
  go_ret
  exact ⟨rfl, bl_next (bl_next H35.out.2.2.2 hb6) hb7⟩
end Go.Proofs.Ytfcfgkhdlpgbdaa
