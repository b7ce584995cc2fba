/- SignBack: the walk. No conditions. -/
import Derived.Test.YtfcfgkhdlpgbdaaSignBytesWalk
import Derived.Test.YtfcfgkhdlpgbdaaSignBackMath
import Derived.Test.YtfcfgkhdlpgbdaaSignOfA
import Derived.Test.YtfcfgkhdlpgbdaaSignSame
namespace Go.Proofs.Ytfcfgkhdlpgbdaa
open Go.RowKit
set_option linter.unusedVariables false

theorem sgOfP_bad (l : List UInt8) : (sgOfP l).2.2.2.2 ≠ 0 → sgOfP l = sgBad (sgOfP l).2.2.2.2 := by
  unfold sgOfP
  split
  · split
    · unfold sgOfW
      split
      · unfold sgOfT
        split
        · split
          · intro h; exact absurd rfl h
          · intro _; rfl
        · intro _; rfl
      · intro _; rfl
    · intro _; rfl
  · intro _; rfl
set_option maxRecDepth 100000 in
set_option maxHeartbeats 2000000 in
theorem signBack_walk (w : World) (c : Array Value) (o : Kd.ok w (.agg [.int .i64, .int .i64, .sl (.int .i64), .sl .str]) c.toList) (s0 : ByteArray) (hs0 : s0.size ≤ 140737488351232) :
    Calls Try.prog 9 #[.agg c, .string s0] w fun e w' => e = .returned (.bool true) ∧ Below w.heap.size w w' := by
  obtain ⟨b, z, ao, n0, cap, bo, m0, cap2, W0, T0, rfl, wb, wz, hW0, hT0, hw0, ht0⟩ := sig_of o
  clear o
  have hcs := cutS_size s0 12000
  have hsz := sigZ_run
  have hn3 := (cut300_le n0).2
  have hm3 := (cut300_le m0).2
  have hW := hW0.few
  have hT := hT0.few
  have hw : ∀ x ∈ W0.take (cut300 n0), (Lit.int .i64 x).wf = true := fun x hx => hw0 x (List.mem_of_mem_take hx)
  have ht : ∀ x ∈ T0.take (cut300 m0), x.size ≤ maxLen := fun x hx => ht0 x (List.mem_of_mem_take hx)
  obtain ⟨V1, hV1⟩ : ∃ V, V = w.alloc (Obj.cells #[.int .i64 b, .int .i64 z, .slice ao n0 cap, .slice bo m0 cap2] 31) := ⟨_, rfl⟩
  obtain ⟨p1, hp1⟩ : ∃ p, p = w.heap.size := ⟨_, rfl⟩
  have hG1 : Blk V1 p1 [.int .i64 b, .int .i64 z, .slice ao n0 cap, .slice bo m0 cap2] 31 := by rw [hV1, hp1]; exact Blk.new _ _ _
  have hB1 : Below w.heap.size w V1 := by rw [hV1]; exact bel_alloc _ _
  have HF := Lib.hid (few_any V1 b z ao n0 cap bo m0 cap2 W0 T0 (hW0.next hB1) (hT0.next hB1))
  obtain ⟨n, hn⟩ : ∃ n, n = cut300 n0 := ⟨_, rfl⟩
  obtain ⟨m, hm⟩ : ∃ m, m = cut300 m0 := ⟨_, rfl⟩
  obtain ⟨W, hWe⟩ : ∃ W, W = W0.take n := ⟨_, rfl⟩
  obtain ⟨T, hTe⟩ : ∃ T, T = T0.take m := ⟨_, rfl⟩
  rw [← hn] at hW hw hn3 HF
  rw [← hm] at hT ht hm3 HF
  rw [← hWe] at hW hw
  rw [← hTe] at hT ht
  have HV1 := Lib.hid hV1
  have HP1 := Lib.hid hp1
  have HGB := Lib.hid (And.intro hG1 hB1)
  have HW := Lib.hid hW
  have HT := Lib.hid hT
  have Hw := Lib.hid hw
  have Ht := Lib.hid ht
  have c0 := hG1.cell (i := 0) rfl
  have c1 := hG1.cell (i := 1) rfl
  have c2 := hG1.cell (i := 2) rfl
  have c3 := hG1.cell (i := 3) rfl
  clear hV1 hp1 hG1 hB1 hW0 hT0 hw0 ht0 hn hm hWe hTe hW hT hw ht
  go_enter Try.func9, Try.ntmps9
  go_upto_region 1 with fail
  rw [← HP1.out, ← HV1.out]
  go_wp2_with fail
  refine HF.out.mono ?_
  rintro e w2 ⟨rfl, hb2⟩
  have hG2 := HGB.out.1.belowB hb2
  have HG2 := Lib.hid (And.intro hG2 (bl_nx HGB.out.2 hb2))
  have f0 := hG2.frozen 0
  have f1 := hG2.frozen 1
  have f2 := hG2.frozen 2
  have f3 := hG2.frozen 3
  have d0 := hG2.cell (i := 0) rfl
  have d1 := hG2.cell (i := 1) rfl
  have d2 := hG2.cell (i := 2) rfl
  have d3 := hG2.cell (i := 3) rfl
  clear c0 c1 c2 c3 hb2 hG2
  go_upto_region 2 with fail
  obtain ⟨V3, hV3⟩ : ∃ V, V = (((w2.setCell ⟨p1, 0, none⟩ (.int .i64 b)).setCell ⟨p1, 1, none⟩ (.int .i64 z)).setCell ⟨p1, 2, none⟩ (.slice ao n cap)).setCell ⟨p1, 3, none⟩ (.slice bo m cap2) := ⟨_, rfl⟩
  have hG3 : Blk V3 p1 [.int .i64 b, .int .i64 z, .slice ao n cap, .slice bo m cap2] 31 := by rw [hV3]; exact (((HG2.out.1.set 0 _).set 1 _).set 2 _).set 3 _
  have hB3 : Below w.heap.size w V3 := by
    have hp : w.heap.size ≤ p1 := by rw [HP1.out]; exact Nat.le_refl _
    rw [hV3]; exact (((HG2.out.2.setCell hp _).setCell hp _).setCell hp _).setCell hp _
  have HB3 := Lib.hid (And.intro hG3 hB3)
  rw [← hV3]
  have HV3 := Lib.hid hV3
  clear hV3 hG3 hB3 d0 d1 d2 d3 f0 f1 f2 f3 HF
  have c0 := HB3.out.1.cell (i := 0) rfl
  have c1 := HB3.out.1.cell (i := 1) rfl
  have c2 := HB3.out.1.cell (i := 2) rfl
  have c3 := HB3.out.1.cell (i := 3) rfl
  go_wp2_with fail
  refine (cut_any s0 12000 _ (by unfold maxLen; omega) (by decide)).mono ?_
  rintro e w' ⟨rfl, rfl⟩
  obtain ⟨s, hs⟩ : ∃ s, s = cutS s0 12000 := ⟨_, rfl⟩
  rw [← hs] at hcs
  rw [← hs]
  clear hs hs0
  obtain ⟨P2, hP2⟩ : ∃ P, P = sgOfP s.data.toList := ⟨_, rfl⟩
  have HA2 := Lib.hid (fun wx => sgOf_any wx s (by omega))
  have hP2l := sgOfP_len s.data.toList
  have hP2b := sgOfP_bad s.data.toList
  rw [← hP2] at HA2 hP2l hP2b
  obtain ⟨b2, z2, W2, T2, e2⟩ := P2
  simp only at hP2l hP2b
  have HP2 := Lib.hid hP2
  have HP2B := Lib.hid hP2b
  clear hP2 hP2b
  by_cases he2 : e2 = 0
  · subst he2
    by_cases hok : sigOk b z W T
    · obtain ⟨B, rfl⟩ : ∃ B : Nat, b = B := ⟨b.toNat, by have := hok.1; omega⟩
      obtain ⟨Z, rfl⟩ : ∃ Z : Nat, z = Z := ⟨z.toNat, by have := hok.2.2.1; omega⟩
      have HC1 := Lib.hid (sgBytes_ok V3 B Z ao n cap bo m cap2 W T (HW.out.next HB3.out.2) (HT.out.next HB3.out.2) hok)
      obtain ⟨S1, hS1⟩ : ∃ S : ByteArray, S = mkB (sigL B Z W T) := ⟨_, rfl⟩
      have hS1s : S1.size ≤ 1000000 := by
        have h1 := numsL_len (sigNums B Z W) (fun x hx => (sigNums_bd hok x hx).2)
        have h2 := textsL_len T 32 (fun x hx => Nat.le_of_eq (sigOk_32 hok x hx))
        have h3 : W.length = n := HW.out.2.2.1
        have h4 : T.length = m := HT.out.2.2.1
        have h5 : S1.size = (sigL B Z W T).length := by rw [hS1, ← bsz]; rfl
        rw [h5]
        unfold sigL
        rw [List.length_append]
        have h6 : (sigNums B Z W).length = W.length + 2 := by simp [sigNums]
        rw [h6] at h1
        omega
      have HA1 := Lib.hid (fun wx => sgOf_any wx S1 hS1s)
      have hP1e : sgOfP S1.data.toList = (B, Z, W, T, 0) := by rw [hS1]; exact sgOf_back hok
      rw [hP1e] at HA1
      change Hid (Calls _ _ _ _ (fun e w' => e = .returned (.tuple #[.string (mkB (sigL B Z W T)), .int .i64 0]) ∧ _)) at HC1
      rw [← hS1] at HC1
      clear hok hS1 hP1e hS1s
      go_wp2_with fail
      refine HC1.out.mono ?_
      rintro e w4 ⟨rfl, hb4⟩
      have HB4 := Lib.hid (And.intro (HB3.out.1.belowB hb4) (bl_nx HB3.out.2 hb4))
      clear hb4 c0 c1 c2 c3
      go_wp2_with fail
      refine (HA1.out w4).mono ?_
      rintro e w5 ⟨ao5, cap5, bo5, cap5', rfl, hW5, hT5, hb5⟩
      obtain ⟨p6, hp6⟩ : ∃ p, p = w5.heap.size := ⟨_, rfl⟩
      obtain ⟨V6, hV6⟩ : ∃ V, V = w5.alloc (Obj.cells #[.int .i64 (B : Nat), .int .i64 (Z : Nat), .slice ao5 W.length cap5, .slice bo5 T.length cap5'] 31) := ⟨_, rfl⟩
      have hb6 : Below w4.heap.size w4 V6 := by rw [hV6]; exact bl_alloc hb5 _
      have H6 : Hid (Blk V6 p6 [.int .i64 (B : Nat), .int .i64 (Z : Nat), .slice ao5 W.length cap5, .slice bo5 T.length cap5'] 31 ∧ Rs V6 ao5 W.length cap5 1 W (fun x => [.int .i64 x]) ∧ Rs V6 bo5 T.length cap5' 1 T (fun x => [.string x]) ∧ Blk V6 p1 [.int .i64 B, .int .i64 Z, .slice ao n cap, .slice bo m cap2] 31 ∧ Below w.heap.size w V6) := by
        rw [hV6, hp6] at *
        exact Lib.hid ⟨Blk.new _ _ _, hW5.next (bel_alloc _ _), hT5.next (bel_alloc _ _), HB4.out.1.belowB hb6, bl_nx HB4.out.2 hb6⟩
      have HV6 := Lib.hid hV6
      have HP6 := Lib.hid hp6
      clear hV6 hp6 hW5 hT5 hb5 hb6
      go_upto_region 5 with fail
      rw [← HP6.out, ← HV6.out]
      go_wp2_with fail
      refine (HA2.out V6).mono ?_
      rintro e w7 ⟨ao7, cap7, bo7, cap7', rfl, hW7, hT7, hb7⟩
      obtain ⟨p8, hp8⟩ : ∃ p, p = w7.heap.size := ⟨_, rfl⟩
      obtain ⟨V8, hV8⟩ : ∃ V, V = w7.alloc (Obj.cells #[.int .i64 (b2 : Nat), .int .i64 (z2 : Nat), .slice ao7 W2.length cap7, .slice bo7 T2.length cap7'] 31) := ⟨_, rfl⟩
      have hb8 : Below V6.heap.size V6 V8 := by rw [hV8]; exact bl_alloc hb7 _
      have H8 : Hid (Blk V8 p8 [.int .i64 (b2 : Nat), .int .i64 (z2 : Nat), .slice ao7 W2.length cap7, .slice bo7 T2.length cap7'] 31 ∧ Rs V8 ao7 W2.length cap7 1 W2 (fun x => [.int .i64 x]) ∧ Rs V8 bo7 T2.length cap7' 1 T2 (fun x => [.string x])) := by
        rw [hV8, hp8]
        exact Lib.hid ⟨Blk.new _ _ _, hW7.next (bel_alloc _ _), hT7.next (bel_alloc _ _)⟩
      have H68 := Lib.hid (And.intro (H6.out.1.belowB hb8) (And.intro (H6.out.2.1.next hb8) (And.intro (H6.out.2.2.1.next hb8) (And.intro (H6.out.2.2.2.1.belowB hb8) (bl_nx H6.out.2.2.2.2 hb8)))))
      have HV8 := Lib.hid hV8
      have HP8 := Lib.hid hp8
      have k0 := H8.out.1.cell (i := 0) rfl
      have k1 := H8.out.1.cell (i := 1) rfl
      have k2 := H8.out.1.cell (i := 2) rfl
      have k3 := H8.out.1.cell (i := 3) rfl
      clear hV8 hp8 hW7 hT7 hb7 hb8
      go_upto_region 6 with fail
      rw [← HP8.out, ← HV8.out]
      go_wp2_with fail
      obtain ⟨hok2, hL2⟩ := sgOf_there HP2.out.symm
      have hS2 : (mkB (sigL b2 z2 W2 T2)) = s := by rw [hL2]; rfl
      have hC2 := sgBytes_ok V8 b2 z2 ao7 W2.length cap7 bo7 T2.length cap7' W2 T2 H8.out.2.1 H8.out.2.2 hok2
      change Calls _ _ _ _ (fun e w' => e = .returned (.tuple #[.string (mkB (sigL b2 z2 W2 T2)), .int .i64 0]) ∧ _) at hC2
      rw [hS2] at hC2
      have HC2 := Lib.hid hC2
      clear hok2 hL2 hS2 hC2
      refine HC2.out.mono ?_
      rintro e w9 ⟨rfl, hb9⟩
      have H9 := Lib.hid (And.intro (H68.out.1.belowB hb9) (And.intro (H68.out.2.1.next hb9) (And.intro (H68.out.2.2.1.next hb9) (And.intro (H68.out.2.2.2.1.belowB hb9) (bl_nx H68.out.2.2.2.2 hb9)))))
      clear hb9 k0 k1 k2 k3
      have c0 := H9.out.1.cell (i := 0) rfl
      have c1 := H9.out.1.cell (i := 1) rfl
      have c2 := H9.out.1.cell (i := 2) rfl
      have c3 := H9.out.1.cell (i := 3) rfl
      have d0 := H9.out.2.2.2.1.cell (i := 0) rfl
      have d1 := H9.out.2.2.2.1.cell (i := 1) rfl
      have d3 := H9.out.2.2.2.1.cell (i := 2) rfl
      have d4 := H9.out.2.2.2.1.cell (i := 3) rfl
      have lW : W.length = n := HW.out.2.2.1
      have lT : T.length = m := HT.out.2.2.1
      have hbx := H9.out.2.2.2.2
      have hSm := same_true w9 B Z ao5 W.length cap5 bo5 T.length cap5' ao cap bo cap2 W T (by omega) (by omega) H9.out.2.1 H9.out.2.2.1 (by rw [lW]; exact HW.out.next hbx) (by rw [lT]; exact HT.out.next hbx)
      rw [lW, lT] at hSm
      rw [lW] at c2
      rw [lT] at c3
      have HSm := Lib.hid hSm
      clear hSm hbx
      rw [lW, lT]
      have HLW := Lib.hid (And.intro lW lT)
      clear lW lT
      go_wp2_with fail
      refine HSm.out.mono ?_
      rintro e w10 ⟨rfl, hb10⟩
      have HB10 := Lib.hid (bl_nx H9.out.2.2.2.2 hb10)
      clear c0 c1 c2 c3 d0 d1 d3 d4 hb10
      go_wp2_with fail
      refine (awake_sign _).mono ?_
      rintro e w11 ⟨rfl, hb11⟩
      go_wp2
      go_ret
      exact ⟨rfl, bl_nx HB10.out hb11⟩
    · have HC1 := Lib.hid (sgBytes_bad V3 b z ao n cap bo m cap2 W T wb wz (HW.out.next HB3.out.2) (HT.out.next HB3.out.2) Hw.out Ht.out (by omega) (by omega) hok)
      have HA1 := Lib.hid (fun wx => sgOf_any wx ByteArray.empty (by decide))
      obtain ⟨P1, hP1⟩ : ∃ P, P = sgOfP ByteArray.empty.data.toList := ⟨_, rfl⟩
      rw [← hP1] at HA1
      obtain ⟨b1, z1, W1, T1, e1⟩ := P1
      clear hok hP1
      go_wp2_with fail
      refine HC1.out.mono ?_
      rintro e w4 ⟨rfl, hb4⟩
      have HB4 := Lib.hid (And.intro (HB3.out.1.belowB hb4) (bl_nx HB3.out.2 hb4))
      clear hb4 c0 c1 c2 c3
      go_wp2_with fail
      refine (HA1.out w4).mono ?_
      rintro e w5 ⟨ao5, cap5, bo5, cap5', rfl, hW5, hT5, hb5⟩
      obtain ⟨p6, hp6⟩ : ∃ p, p = w5.heap.size := ⟨_, rfl⟩
      obtain ⟨V6, hV6⟩ : ∃ V, V = w5.alloc (Obj.cells #[.int .i64 (b1 : Nat), .int .i64 (z1 : Nat), .slice ao5 W1.length cap5, .slice bo5 T1.length cap5'] 31) := ⟨_, rfl⟩
      have hb6 : Below w4.heap.size w4 V6 := by rw [hV6]; exact bl_alloc hb5 _
      have H6 : Hid (Blk V6 p6 [.int .i64 (b1 : Nat), .int .i64 (z1 : Nat), .slice ao5 W1.length cap5, .slice bo5 T1.length cap5'] 31 ∧ Rs V6 ao5 W1.length cap5 1 W1 (fun x => [.int .i64 x]) ∧ Rs V6 bo5 T1.length cap5' 1 T1 (fun x => [.string x]) ∧ Blk V6 p1 [.int .i64 b, .int .i64 z, .slice ao n cap, .slice bo m cap2] 31 ∧ Below w.heap.size w V6) := by
        rw [hV6, hp6] at *
        exact Lib.hid ⟨Blk.new _ _ _, hW5.next (bel_alloc _ _), hT5.next (bel_alloc _ _), HB4.out.1.belowB hb6, bl_nx HB4.out.2 hb6⟩
      have HV6 := Lib.hid hV6
      have HP6 := Lib.hid hp6
      clear hV6 hp6 hW5 hT5 hb5 hb6
      go_upto_region 5 with fail
      rw [← HP6.out, ← HV6.out]
      go_wp2_with fail
      refine (HA2.out V6).mono ?_
      rintro e w7 ⟨ao7, cap7, bo7, cap7', rfl, hW7, hT7, hb7⟩
      obtain ⟨p8, hp8⟩ : ∃ p, p = w7.heap.size := ⟨_, rfl⟩
      obtain ⟨V8, hV8⟩ : ∃ V, V = w7.alloc (Obj.cells #[.int .i64 (b2 : Nat), .int .i64 (z2 : Nat), .slice ao7 W2.length cap7, .slice bo7 T2.length cap7'] 31) := ⟨_, rfl⟩
      have hb8 : Below V6.heap.size V6 V8 := by rw [hV8]; exact bl_alloc hb7 _
      have H8 : Hid (Blk V8 p8 [.int .i64 (b2 : Nat), .int .i64 (z2 : Nat), .slice ao7 W2.length cap7, .slice bo7 T2.length cap7'] 31 ∧ Rs V8 ao7 W2.length cap7 1 W2 (fun x => [.int .i64 x]) ∧ Rs V8 bo7 T2.length cap7' 1 T2 (fun x => [.string x])) := by
        rw [hV8, hp8]
        exact Lib.hid ⟨Blk.new _ _ _, hW7.next (bel_alloc _ _), hT7.next (bel_alloc _ _)⟩
      have H68 := Lib.hid (And.intro (H6.out.1.belowB hb8) (And.intro (H6.out.2.1.next hb8) (And.intro (H6.out.2.2.1.next hb8) (And.intro (H6.out.2.2.2.1.belowB hb8) (bl_nx H6.out.2.2.2.2 hb8)))))
      have HV8 := Lib.hid hV8
      have HP8 := Lib.hid hp8
      have k0 := H8.out.1.cell (i := 0) rfl
      have k1 := H8.out.1.cell (i := 1) rfl
      have k2 := H8.out.1.cell (i := 2) rfl
      have k3 := H8.out.1.cell (i := 3) rfl
      clear hV8 hp8 hW7 hT7 hb7 hb8
      go_upto_region 6 with fail
      rw [← HP8.out, ← HV8.out]
      go_wp2_with fail
      obtain ⟨hok2, hL2⟩ := sgOf_there HP2.out.symm
      have hS2 : (mkB (sigL b2 z2 W2 T2)) = s := by rw [hL2]; rfl
      have hC2 := sgBytes_ok V8 b2 z2 ao7 W2.length cap7 bo7 T2.length cap7' W2 T2 H8.out.2.1 H8.out.2.2 hok2
      change Calls _ _ _ _ (fun e w' => e = .returned (.tuple #[.string (mkB (sigL b2 z2 W2 T2)), .int .i64 0]) ∧ _) at hC2
      rw [hS2] at hC2
      have HC2 := Lib.hid hC2
      clear hok2 hL2 hS2 hC2
      refine HC2.out.mono ?_
      rintro e w9 ⟨rfl, hb9⟩
      have H9 := Lib.hid (And.intro (H68.out.1.belowB hb9) (And.intro (H68.out.2.1.next hb9) (And.intro (H68.out.2.2.1.next hb9) (And.intro (H68.out.2.2.2.1.belowB hb9) (bl_nx H68.out.2.2.2.2 hb9)))))
      clear hb9 k0 k1 k2 k3
      go_wp2_with fail
      refine (awake_sign _).mono ?_
      rintro e w11 ⟨rfl, hb11⟩
      go_wp2
      go_ret
      exact ⟨rfl, bl_nx H9.out.2.2.2.2 hb11⟩
  · by_cases hok : sigOk b z W T
    · obtain ⟨B, rfl⟩ : ∃ B : Nat, b = B := ⟨b.toNat, by have := hok.1; omega⟩
      obtain ⟨Z, rfl⟩ : ∃ Z : Nat, z = Z := ⟨z.toNat, by have := hok.2.2.1; omega⟩
      have HC1 := Lib.hid (sgBytes_ok V3 B Z ao n cap bo m cap2 W T (HW.out.next HB3.out.2) (HT.out.next HB3.out.2) hok)
      obtain ⟨S1, hS1⟩ : ∃ S : ByteArray, S = mkB (sigL B Z W T) := ⟨_, rfl⟩
      have hS1s : S1.size ≤ 1000000 := by
        have h1 := numsL_len (sigNums B Z W) (fun x hx => (sigNums_bd hok x hx).2)
        have h2 := textsL_len T 32 (fun x hx => Nat.le_of_eq (sigOk_32 hok x hx))
        have h3 : W.length = n := HW.out.2.2.1
        have h4 : T.length = m := HT.out.2.2.1
        have h5 : S1.size = (sigL B Z W T).length := by rw [hS1, ← bsz]; rfl
        rw [h5]
        unfold sigL
        rw [List.length_append]
        have h6 : (sigNums B Z W).length = W.length + 2 := by simp [sigNums]
        rw [h6] at h1
        omega
      have HA1 := Lib.hid (fun wx => sgOf_any wx S1 hS1s)
      have hP1e : sgOfP S1.data.toList = (B, Z, W, T, 0) := by rw [hS1]; exact sgOf_back hok
      rw [hP1e] at HA1
      change Hid (Calls _ _ _ _ (fun e w' => e = .returned (.tuple #[.string (mkB (sigL B Z W T)), .int .i64 0]) ∧ _)) at HC1
      rw [← hS1] at HC1
      clear hok hS1 hP1e hS1s
      go_wp2_with fail
      refine HC1.out.mono ?_
      rintro e w4 ⟨rfl, hb4⟩
      have HB4 := Lib.hid (And.intro (HB3.out.1.belowB hb4) (bl_nx HB3.out.2 hb4))
      clear hb4 c0 c1 c2 c3
      go_wp2_with fail
      refine (HA1.out w4).mono ?_
      rintro e w5 ⟨ao5, cap5, bo5, cap5', rfl, hW5, hT5, hb5⟩
      obtain ⟨p6, hp6⟩ : ∃ p, p = w5.heap.size := ⟨_, rfl⟩
      obtain ⟨V6, hV6⟩ : ∃ V, V = w5.alloc (Obj.cells #[.int .i64 (B : Nat), .int .i64 (Z : Nat), .slice ao5 W.length cap5, .slice bo5 T.length cap5'] 31) := ⟨_, rfl⟩
      have hb6 : Below w4.heap.size w4 V6 := by rw [hV6]; exact bl_alloc hb5 _
      have H6 : Hid (Blk V6 p6 [.int .i64 (B : Nat), .int .i64 (Z : Nat), .slice ao5 W.length cap5, .slice bo5 T.length cap5'] 31 ∧ Rs V6 ao5 W.length cap5 1 W (fun x => [.int .i64 x]) ∧ Rs V6 bo5 T.length cap5' 1 T (fun x => [.string x]) ∧ Blk V6 p1 [.int .i64 B, .int .i64 Z, .slice ao n cap, .slice bo m cap2] 31 ∧ Below w.heap.size w V6) := by
        rw [hV6, hp6] at *
        exact Lib.hid ⟨Blk.new _ _ _, hW5.next (bel_alloc _ _), hT5.next (bel_alloc _ _), HB4.out.1.belowB hb6, bl_nx HB4.out.2 hb6⟩
      have HV6 := Lib.hid hV6
      have HP6 := Lib.hid hp6
      clear hV6 hp6 hW5 hT5 hb5 hb6
      go_upto_region 5 with fail
      rw [← HP6.out, ← HV6.out]
      go_wp2_with fail
      refine (HA2.out V6).mono ?_
      rintro e w7 ⟨ao7, cap7, bo7, cap7', rfl, hW7, hT7, hb7⟩
      obtain ⟨p8, hp8⟩ : ∃ p, p = w7.heap.size := ⟨_, rfl⟩
      obtain ⟨V8, hV8⟩ : ∃ V, V = w7.alloc (Obj.cells #[.int .i64 (b2 : Nat), .int .i64 (z2 : Nat), .slice ao7 W2.length cap7, .slice bo7 T2.length cap7'] 31) := ⟨_, rfl⟩
      have hb8 : Below V6.heap.size V6 V8 := by rw [hV8]; exact bl_alloc hb7 _
      have H8 : Hid (Blk V8 p8 [.int .i64 (b2 : Nat), .int .i64 (z2 : Nat), .slice ao7 W2.length cap7, .slice bo7 T2.length cap7'] 31 ∧ Rs V8 ao7 W2.length cap7 1 W2 (fun x => [.int .i64 x]) ∧ Rs V8 bo7 T2.length cap7' 1 T2 (fun x => [.string x])) := by
        rw [hV8, hp8]
        exact Lib.hid ⟨Blk.new _ _ _, hW7.next (bel_alloc _ _), hT7.next (bel_alloc _ _)⟩
      have H68 := Lib.hid (And.intro (H6.out.1.belowB hb8) (And.intro (H6.out.2.1.next hb8) (And.intro (H6.out.2.2.1.next hb8) (And.intro (H6.out.2.2.2.1.belowB hb8) (bl_nx H6.out.2.2.2.2 hb8)))))
      have HV8 := Lib.hid hV8
      have HP8 := Lib.hid hp8
      have k0 := H8.out.1.cell (i := 0) rfl
      have k1 := H8.out.1.cell (i := 1) rfl
      have k2 := H8.out.1.cell (i := 2) rfl
      have k3 := H8.out.1.cell (i := 3) rfl
      clear hV8 hp8 hW7 hT7 hb7 hb8
      go_upto_region 6 with fail
      rw [← HP8.out, ← HV8.out]
      go_wp2_with fail
      have hz := HP2B.out he2
      have hb0 : b2 = 0 := by simp [sgBad] at hz; exact hz.1
      refine (sgBytes_bad V8 b2 z2 ao7 W2.length cap7 bo7 T2.length cap7' W2 T2 (wfI _ (by omega) (by omega)) (wfI _ (by omega) (by simp [sgBad] at hz; omega)) H8.out.2.1 H8.out.2.2 (by simp [sgBad] at hz; rw [hz.2.2.1]; simp) (by simp [sgBad] at hz; rw [hz.2.2.2]; simp) hP2l.1 hP2l.2 (by intro h; have := h.1; omega)).mono ?_
      have d2 : (((e2 : Nat) : Int) != 0) = true := by simp [he2]
      clear hz hb0
      rintro e w9 ⟨rfl, hb9⟩
      have H9 := Lib.hid (And.intro (H68.out.1.belowB hb9) (And.intro (H68.out.2.1.next hb9) (And.intro (H68.out.2.2.1.next hb9) (And.intro (H68.out.2.2.2.1.belowB hb9) (bl_nx H68.out.2.2.2.2 hb9)))))
      clear hb9 k0 k1 k2 k3
      have c0 := H9.out.1.cell (i := 0) rfl
      have c1 := H9.out.1.cell (i := 1) rfl
      have c2 := H9.out.1.cell (i := 2) rfl
      have c3 := H9.out.1.cell (i := 3) rfl
      have d0 := H9.out.2.2.2.1.cell (i := 0) rfl
      have d1 := H9.out.2.2.2.1.cell (i := 1) rfl
      have d3 := H9.out.2.2.2.1.cell (i := 2) rfl
      have d4 := H9.out.2.2.2.1.cell (i := 3) rfl
      have lW : W.length = n := HW.out.2.2.1
      have lT : T.length = m := HT.out.2.2.1
      have hbx := H9.out.2.2.2.2
      have hSm := same_true w9 B Z ao5 W.length cap5 bo5 T.length cap5' ao cap bo cap2 W T (by omega) (by omega) H9.out.2.1 H9.out.2.2.1 (by rw [lW]; exact HW.out.next hbx) (by rw [lT]; exact HT.out.next hbx)
      rw [lW, lT] at hSm
      rw [lW] at c2
      rw [lT] at c3
      have HSm := Lib.hid hSm
      clear hSm hbx
      rw [lW, lT]
      have HLW := Lib.hid (And.intro lW lT)
      clear lW lT
      go_wp2_with fail
      refine HSm.out.mono ?_
      rintro e w10 ⟨rfl, hb10⟩
      have HB10 := Lib.hid (bl_nx H9.out.2.2.2.2 hb10)
      clear c0 c1 c2 c3 d0 d1 d3 d4 hb10
      go_wp2_with fail
      refine (awake_sign _).mono ?_
      rintro e w11 ⟨rfl, hb11⟩
      go_wp2
      go_ret
      exact ⟨rfl, bl_nx HB10.out hb11⟩
    · have HC1 := Lib.hid (sgBytes_bad V3 b z ao n cap bo m cap2 W T wb wz (HW.out.next HB3.out.2) (HT.out.next HB3.out.2) Hw.out Ht.out (by omega) (by omega) hok)
      have HA1 := Lib.hid (fun wx => sgOf_any wx ByteArray.empty (by decide))
      obtain ⟨P1, hP1⟩ : ∃ P, P = sgOfP ByteArray.empty.data.toList := ⟨_, rfl⟩
      rw [← hP1] at HA1
      obtain ⟨b1, z1, W1, T1, e1⟩ := P1
      clear hok hP1
      go_wp2_with fail
      refine HC1.out.mono ?_
      rintro e w4 ⟨rfl, hb4⟩
      have HB4 := Lib.hid (And.intro (HB3.out.1.belowB hb4) (bl_nx HB3.out.2 hb4))
      clear hb4 c0 c1 c2 c3
      go_wp2_with fail
      refine (HA1.out w4).mono ?_
      rintro e w5 ⟨ao5, cap5, bo5, cap5', rfl, hW5, hT5, hb5⟩
      obtain ⟨p6, hp6⟩ : ∃ p, p = w5.heap.size := ⟨_, rfl⟩
      obtain ⟨V6, hV6⟩ : ∃ V, V = w5.alloc (Obj.cells #[.int .i64 (b1 : Nat), .int .i64 (z1 : Nat), .slice ao5 W1.length cap5, .slice bo5 T1.length cap5'] 31) := ⟨_, rfl⟩
      have hb6 : Below w4.heap.size w4 V6 := by rw [hV6]; exact bl_alloc hb5 _
      have H6 : Hid (Blk V6 p6 [.int .i64 (b1 : Nat), .int .i64 (z1 : Nat), .slice ao5 W1.length cap5, .slice bo5 T1.length cap5'] 31 ∧ Rs V6 ao5 W1.length cap5 1 W1 (fun x => [.int .i64 x]) ∧ Rs V6 bo5 T1.length cap5' 1 T1 (fun x => [.string x]) ∧ Blk V6 p1 [.int .i64 b, .int .i64 z, .slice ao n cap, .slice bo m cap2] 31 ∧ Below w.heap.size w V6) := by
        rw [hV6, hp6] at *
        exact Lib.hid ⟨Blk.new _ _ _, hW5.next (bel_alloc _ _), hT5.next (bel_alloc _ _), HB4.out.1.belowB hb6, bl_nx HB4.out.2 hb6⟩
      have HV6 := Lib.hid hV6
      have HP6 := Lib.hid hp6
      clear hV6 hp6 hW5 hT5 hb5 hb6
      go_upto_region 5 with fail
      rw [← HP6.out, ← HV6.out]
      go_wp2_with fail
      refine (HA2.out V6).mono ?_
      rintro e w7 ⟨ao7, cap7, bo7, cap7', rfl, hW7, hT7, hb7⟩
      obtain ⟨p8, hp8⟩ : ∃ p, p = w7.heap.size := ⟨_, rfl⟩
      obtain ⟨V8, hV8⟩ : ∃ V, V = w7.alloc (Obj.cells #[.int .i64 (b2 : Nat), .int .i64 (z2 : Nat), .slice ao7 W2.length cap7, .slice bo7 T2.length cap7'] 31) := ⟨_, rfl⟩
      have hb8 : Below V6.heap.size V6 V8 := by rw [hV8]; exact bl_alloc hb7 _
      have H8 : Hid (Blk V8 p8 [.int .i64 (b2 : Nat), .int .i64 (z2 : Nat), .slice ao7 W2.length cap7, .slice bo7 T2.length cap7'] 31 ∧ Rs V8 ao7 W2.length cap7 1 W2 (fun x => [.int .i64 x]) ∧ Rs V8 bo7 T2.length cap7' 1 T2 (fun x => [.string x])) := by
        rw [hV8, hp8]
        exact Lib.hid ⟨Blk.new _ _ _, hW7.next (bel_alloc _ _), hT7.next (bel_alloc _ _)⟩
      have H68 := Lib.hid (And.intro (H6.out.1.belowB hb8) (And.intro (H6.out.2.1.next hb8) (And.intro (H6.out.2.2.1.next hb8) (And.intro (H6.out.2.2.2.1.belowB hb8) (bl_nx H6.out.2.2.2.2 hb8)))))
      have HV8 := Lib.hid hV8
      have HP8 := Lib.hid hp8
      have k0 := H8.out.1.cell (i := 0) rfl
      have k1 := H8.out.1.cell (i := 1) rfl
      have k2 := H8.out.1.cell (i := 2) rfl
      have k3 := H8.out.1.cell (i := 3) rfl
      clear hV8 hp8 hW7 hT7 hb7 hb8
      go_upto_region 6 with fail
      rw [← HP8.out, ← HV8.out]
      go_wp2_with fail
      have hz := HP2B.out he2
      have hb0 : b2 = 0 := by simp [sgBad] at hz; exact hz.1
      refine (sgBytes_bad V8 b2 z2 ao7 W2.length cap7 bo7 T2.length cap7' W2 T2 (wfI _ (by omega) (by omega)) (wfI _ (by omega) (by simp [sgBad] at hz; omega)) H8.out.2.1 H8.out.2.2 (by simp [sgBad] at hz; rw [hz.2.2.1]; simp) (by simp [sgBad] at hz; rw [hz.2.2.2]; simp) hP2l.1 hP2l.2 (by intro h; have := h.1; omega)).mono ?_
      have d2 : (((e2 : Nat) : Int) != 0) = true := by simp [he2]
      clear hz hb0
      rintro e w9 ⟨rfl, hb9⟩
      have H9 := Lib.hid (And.intro (H68.out.1.belowB hb9) (And.intro (H68.out.2.1.next hb9) (And.intro (H68.out.2.2.1.next hb9) (And.intro (H68.out.2.2.2.1.belowB hb9) (bl_nx H68.out.2.2.2.2 hb9)))))
      clear hb9 k0 k1 k2 k3
      go_wp2_with fail
      refine (awake_sign _).mono ?_
      rintro e w11 ⟨rfl, hb11⟩
      go_wp2
      go_ret
      exact ⟨rfl, bl_nx H9.out.2.2.2.2 hb11⟩
end Go.Proofs.Ytfcfgkhdlpgbdaa
