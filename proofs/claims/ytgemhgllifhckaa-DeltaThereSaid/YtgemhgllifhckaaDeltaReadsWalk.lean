/- DeltaReads: the walk. Conditions: as named in each theorem. -/
import Derived.Test.YtgemhgllifhckaaDlRefReads
namespace Go.Proofs.Ytgemhgllifhckaa
open Go.RowKit Sg
set_option linter.unusedVariables false
set_option linter.unusedSimpArgs false

theorem same_rs (w : World) (b m : ByteArray) (s : Int) (l : List St) (n : Nat) (ao bo : Option Addr) (ca cb : Nat) (hl : n ≤ 1000000000) (ha : Rs w ao n ca 3 l St.c) (hb : Rs w bo n cb 3 l St.c) :
    Calls Try.prog 35 #[.agg #[.string b, .string m, .int .i64 s, .slice ao n ca], .agg #[.string b, .string m, .int .i64 s, .slice bo n cb]] w fun e w' => e = .returned (.bool true) ∧ Below w.heap.size w w' := by
  obtain ⟨V, hV⟩ : ∃ V, V = w.alloc (Obj.cells #[.string b, .string m, .int .i64 s, .slice ao n ca] 25) := ⟨_, rfl⟩
  obtain ⟨W, hW⟩ : ∃ W, W = V.alloc (Obj.cells #[.string b, .string m, .int .i64 s, .slice bo n cb] 25) := ⟨_, rfl⟩
  have hA : Blk W w.heap.size [.string b, .string m, .int .i64 s, .slice ao n ca] 25 := by rw [hW, hV]; exact (Blk.new w _ _).alloc _
  have hC : Blk W (w.heap.size + 1) [.string b, .string m, .int .i64 s, .slice bo n cb] 25 := by
    have := Blk.new V [.string b, .string m, .int .i64 s, .slice bo n cb] 25
    rw [hV, World.size_alloc] at this
    rw [hW, hV]; exact this
  have hB : Below w.heap.size w W := by rw [hW, hV]; exact (below_alloc w _).alloc (by simp) _
  have hOa := ha.next hB
  have hOb := hb.next hB
  have q0 := hA.cell (i := 0) rfl
  have q1 := hA.cell (i := 1) rfl
  have q2 := hA.cell (i := 2) rfl
  have q3 := hA.cell (i := 3) rfl
  have y0 := hC.cell (i := 0) rfl
  have y1 := hC.cell (i := 1) rfl
  have y2 := hC.cell (i := 2) rfl
  have y3 := hC.cell (i := 3) rfl
  rw [hW, hV] at q0 q1 q2 q3 y0 y1 y2 y3
  have HW := Lib.hid hW
  have HV := Lib.hid hV
  have HS := Lib.hid (steps_eq W ao bo n ca cb l hl hOa hOb)
  clear hA hC hW hV ha hb hOa hOb
  go_enter Try.func35, Try.ntmps35
  go_wp2_with fail
  rw [← HV.out, ← HW.out]
  refine HS.out.mono ?_
  rintro e w3 ⟨rfl, hb3⟩
  have hB3 := below_then hB hb3
  clear q0 q1 q2 q3 y0 y1 y2 y3 hB hb3
  go_wp2
  go_ret
  exact ⟨rfl, hB3⟩
theorem rdTail_right (b m : ByteArray) (s : Int) (R : List St × RSt × Nat) : (rdTail b m s R).1 = dl0 ∨ (RightP (rdTail b m s R).1 ∧ (rdTail b m s R).2 = 0) := by
  by_cases h1 : R.2.2 ≠ 0
  · rw [rdTail_err h1]; exact .inl rfl
  · by_cases h2 : (stEnd R.2.1).2 ≠ 0
    · rw [rdTail_end h1 h2]; exact .inl rfl
    · by_cases h3 : RightP ⟨b, m, s, R.1⟩
      · rw [rdTail_yes h1 h2 h3]; exact .inr ⟨h3, rfl⟩
      · rw [rdTail_no h1 h2 h3]; exact .inl rfl
theorem readD_len (l : List UInt8) : (readD l).1.steps.length ≤ 524288 := by
  unfold readD
  rcases rdTail_right (mkB (stRaw 32 (l, 0)).1) (mkB (stRaw 32 (stRaw 32 (l, 0)).2).1) ((stNum (stRaw 32 (stRaw 32 (l, 0)).2).2).1 : Nat) (rdSteps (stNum (stNum (stRaw 32 (stRaw 32 (l, 0)).2).2).2).1 [] (stNum (stNum (stRaw 32 (stRaw 32 (l, 0)).2).2).2).2) with h | ⟨h, _⟩
  · rw [h]; simp [dl0]
  · have a := sum2_len h.2.2.2.2.1
    have b := h.2.2.2.2.2
    have c := h.2.2.2.1
    omega

set_option maxRecDepth 100000 in
set_option maxHeartbeats 2000000 in
theorem deltaReads_walk (w : World) (s0 : ByteArray) (hs0 : s0.size ≤ 140737488351232) :
    Calls Try.prog 10 #[.string s0] w fun e w' => e = .returned (.bool true) ∧ Below w.heap.size w w' := by
  have hcs := cutS_size s0 6000
  go_enter Try.func10, Try.ntmps10
  go_wp2_with fail
  refine (cut_any s0 6000 _ (by omega) (by decide)).mono ?_
  rintro e w' ⟨rfl, rfl⟩
  obtain ⟨s, hs⟩ : ∃ s, s = cutS s0 6000 := ⟨_, rfl⟩
  rw [← hs] at hcs
  rw [← hs]
  clear hs hs0
  have HR1 := Lib.hid (fun (W : World) => read_d W s (by omega))
  have HR2 := Lib.hid (fun (W : World) => refRead_d W s (by omega))
  have hlen := readD_len s.data.toList
  obtain ⟨D, hD⟩ : ∃ D, D = readD s.data.toList := ⟨_, rfl⟩
  rw [← hD] at HR1 HR2 hlen
  clear hD
  obtain ⟨⟨b, m, z, L⟩, er⟩ := D
  simp only at hlen
  go_wp2_with fail
  refine (HR1.out _).mono ?_
  rintro e w1 ⟨v1, rfl, hO1, hB1⟩
  simp only at hO1
  obtain ⟨a1, k1, rfl⟩ := owns_slice hO1
  obtain ⟨V2, hV2⟩ : ∃ V, V = w1.alloc (Obj.cells #[.string b, .string m, .int .i64 z, .slice a1 L.length k1] 25) := ⟨_, rfl⟩
  obtain ⟨p2, hp2⟩ : ∃ p, p = w1.heap.size := ⟨_, rfl⟩
  have hG2 : Blk V2 p2 [.string b, .string m, .int .i64 z, .slice a1 L.length k1] 25 := by rw [hV2, hp2]; exact Blk.new _ _ _
  have hb2 : Below w1.heap.size w1 V2 := by rw [hV2]; exact below_alloc _ _
  have H2 := Lib.hid (And.intro hG2 (And.intro (bl_nx hB1 hb2) (hO1.below hb2)))
  have HV2 := Lib.hid hV2
  have HP2 := Lib.hid hp2
  clear hV2 hp2 hG2 hb2 hO1 hB1
  go_upto_region 3 with fail
  rw [← HP2.out, ← HV2.out]
  go_wp2_with fail
  refine (HR2.out _).mono ?_
  rintro e w3 ⟨v3, rfl, hO3, hB3⟩
  simp only at hO3
  obtain ⟨a3, k3, rfl⟩ := owns_slice hO3
  obtain ⟨V4, hV4⟩ : ∃ V, V = w3.alloc (Obj.cells #[.string b, .string m, .int .i64 z, .slice a3 L.length k3] 25) := ⟨_, rfl⟩
  obtain ⟨p4, hp4⟩ : ∃ p, p = w3.heap.size := ⟨_, rfl⟩
  have hG4 : Blk V4 p4 [.string b, .string m, .int .i64 z, .slice a3 L.length k3] 25 := by rw [hV4, hp4]; exact Blk.new _ _ _
  have hb4 : Below w3.heap.size w3 V4 := by rw [hV4]; exact below_alloc _ _
  have hG2 := (H2.out.1.below hB3 H2.out.1.lt).below hb4 (Nat.lt_of_lt_of_le H2.out.1.lt hB3.size)
  have HB4 := Lib.hid (bl_nx (bl_nx H2.out.2.1 hB3) hb4)
  have HS := Lib.hid (same_rs V4 b m z L L.length a1 a3 k1 k3 (by omega) (((H2.out.2.2.below hB3).below hb4).rs rfl) ((hO3.below hb4).rs rfl))
  have q0 := hG2.cell (i := 0) rfl
  have q1 := hG2.cell (i := 1) rfl
  have q2 := hG2.cell (i := 2) rfl
  have q3 := hG2.cell (i := 3) rfl
  have y0 := hG4.cell (i := 0) rfl
  have y1 := hG4.cell (i := 1) rfl
  have y2 := hG4.cell (i := 2) rfl
  have y3 := hG4.cell (i := 3) rfl
  have HV4 := Lib.hid hV4
  have HP4 := Lib.hid hp4
  clear hV4 hp4 hG2 hG4 hb4 hO3 hB3 H2
  go_upto_region 4 with fail
  rw [← HP4.out, ← HV4.out]
  go_wp2_with fail
  refine HS.out.mono ?_
  rintro e w5 ⟨rfl, hb5⟩
  have HB5 := Lib.hid (bl_nx HB4.out hb5)
  clear hb5 q0 q1 q2 q3 y0 y1 y2 y3
  go_wp2_with fail
  refine (awake_any _).mono ?_
  rintro e w6 ⟨rfl, hb6⟩
  have HB6 := Lib.hid (bl_nx HB5.out hb6)
  clear hb6
  go_wp2
  go_ret
  exact ⟨rfl, HB6.out⟩
end Go.Proofs.Ytgemhgllifhckaa
