/- MarksTwo: the walk. No conditions. -/
import Derived.Test.YtjahdladcijhoaaMarksIdealsWalk
namespace Go.Proofs.Ytjahdladcijhoaa
open Go.RowKit
set_option linter.unusedVariables false

/-- what the first pair's turn leaves of the second pair -/
theorem Two.beside {w w' : World} {m q p2 m2 q2 : Nat} {v v2 : Value} {seen2 : List (List UInt8)} (h2 : Two w p2 m2 q2 v2 seen2) (hk : Kept (TwoT m q v) w w')
    (h1 : p2 ≠ m ∧ p2 ≠ q ∧ m2 ≠ m ∧ m2 ≠ q ∧ q2 ≠ m ∧ q2 ≠ q) (hv : v.ownBlock ≠ some p2 ∧ v.ownBlock ≠ some m2 ∧ v.ownBlock ≠ some q2) (hv2 : v2.ownBlock ≠ some m ∧ v2.ownBlock ≠ some q) (hvv : ∀ k, v.ownBlock = some k → v2.ownBlock ≠ some k) : Two w' p2 m2 q2 v2 seen2 := by
  obtain ⟨a1, a2, a3, a4, a5, a6⟩ := h1
  refine h2.kept hk ?_ ?_ ?_ ?_
  · rintro (e | e | e)
    · exact a1 e
    · exact a2 e
    · exact hv.1 e
  · rintro (e | e | e)
    · exact a3 e
    · exact a4 e
    · exact hv.2.1 e
  · rintro (e | e | e)
    · exact a5 e
    · exact a6 e
    · exact hv.2.2 e
  · rintro k hk (e | e | e)
    · exact hv2.1 (by rw [hk, e])
    · exact hv2.2 (by rw [hk, e])
    · exact hvv k e hk

/-- both pairs, and what lies apart -/
structure Four (w : World) (B p m q : Nat) (v : Value) (seen : List (List UInt8)) (p2 m2 q2 : Nat) (v2 : Value) (seen2 : List (List UInt8)) : Prop where
  one : Two w p m q v seen
  two : Two w p2 m2 q2 v2 seen2
  a1 : p2 ≠ m ∧ p2 ≠ q ∧ m2 ≠ m ∧ m2 ≠ q ∧ q2 ≠ m ∧ q2 ≠ q
  a2 : p ≠ m2 ∧ p ≠ q2 ∧ m ≠ m2 ∧ m ≠ q2 ∧ q ≠ m2 ∧ q ≠ q2
  lo : B ≤ m ∧ B ≤ q ∧ B ≤ m2 ∧ B ≤ q2
  l1 : p < w.heap.size ∧ m < w.heap.size ∧ q < w.heap.size
  l2 : p2 < w.heap.size ∧ m2 < w.heap.size ∧ q2 < w.heap.size
  b1 : v.ownBlock ≠ some p2 ∧ v.ownBlock ≠ some m2 ∧ v.ownBlock ≠ some q2
  b2 : v2.ownBlock ≠ some p ∧ v2.ownBlock ≠ some m ∧ v2.ownBlock ≠ some q
  c1 : ∀ k, v.ownBlock = some k → v2.ownBlock ≠ some k
  d1 : ∀ k, v.ownBlock = some k → B ≤ k ∧ k < w.heap.size
  d2 : ∀ k, v2.ownBlock = some k → B ≤ k ∧ k < w.heap.size

theorem Two.vlt {w : World} {p m q : Nat} {v : Value} {seen : List (List UInt8)} (h : Two w p m q v seen) : ∀ k, v.ownBlock = some k → k < w.heap.size := by
  obtain ⟨_, ⟨_, ss, _, hO⟩, _⟩ := h
  exact fun k hk => owns_lt hO hk
theorem Four.step1 {w w' : World} {B p m q : Nat} {v : Value} {seen : List (List UInt8)} {p2 m2 q2 : Nat} {v2 : Value} {seen2 : List (List UInt8)} (h : Four w B p m q v seen p2 m2 q2 v2 seen2) (hB : B ≤ w.heap.size)
    {v' : Value} {seen' : List (List UInt8)} (ht : Two w' p m q v' seen') (hk : Kept (TwoT m q v) w w') (hv : ∀ k, v'.ownBlock = some k → v.ownBlock = some k ∨ w.heap.size ≤ k) : Four w' B p m q v' seen' p2 m2 q2 v2 seen2 := by
  have hz := hk.size
  refine ⟨ht, h.two.beside hk h.a1 h.b1 ⟨h.b2.2.1, h.b2.2.2⟩ h.c1, h.a1, h.a2, h.lo, ⟨by have := h.l1; omega, by have := h.l1; omega, by have := h.l1; omega⟩, ⟨by have := h.l2; omega, by have := h.l2; omega, by have := h.l2; omega⟩, ⟨?_, ?_, ?_⟩, h.b2, ?_, ?_, ?_⟩
  · intro e; rcases hv _ e with e | e
    · exact h.b1.1 e
    · have := h.l2; omega
  · intro e; rcases hv _ e with e | e
    · exact h.b1.2.1 e
    · have := h.l2; omega
  · intro e; rcases hv _ e with e | e
    · exact h.b1.2.2 e
    · have := h.l2; omega
  · intro k e e2; rcases hv _ e with e | e
    · exact h.c1 k e e2
    · have := (h.d2 k e2).2; omega
  · intro k e; refine ⟨?_, ht.vlt k e⟩
    rcases hv _ e with e | e
    · exact (h.d1 k e).1
    · omega
  · intro k e; have := h.d2 k e; omega
theorem Four.swap {w : World} {B p m q : Nat} {v : Value} {seen : List (List UInt8)} {p2 m2 q2 : Nat} {v2 : Value} {seen2 : List (List UInt8)} (h : Four w B p m q v seen p2 m2 q2 v2 seen2) : Four w B p2 m2 q2 v2 seen2 p m q v seen := by
  obtain ⟨h1, h2, a1, a2, lo, l1, l2, b1, b2, c1, d1, d2⟩ := h
  exact ⟨h2, h1, a2, a1, ⟨lo.2.2.1, lo.2.2.2, lo.1, lo.2.1⟩, l2, l1, b2, b1, fun k e e2 => c1 k e2 e, d2, d1⟩
theorem Four.below {w w' : World} {B p m q : Nat} {v : Value} {seen : List (List UInt8)} {p2 m2 q2 : Nat} {v2 : Value} {seen2 : List (List UInt8)} (h : Four w B p m q v seen p2 m2 q2 v2 seen2) (hk : Kept (TwoT m q v) w w') {a : World} (hB : Below B a w) (hb : B ≤ w.heap.size) : Below B a w' :=
  hk.below hB hb (by
    rintro j hj (e | e | e)
    · have := h.lo; omega
    · have := h.lo; omega
    · have := (h.d1 _ e).1; omega)

set_option maxHeartbeats 4000000 in
set_option maxRecDepth 100000 in
theorem marksTwo_walk (w : World) (ao : Option Addr) (len cap : Nat) (ol : (Kd.sl opK).ok w [.slice ao len cap]) (ao2 : Option Addr) (len2 cap2 : Nat) (ol2 : (Kd.sl opK).ok w [.slice ao2 len2 cap2]) :
    Calls Try.prog 5 #[.slice ao len cap, .slice ao2 len2 cap2] w fun e w' => e = .returned (.bool true) ∧ Below w.heap.size w w' := by
  obtain ⟨os, hR, hos⟩ := ops_of ol
  obtain ⟨os2, hR2, hos2⟩ := ops_of ol2
  clear ol ol2
  have hlen := hR.2.2.1
  have HL := Lib.hid hlen
  have hlen2 := hR2.2.2.1
  have HL2 := Lib.hid hlen2
  clear hlen hlen2
  have hz := refZ_run
  go_enter Try.func5, Try.ntmps5
  go_wp2_with fail
  refine (ideal_any _).mono ?_
  rintro e w1 ⟨rfl, hI, hB⟩
  have hl1 := hI.2.2.2.2.1.1
  go_wp2_with fail
  refine (ideal_any _).mono ?_
  rintro e w2 ⟨rfl, hI2, hB2⟩
  have hl2 := hI2.2.2.2.2.1.1
  obtain ⟨Z, hZ⟩ : ∃ Z, Z = Obj.cells #[.bool false, .slice none 0 0] 33 := ⟨_, rfl⟩
  have hF : Four ((w2.alloc Z).alloc Z) w.heap.size (w.heap.size + 1) w.heap.size w2.heap.size (.slice none 0 0) [] (w1.heap.size + 1) w1.heap.size (w2.heap.size + 1) (.slice none 0 0) [] := by
    subst hZ
    have hr2 := refB_new (w2.alloc (Obj.cells #[.bool false, .slice none 0 0] 33))
    rw [World.size_alloc] at hr2
    refine ⟨⟨((hI.next hB2).next (below_alloc _ _)).next (below_alloc _ _), (refB_new w2).next (below_alloc _ _), by omega, by omega, by simp [Value.ownBlock], by simp [Value.ownBlock]⟩, ⟨(hI2.next (below_alloc _ _)).next (below_alloc _ _), hr2, by omega, by omega, by simp [Value.ownBlock], by simp [Value.ownBlock]⟩, ?_, ?_, ?_, ?_, ?_, by simp [Value.ownBlock], by simp [Value.ownBlock], by simp [Value.ownBlock], by simp [Value.ownBlock], by simp [Value.ownBlock]⟩
    all_goals simp; omega
  have hB3 : Below w.heap.size w ((w2.alloc Z).alloc Z) := ((hB.trans (hB2.mono hB.size)).alloc (by omega) _).alloc (by simp; omega) _
  have hs2 := w2.size_alloc Z
  rw [hZ] at hs2
  clear hI hB hI2 hB2
  go_wp2
  rw [← hZ]
  clear hZ hs2
  obtain ⟨W, hW⟩ : ∃ W, W = (w2.alloc Z).alloc Z := ⟨_, rfl⟩
  rw [← hW] at hF hB3
  rw [← hW]
  obtain ⟨q, hq⟩ : ∃ q, q = w2.heap.size := ⟨_, rfl⟩
  rw [← hq] at hF
  rw [← hq]
  obtain ⟨m2, hm2⟩ : ∃ m2, m2 = w1.heap.size := ⟨_, rfl⟩
  rw [← hm2] at hF
  rw [← hm2]
  clear hl1 hl2 hW hq hm2
  go_loopw [9] (fun i wr => ∃ (k : Nat) (v : Value) (seen : List (List UInt8)) (v2 : Value) (seen2 : List (List UInt8)), k ≤ 30 ∧ i = .int .i64 k ∧ Four wr w.heap.size (w.heap.size + 1) w.heap.size q v seen (m2 + 1) m2 (q + 1) v2 seen2 ∧ seen.length ≤ k ∧ seen2.length ≤ k ∧ Below w.heap.size w wr) (fun i _ => 30 - (intOf i).toNat)
  case atStart => exact ⟨0, _, _, _, _, by omega, rfl, hF, by simp, by simp, hB3⟩
  case round =>
    clear hF hB3
    obtain ⟨k, v, seen, v2, seen2, hk, rfl, hF, hsn, hsm, hB⟩ := hrel
    have HF := Lib.hid hF
    clear hF
    by_cases hlt : k < 30
    · by_cases h1 : k < len
      · by_cases h2 : k < len2
        · obtain ⟨b, off, rfl, hbw, hc⟩ := rs_cell4 hR (by omega)
          have hks : k < os.length := by rw [HL.out]; exact h1
          obtain ⟨c0, c1, c2, c3⟩ := hc k hks
          have hok := hos _ (List.getElem_mem hks)
          obtain ⟨o, ho⟩ : ∃ o, o = os[k] := ⟨_, rfl⟩
          rw [← ho] at c0 c1 c2 c3 hok
          obtain ⟨kd, n, t, mk⟩ := o
          have HO := Lib.hid hok
          clear ho hok hc hos hR hks
          have d0 := (hB.cell (p := ⟨b, off + k * 4, none⟩) hbw).trans c0
          have d1 := (hB.cell (p := ⟨b, off + k * 4 + 1, none⟩) hbw).trans c1
          have d2 := (hB.cell (p := ⟨b, off + k * 4 + 2, none⟩) hbw).trans c2
          have d3 := (hB.cell (p := ⟨b, off + k * 4 + 3, none⟩) hbw).trans c3
          dsimp only at d0 d1 d2 d3
          clear c0 c1 c2 c3
          go_wp2_with fail
          refine (step_any _ _ _ _ _ _ _ _ _ _ HF.out.one (by omega) HO.out.1 HO.out.2.1 HO.out.2.2.1 HO.out.2.2.2).mono ?_
          rintro e w4 ⟨seen', v', rfl, hT4, hsn4, hK4, hv4⟩
          have HF4 := Lib.hid (HF.out.step1 hB.size hT4 hK4 hv4)
          have hB4 := HF.out.below hK4 hB hB.size
          clear hK4 hv4 hT4 d0 d1 d2 d3 HF
          have hsn := hsn4
          obtain ⟨b2, off2, rfl, hbw2, hc2⟩ := rs_cell4 hR2 (by omega)
          have hks2 : k < os2.length := by rw [HL2.out]; exact h2
          obtain ⟨c0, c1, c2, c3⟩ := hc2 k hks2
          have hok := hos2 _ (List.getElem_mem hks2)
          obtain ⟨o, ho⟩ : ∃ o, o = os2[k] := ⟨_, rfl⟩
          rw [← ho] at c0 c1 c2 c3 hok
          obtain ⟨kd2, n2, t2, mk2⟩ := o
          have HO2 := Lib.hid hok
          clear ho hok hc2 hos2 hR2 hks2
          have e0 := (hB4.cell (p := ⟨b2, off2 + k * 4, none⟩) hbw2).trans c0
          have e1 := (hB4.cell (p := ⟨b2, off2 + k * 4 + 1, none⟩) hbw2).trans c1
          have e2 := (hB4.cell (p := ⟨b2, off2 + k * 4 + 2, none⟩) hbw2).trans c2
          have e3 := (hB4.cell (p := ⟨b2, off2 + k * 4 + 3, none⟩) hbw2).trans c3
          dsimp only at e0 e1 e2 e3
          clear c0 c1 c2 c3
          go_wp2_with fail
          refine (step_any _ _ _ _ _ _ _ _ _ _ HF4.out.two (by omega) HO2.out.1 HO2.out.2.1 HO2.out.2.2.1 HO2.out.2.2.2).mono ?_
          rintro e w5 ⟨seen2', v2', rfl, hT5, hsn5, hK5, hv5⟩
          have HF5 := Lib.hid (HF4.out.swap.step1 hB4.size hT5 hK5 hv5).swap
          have hB5 := HF4.out.swap.below hK5 hB4 hB4.size
          clear hK5 hv5 hT5 e0 e1 e2 e3 HF4
          go_wp2
          go_roundw
          case rel => exact ⟨k + 1, v', seen', v2', seen2', by omega, by go_num, HF5.out, by omega, by omega, hB5⟩
          case measure => simp [intOf]; omega
        · obtain ⟨b, off, rfl, hbw, hc⟩ := rs_cell4 hR (by omega)
          have hks : k < os.length := by rw [HL.out]; exact h1
          obtain ⟨c0, c1, c2, c3⟩ := hc k hks
          have hok := hos _ (List.getElem_mem hks)
          obtain ⟨o, ho⟩ : ∃ o, o = os[k] := ⟨_, rfl⟩
          rw [← ho] at c0 c1 c2 c3 hok
          obtain ⟨kd, n, t, mk⟩ := o
          have HO := Lib.hid hok
          clear ho hok hc hos hR hks
          have d0 := (hB.cell (p := ⟨b, off + k * 4, none⟩) hbw).trans c0
          have d1 := (hB.cell (p := ⟨b, off + k * 4 + 1, none⟩) hbw).trans c1
          have d2 := (hB.cell (p := ⟨b, off + k * 4 + 2, none⟩) hbw).trans c2
          have d3 := (hB.cell (p := ⟨b, off + k * 4 + 3, none⟩) hbw).trans c3
          dsimp only at d0 d1 d2 d3
          clear c0 c1 c2 c3
          go_wp2_with fail
          refine (step_any _ _ _ _ _ _ _ _ _ _ HF.out.one (by omega) HO.out.1 HO.out.2.1 HO.out.2.2.1 HO.out.2.2.2).mono ?_
          rintro e w4 ⟨seen', v', rfl, hT4, hsn4, hK4, hv4⟩
          have HF4 := Lib.hid (HF.out.step1 hB.size hT4 hK4 hv4)
          have hB4 := HF.out.below hK4 hB hB.size
          clear hK4 hv4 hT4 d0 d1 d2 d3 HF
          have hsn := hsn4
          go_wp2
          go_roundw
          case rel => exact ⟨k + 1, v', seen', v2, seen2, by omega, by go_num, HF4.out, by omega, by omega, hB4⟩
          case measure => simp [intOf]; omega
      · by_cases h2 : k < len2
        · obtain ⟨b2, off2, rfl, hbw2, hc2⟩ := rs_cell4 hR2 (by omega)
          have hks2 : k < os2.length := by rw [HL2.out]; exact h2
          obtain ⟨c0, c1, c2, c3⟩ := hc2 k hks2
          have hok := hos2 _ (List.getElem_mem hks2)
          obtain ⟨o, ho⟩ : ∃ o, o = os2[k] := ⟨_, rfl⟩
          rw [← ho] at c0 c1 c2 c3 hok
          obtain ⟨kd2, n2, t2, mk2⟩ := o
          have HO2 := Lib.hid hok
          clear ho hok hc2 hos2 hR2 hks2
          have e0 := (hB.cell (p := ⟨b2, off2 + k * 4, none⟩) hbw2).trans c0
          have e1 := (hB.cell (p := ⟨b2, off2 + k * 4 + 1, none⟩) hbw2).trans c1
          have e2 := (hB.cell (p := ⟨b2, off2 + k * 4 + 2, none⟩) hbw2).trans c2
          have e3 := (hB.cell (p := ⟨b2, off2 + k * 4 + 3, none⟩) hbw2).trans c3
          dsimp only at e0 e1 e2 e3
          clear c0 c1 c2 c3
          go_wp2_with fail
          refine (step_any _ _ _ _ _ _ _ _ _ _ HF.out.two (by omega) HO2.out.1 HO2.out.2.1 HO2.out.2.2.1 HO2.out.2.2.2).mono ?_
          rintro e w5 ⟨seen2', v2', rfl, hT5, hsn5, hK5, hv5⟩
          have HF5 := Lib.hid (HF.out.swap.step1 hB.size hT5 hK5 hv5).swap
          have hB5 := HF.out.swap.below hK5 hB hB.size
          clear hK5 hv5 hT5 e0 e1 e2 e3 HF
          go_wp2
          go_roundw
          case rel => exact ⟨k + 1, v, seen, v2', seen2', by omega, by go_num, HF5.out, by omega, by omega, hB5⟩
          case measure => simp [intOf]; omega
        · go_wp2
          go_roundw
          case rel => exact ⟨k + 1, v, seen, v2, seen2, by omega, by go_num, HF.out, by omega, by omega, hB⟩
          case measure => simp [intOf]; omega
    · go_wp2_with fail
      refine (awake_any _).mono ?_
      rintro e w3 ⟨rfl, hb3⟩
      have hB3 : Below w.heap.size w w3 := hB.trans (hb3.mono hB.size)
      go_wp2
      go_ret
      exact ⟨rfl, hB3⟩
end Go.Proofs.Ytjahdladcijhoaa
