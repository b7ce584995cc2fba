/- SignBytes: the walk. No conditions. -/
import Derived.Test.YtfcfgkhdlpgbdaaSignFew
namespace Go.Proofs.Ytfcfgkhdlpgbdaa
open Go.RowKit
set_option linter.unusedVariables false

/-- a signature that came in -/
theorem sig_of {w : World} {c : Array Value} (h : Kd.ok w (.agg [.int .i64, .int .i64, .sl (.int .i64), .sl .str]) c.toList) :
    ∃ (b z : Int) (ao : Option Addr) (n cap : Nat) (bo : Option Addr) (m cap2 : Nat) (W : List Int) (T : List ByteArray), c = #[.int .i64 b, .int .i64 z, .slice ao n cap, .slice bo m cap2] ∧ (Lit.int .i64 b).wf = true ∧ (Lit.int .i64 z).wf = true ∧
      Rs w ao n cap 1 W (fun x => [.int .i64 x]) ∧ Rs w bo m cap2 1 T (fun x => [.string x]) ∧ (∀ x ∈ W, (Lit.int .i64 x).wf = true) ∧ (∀ x ∈ T, x.size ≤ maxLen) := by
  simp only [Kd.ok, Kd.okL, Kd.cells] at h
  obtain ⟨a, a', ha, _, ⟨b, rfl, hb⟩, a2, a2', rfl, _, ⟨z, rfl, hz⟩, a3, a3', rfl, _, ⟨ao, n, cap, rfl, hs1⟩, a4, a4', rfl, _, ⟨bo, m, cap2, rfl, hs2⟩, rfl⟩ := h
  have h1 : (Kd.sl (.int .i64)).ok w [.slice ao n cap] := by simp only [Kd.ok, Kd.cells]; exact ⟨ao, n, cap, rfl, hs1⟩
  have h2 : (Kd.sl .str).ok w [.slice bo m cap2] := by simp only [Kd.ok, Kd.cells]; exact ⟨bo, m, cap2, rfl, hs2⟩
  obtain ⟨W, hW, hw⟩ := ints_of h1
  obtain ⟨T, hT, ht⟩ := strs_of h2
  refine ⟨b, z, ao, n, cap, bo, m, cap2, W, T, ?_, hb, hz, hW, hT, hw, ht⟩
  apply Array.ext'
  simpa using ha
theorem Rs.few {α : Type} {w : World} {ao : Option Addr} {n cap : Nat} {L : List α} {f : α → List Value} (h : Rs w ao n cap 1 L f) : Rs w ao (cut300 n) cap 1 (L.take (cut300 n)) f := h.take (cut300_le n).1
theorem sig_limbs {w w' : World} {p : Nat} {v0 v1 v2 v3 : Value} {t : TypeId} (h : Blk w' p [v0, v1, v2, v3] t) (hb : Below w.heap.size w w') :
    w'.cell? ⟨p, 0, none⟩ = some v0 ∧ w'.cell? ⟨p, 1, none⟩ = some v1 ∧ w'.cell? ⟨p, 2, none⟩ = some v2 ∧ w'.cell? ⟨p, 3, none⟩ = some v3 ∧ Below w.heap.size w w' ∧ Blk w' p [v0, v1, v2, v3] t :=
  ⟨h.cell (i := 0) rfl, h.cell (i := 1) rfl, h.cell (i := 2) rfl, h.cell (i := 3) rfl, hb, h⟩
theorem ret_b {e : Ending} {P : Prop} {R : Bool} (h : RightR P e) (hR : R = true ↔ P) : e = .returned (.bool R) := by
  obtain ⟨r, rfl, hr⟩ := h
  have : r = R := by
    cases r <;> cases R <;> simp_all
  rw [this]
set_option maxRecDepth 100000 in
set_option maxHeartbeats 2000000 in
theorem signBytes_walk (w : World) (c : Array Value) (o : Kd.ok w (.agg [.int .i64, .int .i64, .sl (.int .i64), .sl .str]) c.toList) :
    Calls Try.prog 5 #[.agg c] w fun e w' => e = .returned (.bool true) ∧ Below w.heap.size w w' := by
  obtain ⟨b, z, ao, n0, cap, bo, m0, cap2, W0, T0, rfl, wb, wz, hW0, hT0, hw0, ht0⟩ := sig_of o
  clear o
  have hn3 := (cut300_le n0).2
  have hm3 := (cut300_le m0).2
  have hW := hW0.few
  have hT := hT0.few
  have hw : ∀ x ∈ W0.take (cut300 n0), (Lit.int .i64 x).wf = true := fun x hx => hw0 x (List.mem_of_mem_take hx)
  have ht : ∀ x ∈ T0.take (cut300 m0), x.size ≤ maxLen := fun x hx => ht0 x (List.mem_of_mem_take hx)
  obtain ⟨V1, hV1⟩ : ∃ V, V = w.alloc (Obj.cells #[.int .i64 b, .int .i64 z, .slice ao n0 cap, .slice bo m0 cap2] 31) := ⟨_, rfl⟩
  obtain ⟨p1, hp1⟩ : ∃ p, p = w.heap.size := ⟨_, rfl⟩
  have hG1 : Blk V1 p1 [.int .i64 b, .int .i64 z, .slice ao n0 cap, .slice bo m0 cap2] 31 := by rw [hV1, hp1]; exact Blk.new _ _ _
  have hB1 : Below w.heap.size w V1 := by rw [hV1]; exact bel_alloc _ _
  have HF := Lib.hid (few_any V1 b z ao n0 cap bo m0 cap2 W0 T0 (hW0.next hB1) (hT0.next hB1))
  obtain ⟨n, hn⟩ : ∃ n, n = cut300 n0 := ⟨_, rfl⟩
  obtain ⟨m, hm⟩ : ∃ m, m = cut300 m0 := ⟨_, rfl⟩
  obtain ⟨W, hWe⟩ : ∃ W, W = W0.take n := ⟨_, rfl⟩
  obtain ⟨T, hTe⟩ : ∃ T, T = T0.take m := ⟨_, rfl⟩
  rw [← hn] at hW hw hn3 HF
  rw [← hm] at hT ht hm3 HF
  rw [← hWe] at hW hw
  rw [← hTe] at hT ht
  have HV1 := Lib.hid hV1
  have HP1 := Lib.hid hp1
  have HGB := Lib.hid (And.intro hG1 hB1)
  have HW := Lib.hid hW
  have HT := Lib.hid hT
  have Hw := Lib.hid hw
  have Ht := Lib.hid ht
  have c0 := hG1.cell (i := 0) rfl
  have c1 := hG1.cell (i := 1) rfl
  have c2 := hG1.cell (i := 2) rfl
  have c3 := hG1.cell (i := 3) rfl
  clear hV1 hp1 hG1 hB1 hW0 hT0 hw0 ht0 hn hm hWe hTe hW hT hw ht
  go_enter Try.func5, Try.ntmps5
  go_upto_region 1 with fail
  rw [← HP1.out, ← HV1.out]
  go_wp2_with fail
  refine HF.out.mono ?_
  rintro e w2 ⟨rfl, hb2⟩
  have hG2 := HGB.out.1.belowB hb2
  have HG2 := Lib.hid (And.intro hG2 (bl_nx HGB.out.2 hb2))
  have f0 := hG2.frozen 0
  have f1 := hG2.frozen 1
  have f2 := hG2.frozen 2
  have f3 := hG2.frozen 3
  have d0 := hG2.cell (i := 0) rfl
  have d1 := hG2.cell (i := 1) rfl
  have d2 := hG2.cell (i := 2) rfl
  have d3 := hG2.cell (i := 3) rfl
  clear c0 c1 c2 c3 hb2 hG2
  go_upto_region 2 with fail
  obtain ⟨V3, hV3⟩ : ∃ V, V = (((w2.setCell ⟨p1, 0, none⟩ (.int .i64 b)).setCell ⟨p1, 1, none⟩ (.int .i64 z)).setCell ⟨p1, 2, none⟩ (.slice ao n cap)).setCell ⟨p1, 3, none⟩ (.slice bo m cap2) := ⟨_, rfl⟩
  have hG3 : Blk V3 p1 [.int .i64 b, .int .i64 z, .slice ao n cap, .slice bo m cap2] 31 := by rw [hV3]; exact (((HG2.out.1.set 0 _).set 1 _).set 2 _).set 3 _
  have hB3 : Below w.heap.size w V3 := by
    have hp : w.heap.size ≤ p1 := by rw [HP1.out]; exact Nat.le_refl _
    rw [hV3]; exact (((HG2.out.2.setCell hp _).setCell hp _).setCell hp _).setCell hp _
  have HB3 := Lib.hid (And.intro hG3 hB3)
  rw [← hV3]
  have HV3 := Lib.hid hV3
  clear hV3 hG3 hB3 d0 d1 d2 d3 f0 f1 f2 f3 HF
  by_cases hok : sigOk b z W T
  · obtain ⟨B, rfl⟩ : ∃ B : Nat, b = B := ⟨b.toNat, by have := hok.1; omega⟩
    obtain ⟨Z, rfl⟩ : ∃ Z : Nat, z = Z := ⟨z.toNat, by have := hok.2.2.1; omega⟩
    have HC1 := Lib.hid (sgBytes_ok V3 B Z ao n cap bo m cap2 W T (HW.out.next HB3.out.2) (HT.out.next HB3.out.2) hok)
    have HC2 := Lib.hid (fun (wx : World) (h : Below w.heap.size w wx) => refSgBytes_ok wx B Z ao n cap bo m cap2 W T (HW.out.next h) (HT.out.next h) hok)
    obtain ⟨S, hS⟩ : ∃ S : ByteArray, S = ⟨(sigL B Z W T).toArray⟩ := ⟨_, rfl⟩
    rw [← hS] at HC1
    simp only [← hS] at HC2
    have HR1 : Hid (∀ wx, Below w.heap.size w wx → Calls Try.prog 24 #[.agg #[.int .i64 B, .int .i64 Z, .slice ao n cap, .slice bo m cap2]] wx fun e w' => e = .returned (.bool true) ∧ Below wx.heap.size wx w') := Lib.hid (fun wx h => (sgRight_any wx B Z ao n cap bo m cap2 W T wb wz (HW.out.next h) (HT.out.next h) Hw.out Ht.out (by omega) (by omega)).mono fun _ _ ⟨h1, h2⟩ => ⟨ret_b h1 (by simp [hok]), h2⟩)
    have HR2 : Hid (∀ wx, Below w.heap.size w wx → Calls Try.prog 28 #[.agg #[.int .i64 B, .int .i64 Z, .slice ao n cap, .slice bo m cap2]] wx fun e w' => e = .returned (.bool true) ∧ Below wx.heap.size wx w') := Lib.hid (fun wx h => (refRight_any wx B Z ao n cap bo m cap2 W T wb wz (HW.out.next h) (HT.out.next h) Hw.out Ht.out (by omega) (by omega)).mono fun _ _ ⟨h1, h2⟩ => ⟨ret_b h1 (by simp [hok]), h2⟩)
    clear hok hS
    have c0 := HB3.out.1.cell (i := 0) rfl
    have c1 := HB3.out.1.cell (i := 1) rfl
    have c2 := HB3.out.1.cell (i := 2) rfl
    have c3 := HB3.out.1.cell (i := 3) rfl
    go_wp2_with fail
    refine HC1.out.mono ?_
    rintro e w4 ⟨rfl, hb4⟩
    have hG4 := HB3.out.1.belowB hb4
    have HG4 := Lib.hid (And.intro hG4 (bl_nx HB3.out.2 hb4))
    have d0 := hG4.cell (i := 0) rfl
    have d1 := hG4.cell (i := 1) rfl
    have d2 := hG4.cell (i := 2) rfl
    have d3 := hG4.cell (i := 3) rfl
    clear hb4 hG4 c0 c1 c2 c3
    go_wp2_with fail
    refine (HC2.out w4 HG4.out.2).mono ?_
    rintro e w5 ⟨rfl, hb5⟩
    have hG5 := HG4.out.1.belowB hb5
    have HG5 := Lib.hid (And.intro hG5 (bl_nx HG4.out.2 hb5))
    have c0 := hG5.cell (i := 0) rfl
    have c1 := hG5.cell (i := 1) rfl
    have c2 := hG5.cell (i := 2) rfl
    have c3 := hG5.cell (i := 3) rfl
    clear hb5 hG5 d0 d1 d2 d3
    go_wp2_with fail
    go_region_held3 (fun w' => w'.cell? ⟨p1, 0, none⟩ = some (.int .i64 B) ∧ w'.cell? ⟨p1, 1, none⟩ = some (.int .i64 Z) ∧ w'.cell? ⟨p1, 2, none⟩ = some (.slice ao n cap) ∧ w'.cell? ⟨p1, 3, none⟩ = some (.slice bo m cap2) ∧ Below w.heap.size w w' ∧ Blk w' p1 [.int .i64 B, .int .i64 Z, .slice ao n cap, .slice bo m cap2] 31)
      (first | exact HH | exact ⟨c0, c1, c2, c3, bl_drw HG5.out.2, HG5.out.1.drew⟩)
      (first
        | (go_at_call 24; obtain ⟨_, _, _, _, hbe, hge⟩ := ‹World.cell? _ _ = _ ∧ World.cell? _ _ = _ ∧ World.cell? _ _ = _ ∧ World.cell? _ _ = _ ∧ Below _ _ _ ∧ Blk _ _ _ _›; refine (HR1.out _ hbe).mono ?_; rintro e w6 ⟨rfl, hb6⟩; have HH := sig_limbs (hge.belowB hb6) (bl_nx hbe hb6); clear hbe hge hb6)
        | (go_at_call 28; obtain ⟨_, _, _, _, hbe, hge⟩ := ‹World.cell? _ _ = _ ∧ World.cell? _ _ = _ ∧ World.cell? _ _ = _ ∧ World.cell? _ _ = _ ∧ Below _ _ _ ∧ Blk _ _ _ _›; refine (HR2.out _ hbe).mono ?_; rintro e w6 ⟨rfl, hb6⟩; have HH := sig_limbs (hge.belowB hb6) (bl_nx hbe hb6); clear hbe hge hb6)
        | (go_at_call 16; obtain ⟨_, _, _, _, hbe, hge⟩ := ‹World.cell? _ _ = _ ∧ World.cell? _ _ = _ ∧ World.cell? _ _ = _ ∧ World.cell? _ _ = _ ∧ Below _ _ _ ∧ Blk _ _ _ _›; refine (awake_sign _).mono ?_; rintro e w6 ⟨rfl, hb6⟩; have HH := sig_limbs (hge.belowB hb6) (bl_nx hbe hb6); clear hbe hge hb6))
    have HE := Lib.hid HH.2.2.2.2.1
    clear HH
    go_wp2
    go_ret
    exact ⟨rfl, HE.out⟩
  · have HC1 := Lib.hid (sgBytes_bad V3 b z ao n cap bo m cap2 W T wb wz (HW.out.next HB3.out.2) (HT.out.next HB3.out.2) Hw.out Ht.out (by omega) (by omega) hok)
    have HC2 := Lib.hid (fun (wx : World) (h : Below w.heap.size w wx) => refSgBytes_bad wx b z ao n cap bo m cap2 W T wb wz (HW.out.next h) (HT.out.next h) Hw.out Ht.out (by omega) (by omega) hok)
    have HR1 : Hid (∀ wx, Below w.heap.size w wx → Calls Try.prog 24 #[.agg #[.int .i64 b, .int .i64 z, .slice ao n cap, .slice bo m cap2]] wx fun e w' => e = .returned (.bool false) ∧ Below wx.heap.size wx w') := Lib.hid (fun wx h => (sgRight_any wx b z ao n cap bo m cap2 W T wb wz (HW.out.next h) (HT.out.next h) Hw.out Ht.out (by omega) (by omega)).mono fun _ _ ⟨h1, h2⟩ => ⟨ret_b h1 (by simp [hok]), h2⟩)
    have HR2 : Hid (∀ wx, Below w.heap.size w wx → Calls Try.prog 28 #[.agg #[.int .i64 b, .int .i64 z, .slice ao n cap, .slice bo m cap2]] wx fun e w' => e = .returned (.bool false) ∧ Below wx.heap.size wx w') := Lib.hid (fun wx h => (refRight_any wx b z ao n cap bo m cap2 W T wb wz (HW.out.next h) (HT.out.next h) Hw.out Ht.out (by omega) (by omega)).mono fun _ _ ⟨h1, h2⟩ => ⟨ret_b h1 (by simp [hok]), h2⟩)
    clear hok
    have c0 := HB3.out.1.cell (i := 0) rfl
    have c1 := HB3.out.1.cell (i := 1) rfl
    have c2 := HB3.out.1.cell (i := 2) rfl
    have c3 := HB3.out.1.cell (i := 3) rfl
    go_wp2_with fail
    refine HC1.out.mono ?_
    rintro e w4 ⟨rfl, hb4⟩
    have hG4 := HB3.out.1.belowB hb4
    have HG4 := Lib.hid (And.intro hG4 (bl_nx HB3.out.2 hb4))
    have d0 := hG4.cell (i := 0) rfl
    have d1 := hG4.cell (i := 1) rfl
    have d2 := hG4.cell (i := 2) rfl
    have d3 := hG4.cell (i := 3) rfl
    clear hb4 hG4 c0 c1 c2 c3
    go_wp2_with fail
    refine (HC2.out w4 HG4.out.2).mono ?_
    rintro e w5 ⟨rfl, hb5⟩
    have hG5 := HG4.out.1.belowB hb5
    have HG5 := Lib.hid (And.intro hG5 (bl_nx HG4.out.2 hb5))
    have c0 := hG5.cell (i := 0) rfl
    have c1 := hG5.cell (i := 1) rfl
    have c2 := hG5.cell (i := 2) rfl
    have c3 := hG5.cell (i := 3) rfl
    clear hb5 hG5 d0 d1 d2 d3
    go_wp2_with fail
    go_region_held3 (fun w' => w'.cell? ⟨p1, 0, none⟩ = some (.int .i64 b) ∧ w'.cell? ⟨p1, 1, none⟩ = some (.int .i64 z) ∧ w'.cell? ⟨p1, 2, none⟩ = some (.slice ao n cap) ∧ w'.cell? ⟨p1, 3, none⟩ = some (.slice bo m cap2) ∧ Below w.heap.size w w' ∧ Blk w' p1 [.int .i64 b, .int .i64 z, .slice ao n cap, .slice bo m cap2] 31)
      (first | exact HH | exact ⟨c0, c1, c2, c3, bl_drw HG5.out.2, HG5.out.1.drew⟩)
      (first
        | (go_at_call 24; obtain ⟨_, _, _, _, hbe, hge⟩ := ‹World.cell? _ _ = _ ∧ World.cell? _ _ = _ ∧ World.cell? _ _ = _ ∧ World.cell? _ _ = _ ∧ Below _ _ _ ∧ Blk _ _ _ _›; refine (HR1.out _ hbe).mono ?_; rintro e w6 ⟨rfl, hb6⟩; have HH := sig_limbs (hge.belowB hb6) (bl_nx hbe hb6); clear hbe hge hb6)
        | (go_at_call 28; obtain ⟨_, _, _, _, hbe, hge⟩ := ‹World.cell? _ _ = _ ∧ World.cell? _ _ = _ ∧ World.cell? _ _ = _ ∧ World.cell? _ _ = _ ∧ Below _ _ _ ∧ Blk _ _ _ _›; refine (HR2.out _ hbe).mono ?_; rintro e w6 ⟨rfl, hb6⟩; have HH := sig_limbs (hge.belowB hb6) (bl_nx hbe hb6); clear hbe hge hb6)
        | (go_at_call 16; obtain ⟨_, _, _, _, hbe, hge⟩ := ‹World.cell? _ _ = _ ∧ World.cell? _ _ = _ ∧ World.cell? _ _ = _ ∧ World.cell? _ _ = _ ∧ Below _ _ _ ∧ Blk _ _ _ _›; refine (awake_sign _).mono ?_; rintro e w6 ⟨rfl, hb6⟩; have HH := sig_limbs (hge.belowB hb6) (bl_nx hbe hb6); clear hbe hge hb6))
    have HE := Lib.hid HH.2.2.2.2.1
    clear HH
    go_wp2
    go_ret
    exact ⟨rfl, HE.out⟩
end Go.Proofs.Ytfcfgkhdlpgbdaa
