/- sign.NewTable: the walk. Conditions: as named in each theorem. -/
import Derived.Test.YtfcfgkhdlpgbdaaTabNew
import Derived.Deep.RegionLaw
namespace Go.Proofs.Ytfcfgkhdlpgbdaa
open Go.RowKit
set_option linter.unusedVariables false

theorem ret_bT {e : Ending} {P : Prop} {R : Bool} (h : RightR P e) (hR : R = true ↔ P) : e = .returned (.bool R) := by
  obtain ⟨r, rfl, hr⟩ := h
  have : r = R := Bool.eq_iff_iff.2 (hr.trans hR.symm)
  rw [this]
theorem tab_limbs {w w' : World} {p : Nat} {v0 v1 v2 v3 : Value} {t : TypeId} (h : Blk w' p [v0, v1, v2, v3] t) (hb : Below w.heap.size w w') :
    w'.cell? ⟨p, 0, none⟩ = some v0 ∧ w'.cell? ⟨p, 1, none⟩ = some v1 ∧ w'.cell? ⟨p, 2, none⟩ = some v2 ∧ w'.cell? ⟨p, 3, none⟩ = some v3 ∧ Below w.heap.size w w' ∧ Blk w' p [v0, v1, v2, v3] t :=
  ⟨h.cell (i := 0) rfl, h.cell (i := 1) rfl, h.cell (i := 2) rfl, h.cell (i := 3) rfl, hb, h⟩
set_option maxHeartbeats 4000000 in
theorem newTab_bad (w : World) (b z : Int) (ao : Option Addr) (n cap : Nat) (bo : Option Addr) (m cap2 : Nat) (W : List Int) (T : List ByteArray) (wb : (Lit.int .i64 b).wf = true) (wz : (Lit.int .i64 z).wf = true)
    (hW : Rs w ao n cap 1 W (fun x => [.int .i64 x])) (hT : Rs w bo m cap2 1 T (fun x => [.string x])) (hw : ∀ x ∈ W, (Lit.int .i64 x).wf = true) (ht : ∀ t ∈ T, t.size ≤ maxLen) (hn : n ≤ 1000000) (hm : m ≤ 1000000) (hno : ¬ sigOk b z W T) :
    Calls Try.prog 38 #[.agg #[.int .i64 b, .int .i64 z, .slice ao n cap, .slice bo m cap2]] w fun e w' => e = .returned (.tuple #[.pointer none, .int .i64 1]) ∧ Below w.heap.size w w' := by
  obtain ⟨V1, hV1⟩ : ∃ V, V = w.alloc (Obj.cells #[.int .i64 b, .int .i64 z, .slice ao n cap, .slice bo m cap2] 31) := ⟨_, rfl⟩
  obtain ⟨pb, hpb⟩ : ∃ p, p = w.heap.size := ⟨_, rfl⟩
  have hZ1 : Blk V1 pb [.int .i64 b, .int .i64 z, .slice ao n cap, .slice bo m cap2] 31 := by rw [hV1, hpb]; exact Blk.new _ _ _
  have hB1 : Below w.heap.size w V1 := by rw [hV1]; exact bel_alloc _ _
  have hHR : Calls Try.prog 24 #[.agg #[.int .i64 b, .int .i64 z, .slice ao n cap, .slice bo m cap2]] V1 fun e w' => e = .returned (.bool false) ∧ Below V1.heap.size V1 w' := (sgRight_any V1 b z ao n cap bo m cap2 W T wb wz (hW.next hB1) (hT.next hB1) hw ht (by omega) (by omega)).mono fun _ _ ⟨h1, h2⟩ => ⟨ret_bT h1 (by simp [hno]), h2⟩
  have HRI := Lib.hid hHR
  have c0 := hZ1.cell (i := 0) rfl
  have c1 := hZ1.cell (i := 1) rfl
  have c2 := hZ1.cell (i := 2) rfl
  have c3 := hZ1.cell (i := 3) rfl
  have HB1 := Lib.hid hB1
  have HV1 := Lib.hid hV1
  have HPB := Lib.hid hpb
  clear hZ1 hB1 hV1 hpb hHR hW hT hw ht wb wz
  go_enter Try.func38, Try.ntmps38
  go_upto_region 1 with fail
  rw [← HPB.out, ← HV1.out]
  go_wp2_with fail
  refine HRI.out.mono ?_
  rintro e w2 ⟨rfl, hb2⟩
  go_wp2
  go_ret2
  exact ⟨rfl, bl_nx HB1.out hb2⟩

/-- what NewTable answers -/
def NewTabR (w : World) (B Z : Nat) (N : Nat) (W : List Int) (T : List ByteArray) (e : Ending) (w' : World) : Prop :=
  ∃ pt vI vS kv pv f, e = .returned (.tuple #[.pointer (some ⟨pt, 0, none⟩), .int .i64 0]) ∧ Tab w.heap.size w' pt B Z vI vS kv pv W T (plc N f) ∧ Srt (wtOf W) f 0 N ∧ InB f 0 N ∧ Below w.heap.size w w'
set_option maxRecDepth 100000 in
set_option maxHeartbeats 8000000 in
theorem newTab_ok (w : World) (B Z : Nat) (ao : Option Addr) (n cap : Nat) (bo : Option Addr) (m cap2 : Nat) (W : List Int) (T : List ByteArray) (wb : (Lit.int .i64 B).wf = true) (wz : (Lit.int .i64 Z).wf = true)
    (hW : Rs w ao n cap 1 W (fun x => [.int .i64 x])) (hT : Rs w bo m cap2 1 T (fun x => [.string x])) (hw : ∀ x ∈ W, (Lit.int .i64 x).wf = true) (ht : ∀ t ∈ T, t.size ≤ maxLen) (hn : n ≤ 1000000) (hm : m ≤ 1000000) (hok : sigOk B Z W T) :
    Calls Try.prog 38 #[.agg #[.int .i64 B, .int .i64 Z, .slice ao n cap, .slice bo m cap2]] w (NewTabR w B Z (Z / B) W T) := by
  obtain ⟨i0, hi, hz0, hz1, hz2⟩ := info_parts infoIntS
  obtain ⟨V1, hV1⟩ : ∃ V, V = w.alloc (Obj.cells #[.int .i64 B, .int .i64 Z, .slice ao n cap, .slice bo m cap2] 31) := ⟨_, rfl⟩
  obtain ⟨pb, hpb⟩ : ∃ p, p = w.heap.size := ⟨_, rfl⟩
  have hZ1 : Blk V1 pb [.int .i64 B, .int .i64 Z, .slice ao n cap, .slice bo m cap2] 31 := by rw [hV1, hpb]; exact Blk.new _ _ _
  have hB1 : Below w.heap.size w V1 := by rw [hV1]; exact bel_alloc _ _
  have hHR : Calls Try.prog 24 #[.agg #[.int .i64 B, .int .i64 Z, .slice ao n cap, .slice bo m cap2]] V1 fun e w' => e = .returned (.bool true) ∧ Below V1.heap.size V1 w' := (sgRight_any V1 B Z ao n cap bo m cap2 W T wb wz (hW.next hB1) (hT.next hB1) hw ht (by omega) (by omega)).mono fun _ _ ⟨h1, h2⟩ => ⟨ret_bT h1 (by simp [hok]), h2⟩
  have HRI := Lib.hid hHR
  obtain ⟨k1, k2, k3, k4, k5, k6, k7⟩ := hok
  have lW := hW.2.2.1
  have lT := hT.2.2.1
  obtain ⟨N, hN⟩ : ∃ N : Nat, Z / B = N := ⟨_, rfl⟩
  have hNi : (Z : Int) / (B : Int) = (N : Int) := by rw [← hN]; rfl
  have hNn : N ≤ n := by
    rw [← lW, k5, ← hN]
    simp only [Int.toNat_natCast]
    unfold cnt
    exact Nat.div_le_div_right (by omega)
  have hbd : ∀ v ∈ W, 0 ≤ v ∧ v ≤ 4294967295 := by
    intro v hv
    obtain ⟨i, hi, e⟩ := List.getElem_of_mem hv
    have := k7 i hi v (T[i]'(by omega)) (by rw [List.getElem?_eq_getElem hi, e]) (List.getElem?_eq_getElem _)
    exact ⟨this.1, this.2.1⟩
  have hTn : T.length = n := by rw [k6, lW]
  have hZb : Z ≤ 524288 := by omega
  have hBb : 16 ≤ B := by omega
  have hBc : B ≤ 1024 := by omega
  have c0 := hZ1.cell (i := 0) rfl
  have c1 := hZ1.cell (i := 1) rfl
  have c2 := hZ1.cell (i := 2) rfl
  have c3 := hZ1.cell (i := 3) rfl
  have HZ1 := Lib.hid hZ1
  have HB1 := Lib.hid hB1
  have HV1 := Lib.hid hV1
  have HPB := Lib.hid hpb
  have HW := Lib.hid hW
  have HT := Lib.hid hT
  have HBD := Lib.hid hbd
  have HLW := Lib.hid lW
  have HLT := Lib.hid hTn
  have HN := Lib.hid hN
  have Hm := Lib.hid lT
  rw [hN]
  clear hZ1 hB1 hV1 hpb hHR hW hT hw ht wb wz k1 k2 k3 k4 k5 k6 k7 lW lT hbd hTn hN
  go_enter Try.func38, Try.ntmps38
  go_upto_region 1 with fail
  rw [← HPB.out, ← HV1.out]
  go_wp2_with fail
  refine HRI.out.mono ?_
  rintro e w2 ⟨rfl, hb2⟩
  have hG2 := HZ1.out.belowB hb2
  have c0 := hG2.cell (i := 0) rfl
  have c1 := hG2.cell (i := 1) rfl
  have c2 := hG2.cell (i := 2) rfl
  have c3 := hG2.cell (i := 3) rfl
  have HG2 := Lib.hid (And.intro hG2 (bl_nx HB1.out hb2))
  clear hG2 hb2
  go_wp2_with fail
  go_region_held3 (fun w' => w'.cell? ⟨pb, 0, none⟩ = some (.int .i64 B) ∧ w'.cell? ⟨pb, 1, none⟩ = some (.int .i64 Z) ∧ w'.cell? ⟨pb, 2, none⟩ = some (.slice ao n cap) ∧ w'.cell? ⟨pb, 3, none⟩ = some (.slice bo m cap2) ∧ Below w.heap.size w w' ∧ Blk w' pb [.int .i64 B, .int .i64 Z, .slice ao n cap, .slice bo m cap2] 31)
    (first | exact HH | exact tab_limbs (HH.2.2.2.2.2.alloc _) (bl_alloc' HH.2.2.2.2.1 _) | exact tab_limbs HG2.out.1.drew (bl_drew HG2.out.2))
    (first
      | (go_at_call 66; obtain ⟨_, _, _, _, hbe, hge⟩ := ‹World.cell? _ _ = _ ∧ World.cell? _ _ = _ ∧ World.cell? _ _ = _ ∧ World.cell? _ _ = _ ∧ Below _ _ _ ∧ Blk _ _ _ _›; refine (cloneI_any _ ao n cap W (HW.out.next hbe) hn).mono ?_; rintro e w6 ⟨vI, rfl, hoI, hb6⟩; obtain ⟨aI, kI, rfl⟩ := owns_slice hoI; have HH := tab_limbs (hge.belowB hb6) (bl_nx hbe hb6); (try (replace hoS := owns_next hoS hb6)); have hlI := And.intro hge.lt hb6.size; clear hbe hge hb6)
      | (go_at_call 67; obtain ⟨_, _, _, _, hbe, hge⟩ := ‹World.cell? _ _ = _ ∧ World.cell? _ _ = _ ∧ World.cell? _ _ = _ ∧ World.cell? _ _ = _ ∧ Below _ _ _ ∧ Blk _ _ _ _›; refine (cloneS_any _ bo m cap2 T (HT.out.next hbe) hm).mono ?_; rintro e w7 ⟨vS, rfl, hoS, hb7⟩; obtain ⟨aS, kS, rfl⟩ := owns_slice hoS; have HH := tab_limbs (hge.belowB hb7) (bl_nx hbe hb7); (try (replace hoI := owns_next hoI hb7)); have hlS := And.intro hge.lt hb7.size; clear hbe hge hb7))
  obtain ⟨V, hV⟩ : ∃ V, V = w7.alloc (Obj.cells #[.int .i64 B, .int .i64 Z, .slice aI n kI, .slice aS m kS, .slice none 0 0, .slice none 0 0] 88) := ⟨_, rfl⟩
  obtain ⟨pt, hpt⟩ : ∃ p, p = w7.heap.size := ⟨_, rfl⟩
  have hs2 : w.heap.size ≤ w2.drew.heap.size := HG2.out.2.size
  have hR0 : TbR w V pb pt B Z (.slice ao n cap) (.slice bo m cap2) (.slice aI n kI) (.slice aS m kS) (.slice none 0 0) (.slice none 0 0) W T [] (plc 0 (fun i => (i : Int))) := by
    rw [hV, hpt]
    refine ⟨HH.2.2.2.2.2.alloc _, Blk.new w7 _ _, ?_, ?_, World.ownsRow_nil _ _ _ _, World.ownsRow_nil _ _ _ _, fun j hj => by simp [Value.ownBlock] at hj, fun j e => ?_, fun j e => ?_, bl_alloc HH.2.2.2.2.1 _, ?_, ?_⟩
    · unfold RowI; rw [HLW.out]; exact World.ownsRow.alloc (owns_mono hoI hs2) _
    · unfold RowS; rw [Hm.out]; exact World.ownsRow.alloc (owns_mono hoS (by omega)) _
    · have := World.ownsRow.lt hoI j e; omega
    · have := World.ownsRow.lt hoS j e; omega
    · have := HPB.out; omega
    · omega
  have HR0 := Lib.hid hR0
  rw [← hpt, ← hV]
  have q0 := hR0.g.cell (i := 0) rfl
  have q1 := hR0.g.cell (i := 1) rfl
  clear hR0 hV hpt hoI hoS HH hlI hlS hs2 c0 c1 c2 c3
  go_wp2_with fail
  go_loopw [5, 29, 31] (fun _ i _ wr => ∃ (k : Nat) (a1 : Option Addr) (c1 : Nat), i = .int .i64 k ∧ k ≤ N ∧ TbR w wr pb pt B Z (.slice ao n cap) (.slice bo m cap2) (.slice aI n kI) (.slice aS m kS) (.slice none 0 0) (.slice a1 k c1) W T [] (plc k (fun i => (i : Int)))) (fun _ i _ _ => N - (intOf i).toNat)
  case atStart => exact ⟨0, none, 0, rfl, by omega, HR0.out⟩
  case round =>
    clear HR0 q0 q1
    obtain ⟨k, a1, c1, rfl, hk, hR⟩ := hrel
    have HR := Lib.hid hR
    have c5 := hR.t.cell (i := 5) rfl
    have hpl := hR.t.lt
    have hIa : Hid (wr.ownsRow (pt + 1) 3 1 (.slice a1 k c1) k ((plc k (fun i => (i : Int))).map (Value.int .i64))) := Lib.hid (by have := hR.p; unfold RowI at this; rw [plc_len] at this; exact this)
    clear hR
    by_cases hlt : (k : Int) < (N : Int)
    · go_wp2_with (at_builtin; refine wpList_append_own_at _ rfl _ _ 28 rfl (pt + 1) 3 i0 (.int .i64 0) 1 8 Try.underlying28 hi hz0 hz1 hz2 rfl (by decide) _ k ((plc k (fun i => (i : Int))).map (Value.int .i64)) rfl (World.ownsRow.alloc hIa.out _) ⟨wr.heap.size, 0, none⟩ 1 1 [.int .i64 k] rfl rfl (cell1_new _ _ _) (one1 _ rfl) (by unfold maxLen; omega) (by omega) (by simp; omega) ?_)
      intro v5 w5 hO5 hg5 _ hrb
      obtain ⟨ao5, cap5, rfl⟩ := slice_of5 hO5
      have hR5 := (HR.out.alloc (.cells #[.int .i64 k] 3)).place (x := k) (by rw [plc_len]; exact hO5) hg5 (hrb.imp id (fun e => ⟨_, (fun h => by simp [Value.ownBlock] at h), e⟩))
      rw [← plc_succ k (fun i => (i : Int))] at hR5
      have hG5 := (HR.out.alloc (.cells #[.int .i64 k] 3)).t.grown hg5 (fun e => by have := (World.ownsRow.lt hIa.out pt e.symm).1; omega)
      have c55 := hG5.cell (i := 5) rfl
      have f55 := hG5.frozen 5
      have HR5 := Lib.hid hR5
      clear hR5 hG5 hO5 hg5 hrb c5 hIa HR
      go_wp2
      go_roundw
      case rel => exact ⟨k + 1, _, _, by go_num, by omega, HR5.out⟩
      case measure => simp [intOf]; omega
    · have hkN : k = N := by omega
      subst hkN
      go_wp2_with fail
      refine (tab_sort HR.out HW.out HBD.out hNn hn).mono ?_
      rintro e w8 ⟨⟨r, rfl⟩, f, hR8, hS8, hI8⟩
      have HR8 := Lib.hid hR8
      have HS8 := Lib.hid (And.intro hS8 hI8)
      have c5 := hR8.t.cell (i := 5) rfl
      clear hR8 hS8 hI8 HR hIa hpl
      go_wp2_with fail
      go_loopw [7, 54, 55] (fun _ i _ wr => ∃ (j : Nat) (a2 : Option Addr) (k2 : Nat), i = .int .i64 j ∧ j ≤ k ∧ TbR w wr pb pt B Z (.slice ao n cap) (.slice bo m cap2) (.slice aI n kI) (.slice aS m kS) (.slice a2 j k2) (.slice a1 k c1) W T ((plc j f).map (wtOf W)) (plc k f)) (fun _ i _ _ => k - (intOf i).toNat)
      case atStart => exact ⟨0, none, 0, rfl, by omega, HR8.out⟩
      case round =>
        clear HR8 c5
        obtain ⟨j, a2, k2, rfl, hj, hR⟩ := hrel
        by_cases hlt2 : (j : Int) < (k : Int)
        · have hRp := hR.p.rs (plc_len _ _)
          obtain ⟨bp, op, x, rfl, hx, cx⟩ := hRp.one (k := j) (by omega)
          rw [plc_get f (by omega)] at hx
          injection hx with hx
          have hfj := HS8.out.2.1 j (by omega) (by omega)
          obtain ⟨X, hX⟩ : ∃ X : Nat, f j = X := ⟨(f j).toNat, by omega⟩
          rw [hX] at hfj
          have hXn : (X : Int) < (n : Int) := by omega
          rw [← hx, hX] at cx
          obtain ⟨bw, ow, y, rfl, hy, cy⟩ := (HW.out.next hR.bl).one (k := X) (by omega)
          have hwy : wtOf W (f j) = y := by rw [hX]; simp only [wtOf, Int.toNat_natCast]; rw [List.getD_eq_getElem?_getD, hy]; rfl
          have HWY := Lib.hid hwy
          have HX := Lib.hid hX
          have q4 := hR.t.cell (i := 4) rfl
          have a4 : (wr.drew.alloc (Obj.cells #[.int .i64 y] 3)).cell? ⟨pt, 4, none⟩ = some (.slice a2 j k2) := (hR.drew.t.alloc _).cell (i := 4) rfl
          have a4' : (wr.alloc (Obj.cells #[.int .i64 y] 3)).cell? ⟨pt, 4, none⟩ = some (.slice a2 j k2) := (hR.t.alloc _).cell (i := 4) rfl
          have q2 := hR.g.cell (i := 2) rfl
          have hpl := hR.t.lt
          have hIa : Hid (wr.ownsRow (pt + 1) 3 1 (.slice a2 j k2) j (((plc j f).map (wtOf W)).map (Value.int .i64))) := Lib.hid (by have := hR.k; unfold RowI at this; rw [List.length_map, plc_len] at this; exact this)
          have HR := Lib.hid hR
          clear hR hx hfj hX hy hwy hRp
          go_wp2_with fail
          go_region_law (first
            | (refine step_append_at rfl (.tmp 62) (.tmp 68) 28 rfl (pt + 1) 3 i0 (.int .i64 0) 1 8 Try.underlying28 hi hz0 hz1 hz2 rfl (by decide) (.slice a2 j k2) j (((plc j f).map (wtOf W)).map (Value.int .i64)) (by simp [Act.eval]) (World.ownsRow.alloc (w := wr.drew) hIa.out _) ⟨wr.heap.size, 0, none⟩ 1 1 [.int .i64 y] (by simp [Act.eval]) rfl (sg_new wr.drew _ _) (by intro u hu; simp only [List.mem_singleton] at hu; subst hu; rfl) (by unfold maxLen; omega) (by omega) (by simp; omega) ?_; intro v' w5 hO5 hg5 hrb; obtain ⟨ao5, cap5, rfl⟩ := slice_of5 hO5; have hG5 := (HR.out.drew.alloc _).t.grown hg5 (fun e => by have := (World.ownsRow.lt hIa.out pt e.symm).1; omega); have c5 := hG5.cell (i := 4) rfl; have f5 := hG5.frozen 4))
          all_goals (
            have hR6 := (HR.out.drew.alloc (.cells #[.int .i64 y] 3)).weak (x := y) (by rw [List.length_map, plc_len]; exact hO5) hg5 (hrb.imp id (fun e => ⟨_, fresh_ne (HR.out.drew.alloc _).p, e⟩))
            have hke : (plc j f).map (wtOf W) ++ [y] = (plc (j + 1) f).map (wtOf W) := by rw [plc_succ, List.map_append, ← HWY.out]; rfl
            rw [hke] at hR6
            obtain ⟨w6, hw6⟩ : ∃ W, W = w5.setCell ⟨pt, 4, none⟩ (.slice ao5 (j + 1) cap5) := ⟨_, rfl⟩
            rw [← hw6] at hR6
            rw [← hw6]
            have HR6 := Lib.hid hR6
            clear hw6 hG5 c5 f5 hO5 hg5 hrb a4 a4' q4 q2 cx cy hIa HR w5 hR6 hke
            go_wp2
            go_roundw
            case rel => exact ⟨j + 1, _, _, by go_num, by omega, HR6.out⟩
            case measure => simp [intOf]; omega)
        · have hjk : j = k := by omega
          subst hjk
          have HR := Lib.hid hR
          clear hR
          go_wp2
          go_ret2
          exact ⟨pt, _, _, _, _, f, rfl, ⟨HR.out.t, HR.out.i, HR.out.s, owns_mono HR.out.k (by have := HR.out.w0; have := HR.out.zr; omega), owns_mono HR.out.p (by have := HR.out.w0; have := HR.out.zr; omega), by have := HR.out.w0; have := HR.out.zr; omega⟩, HS8.out.1, HS8.out.2, HR.out.bl⟩
end Go.Proofs.Ytfcfgkhdlpgbdaa
