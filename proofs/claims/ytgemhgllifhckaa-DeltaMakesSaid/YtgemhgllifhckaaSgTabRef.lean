/- The document's Find; what holds while a table is asked. Conditions: as named in each theorem. -/
import Derived.Test.YtgemhgllifhckaaSgTabTail
import Derived.Test.YtgemhgllifhckaaSgCore
namespace Go.Proofs.Ytgemhgllifhckaa.Sg
open Go.RowKit
set_option linter.unusedVariables false
set_option linter.unusedSimpArgs false

set_option maxRecDepth 100000 in
set_option maxHeartbeats 4000000 in
theorem refFind_any (w : World) (B Z N : Nat) (ao : Option Addr) (n cap : Nat) (v3 : Value) (hv3 : ∃ bo m cap2, v3 = .slice bo m cap2) (W : List Int) (weak : Int) (hW : Rs w ao n cap 1 W (fun x => [.int .i64 x])) (hn : n ≤ 1000000) (hB : 16 ≤ B) (hB2 : B ≤ 1024) (hZ : Z ≤ 524288) (hN : Z / B = N) (hNn : N ≤ n) :
    Calls Try.prog 105 #[.agg #[.int .i64 B, .int .i64 Z, .slice ao n cap, v3], .int .i64 weak] w fun e w' => ∃ v, e = .returned v ∧ RowI w' w.heap.size v (findL W N weak) ∧ Below w.heap.size w w' := by
  obtain ⟨bo, m, cap2, rfl⟩ := hv3
  obtain ⟨i0, hi, hz0, hz1, hz2⟩ := info_parts infoIntS
  have hNi : (Z : Int) / (B : Int) = (N : Int) := by rw [← hN]; rfl
  obtain ⟨V1, hV1⟩ : ∃ V, V = w.alloc (Obj.cells #[.int .i64 B, .int .i64 Z, .slice ao n cap, .slice bo m cap2] 52) := ⟨_, rfl⟩
  obtain ⟨p1, hp1⟩ : ∃ p, p = w.heap.size := ⟨_, rfl⟩
  have hG1 : Blk V1 p1 [.int .i64 B, .int .i64 Z, .slice ao n cap, .slice bo m cap2] 52 := by rw [hV1, hp1]; exact Blk.new _ _ _
  have hB1 : Below w.heap.size w V1 := by rw [hV1]; exact bel_alloc _ _
  have HW := Lib.hid hW
  have HG := Lib.hid (And.intro hG1 hB1)
  have HV1 := Lib.hid hV1
  have HP1 := Lib.hid hp1
  have HN := Lib.hid hN
  clear hV1 hG1 hB1 hW hp1 hN
  go_enter Try.func105, Try.ntmps105
  go_upto_region 1 with fail
  rw [← HP1.out, ← HV1.out]
  go_wp2_with fail
  go_loopw [5, 6] (fun y x wr => ∃ (k l : Nat) (a1 : Option Addr) (c1 : Nat), x = .int .i64 k ∧ k ≤ N ∧ l ≤ k ∧ y = .slice a1 l c1 ∧ (findL W k weak).length = l ∧ RowI wr (p1 + 1) (.slice a1 l c1) (findL W k weak) ∧ Blk wr p1 [.int .i64 B, .int .i64 Z, .slice ao n cap, .slice bo m cap2] 52 ∧ Below w.heap.size w wr) (fun _ x _ => N - (intOf x).toNat)
  case atStart => exact ⟨0, 0, none, 0, rfl, by omega, by omega, rfl, rfl, World.ownsRow_nil _ _ _ _, HG.out.1, HG.out.2⟩
  case round =>
    clear HG
    obtain ⟨k, l, a1, c1, rfl, hk, hlk, rfl, hl, hR, hG, hB⟩ := hrel
    have HL := Lib.hid hl
    have HR := Lib.hid hR
    have HG := Lib.hid hG
    have HB := Lib.hid hB
    have q0 := hG.cell (i := 0) rfl
    have q1 := hG.cell (i := 1) rfl
    have q2 := hG.cell (i := 2) rfl
    have hpl := hG.lt
    clear hl hR hG hB
    by_cases hlt : (k : Int) < (N : Int)
    · obtain ⟨bw, ow, y, rfl, hy, cy⟩ := (HW.out.next HB.out).one (k := k) (by omega)
      have hwy : wtOf W (k : Int) = y := by simp only [wtOf, Int.toNat_natCast]; rw [List.getD_eq_getElem?_getD, hy]; rfl
      have HWY := Lib.hid hwy
      clear hy hwy
      by_cases he : y = weak
      · have e1 : (y == weak) = true := by simpa using he
        have HE := Lib.hid he
        clear he
        have hIa : Hid (wr.ownsRow (p1 + 1) 3 1 (.slice a1 l c1) l ((findL W k weak).map (Value.int .i64))) := Lib.hid (by have := HR.out; unfold RowI at this; rw [HL.out] at this; exact this)
        go_wp2_with (at_builtin; refine wpList_append_own_at _ rfl _ _ 50 rfl (p1 + 1) 3 i0 (.int .i64 0) 1 8 Try.underlying50 hi hz0 hz1 hz2 rfl (by decide) _ l ((findL W k weak).map (Value.int .i64)) rfl (World.ownsRow.alloc hIa.out _) ⟨wr.heap.size, 0, none⟩ 1 1 [.int .i64 k] rfl rfl (cell1_new _ _ _) (one1 _ rfl) (by unfold maxLen; omega) (by omega) (by simp; omega) ?_)
        intro v5 w5 hO5 hg5 _ hrb
        obtain ⟨ao5, cap5, rfl⟩ := slice_of5 hO5
        have hws : w.heap.size ≤ p1 := by rw [HP1.out]; exact Nat.le_refl _
        have hB5 : Below w.heap.size w w5 := (bl_alloc' HB.out (.cells #[.int .i64 k] 3)).grown hg5 (bl_alloc' HB.out (.cells #[.int .i64 k] 3)).size (fun j e => by have := (World.ownsRow.lt hIa.out j e).1; omega)
        have hG5 := (HG.out.alloc (.cells #[.int .i64 k] 3)).grown hg5 (fun e => by have := (World.ownsRow.lt hIa.out p1 e.symm).1; omega)
        have hfe : findL W (k + 1) weak = findL W k weak ++ [(k : Int)] := by rw [findL_succ, if_pos (HWY.out.trans HE.out)]
        have hR5 : RowI w5 (p1 + 1) (.slice ao5 (l + 1) cap5) (findL W (k + 1) weak) := by
          rw [hfe]; refine RowI.snoc ?_; rw [HL.out]; exact hO5
        have hL5 : (findL W (k + 1) weak).length = l + 1 := by rw [hfe, List.length_append, HL.out]; rfl
        have HR5 := Lib.hid (And.intro hL5 (And.intro hR5 (And.intro hG5 hB5)))
        clear hR5 hB5 hO5 hg5 hrb hIa cy q0 q1 q2 hfe hL5 hG5
        go_wp2
        go_roundw
        case rel => exact ⟨k + 1, l + 1, _, _, by go_num, by omega, by omega, rfl, HR5.out.1, HR5.out.2.1, HR5.out.2.2.1, HR5.out.2.2.2⟩
        case measure => simp [intOf]; omega
      · have e1 : (y == weak) = false := by simpa using he
        have hfe : findL W (k + 1) weak = findL W k weak := by rw [findL_succ, if_neg (by rw [HWY.out]; exact he)]
        have HFE := Lib.hid hfe
        clear he hfe
        go_wp2
        go_roundw
        case rel => exact ⟨k + 1, l, _, _, by go_num, by omega, by omega, rfl, by rw [HFE.out]; exact HL.out, by rw [HFE.out]; exact HR.out, HG.out, HB.out⟩
        case measure => simp [intOf]; omega
    · have hkN : k = N := by omega
      subst hkN
      have hws : w.heap.size ≤ p1 + 1 := by rw [HP1.out]; omega
      go_wp2
      go_ret
      exact ⟨_, rfl, owns_mono HR.out hws, HB.out⟩

structure FinS (w wx : World) (pb pt B0 : Nat) (b z : Int) (v2 v3 vI vS kv pv : Value) (W : List Int) (T : List ByteArray) (L : List Int) : Prop where
  g : Blk wx pb [.int .i64 b, .int .i64 z, v2, v3] 52
  t : Tab B0 wx pt b z vI vS kv pv W T L
  bl : Below w.heap.size w wx
section
variable {w wx wy : World} {pb pt B0 : Nat} {b z : Int} {v2 v3 vI vS kv pv : Value} {W : List Int} {T : List ByteArray} {L : List Int}
theorem FinS.next (h : FinS w wx pb pt B0 b z v2 v3 vI vS kv pv W T L) (hb : Below wx.heap.size wx wy) : FinS w wy pb pt B0 b z v2 v3 vI vS kv pv W T L := ⟨h.g.belowB hb, h.t.next hb, bl_nx h.bl hb⟩
theorem FinS.drew (h : FinS w wx pb pt B0 b z v2 v3 vI vS kv pv W T L) : FinS w wx.drew pb pt B0 b z v2 v3 vI vS kv pv W T L := ⟨h.g, ⟨h.t.t, h.t.i, h.t.s, h.t.k, h.t.p, h.t.b0⟩, bl_drew h.bl⟩
theorem FinS.limbs (h : FinS w wx pb pt B0 b z v2 v3 vI vS kv pv W T L) : wx.cell? ⟨pb, 0, none⟩ = some (.int .i64 b) ∧ wx.cell? ⟨pb, 1, none⟩ = some (.int .i64 z) ∧ wx.cell? ⟨pb, 2, none⟩ = some v2 ∧ wx.cell? ⟨pb, 3, none⟩ = some v3 ∧ FinS w wx pb pt B0 b z v2 v3 vI vS kv pv W T L :=
  ⟨h.g.cell (i := 0) rfl, h.g.cell (i := 1) rfl, h.g.cell (i := 2) rfl, h.g.cell (i := 3) rfl, h⟩
end
end Go.Proofs.Ytgemhgllifhckaa.Sg
