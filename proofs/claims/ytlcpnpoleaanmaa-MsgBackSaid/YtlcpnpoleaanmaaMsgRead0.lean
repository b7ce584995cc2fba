/- What the program's reading of a message holds. Conditions: as named in each theorem. -/
import Derived.Test.YtlcpnpoleaanmaaCodeRead2
import Derived.Test.YtlcpnpoleaanmaaMsgClean
import Derived.Maps.AppendAt
namespace Go.Proofs.Ytlcpnpoleaanmaa
open Go.RowKit
set_option linter.unusedVariables false

theorem rdNum_bad : ∀ (l : List UInt8) (i acc : Nat), (rdNum i acc l).2.2 ≠ 0 → (rdNum i acc l).1 = 0 := by
  intro l
  induction l with
  | nil => intro i acc _; rfl
  | cons c l ih =>
    intro i acc h
    rw [rdNum] at h ⊢
    split
    · rfl
    · rename_i h1
      rw [if_neg h1] at h
      split
      · rename_i h2; rw [if_pos h2] at h; exact absurd rfl h
      · rename_i h2; rw [if_neg h2] at h; exact ih _ _ h
theorem stNum_bad {z : RSt} (h : (stNum z).2.2 ≠ 0) : (stNum z).1 = 0 := by
  by_cases h0 : z.2 = 0
  · obtain ⟨l, e⟩ := z
    simp only at h0
    subst h0
    rw [stNum_ok] at h ⊢
    exact rdNum_bad l 0 0 h
  · rw [stNum_err h0]
theorem stCount_bd (most : Nat) (z : RSt) : (stCount most z).1 ≤ most := by
  by_cases h : (stCount most z).2.2 = 0
  · exact stCount_le most z h
  · unfold stCount at h ⊢
    split
    · simp
    · rename_i h2
      rw [if_neg h2] at h
      rw [stNum_bad h]; omega
set_option maxRecDepth 100000 in
theorem text_rd (w : World) (p : Nat) (s : ByteArray) (z : RSt) (most : Nat) (hmost : most ≤ 1000000000) (hs : s.size ≤ 1000000000) (h : RdB 92 w p s z) :
    Calls Try.prog 61 #[.pointer (some ⟨p, 0, none⟩), .int .i64 most] w fun e w' => e = .returned (.string (mkB (stText most z).1)) ∧ RdB 92 w' p s (stText most z).2 ∧ w.grownBy w' (some p) := by
  obtain ⟨Q, hQ⟩ : ∃ Q, Q = stCount most z := ⟨_, rfl⟩
  have HC := Lib.hid (count_rd w p s z most (by omega) hs h)
  have hb := stCount_bd most z
  have ht : stText most z = stRaw Q.1 Q.2 := by rw [hQ]; rfl
  rw [← hQ] at HC hb
  rw [ht]
  clear hQ ht
  go_enter Try.func61, Try.ntmps61
  go_wp2_with fail
  refine HC.out.mono ?_
  rintro e w2 ⟨rfl, hr2, hg2⟩
  have HR := Lib.hid (raw_rd w2 p s Q.2 Q.1 (by omega) hs hr2)
  have HG := Lib.hid hg2
  clear hr2 hg2 HC
  go_wp2_with fail
  refine HR.out.mono ?_
  rintro e w3 ⟨rfl, hr3, hg3⟩
  have HF := Lib.hid (And.intro hr3 (grown_trans HG.out hg3))
  clear hr3 hg3 HR
  go_wp2
  go_ret
  exact ⟨rfl, HF.out.1, HF.out.2⟩

/-- the state of the reading: what goes out, the message so far, the reader, the letters, the list's row -/
structure MrS (w wr : World) (pz pr pg L : Nat) (o : Obj) (s : ByteArray) (m : Mg) (v : Value) (z : RSt) : Prop where
  zb : Blk wr pz mgZ 26
  g : Blk wr pg (mgC m v) 26
  r : RdB 92 wr pr s z
  i : wr.ownsRow (L + 1) 55 3 v m.list.length (m.list.flatMap enC)
  lt : wr.heap[L]? = some o
  gr : w.grownBy wr (some pr)
  o1 : pr < w.heap.size
  o2 : w.heap.size ≤ pz
  o3 : pz < pg
  o4 : pg < L
section
variable {w wr : World} {pz pr pg L : Nat} {o : Obj} {s : ByteArray} {m : Mg} {v : Value} {z : RSt}
theorem MrS.drew (h : MrS w wr pz pr pg L o s m v z) : MrS w wr.drew pz pr pg L o s m v z :=
  ⟨h.zb, h.g, h.r.grown (grown_drew (grown_refl wr none)) (by simp), h.i, h.lt, grown_drew h.gr, h.o1, h.o2, h.o3, h.o4⟩
theorem MrS.alloc (h : MrS w wr pz pr pg L o s m v z) (ob : Obj) : MrS w (wr.alloc ob) pz pr pg L o s m v z :=
  ⟨h.zb.alloc _, h.g.alloc _, h.r.grown (World.grownBy_alloc wr ob none) (by simp), World.ownsRow.alloc h.i _, by
    have := (World.grownBy_alloc wr ob none).block L (Array.getElem?_eq_some_iff.1 h.lt).1 (by simp)
    rw [this]; exact h.lt, grown_alloc h.gr _, h.o1, h.o2, h.o3, h.o4⟩
theorem MrS.read (h : MrS w wr pz pr pg L o s m v z) {w' : World} {z' : RSt} (hr : RdB 92 w' pr s z') (hg : wr.grownBy w' (some pr)) : MrS w w' pz pr pg L o s m v z' := by
  have h1 := h.o1; have h2 := h.o2; have h3 := h.o3; have h4 := h.o4
  exact ⟨h.zb.grown hg (by simp; omega), h.g.grown hg (by simp; omega), hr, World.ownsRow.kept h.i hg (.inr fun e => by have := (World.ownsRow.lt h.i pr e).1; omega),
    by rw [hg.block L (Array.getElem?_eq_some_iff.1 h.lt).1 (by simp; omega)]; exact h.lt, grown_trans h.gr hg, h1, h2, h3, h4⟩
/-- a store to the message's block -/
theorem MrS.put (h : MrS w wr pz pr pg L o s m v z) {w' : World} {m' : Mg} (hk : wr.grownBy w' (some pg)) (hp : Blk w' pg (mgC m' v) 26) (hl : m'.list = m.list) : MrS w w' pz pr pg L o s m' v z := by
  have h1 := h.o1; have h2 := h.o2; have h3 := h.o3; have h4 := h.o4
  refine ⟨h.zb.grown hk (by simp; omega), hp, h.r.grown hk (by simp; omega), by rw [hl]; exact World.ownsRow.kept h.i hk (.inr fun e => by have := (World.ownsRow.lt h.i pg e).1; omega), by rw [hk.block L (Array.getElem?_eq_some_iff.1 h.lt).1 (by simp; omega)]; exact h.lt, ?_, h1, h2, h3, h4⟩
  refine ⟨hk.os.trans h.gr.os, hk.tape.trans h.gr.tape, hk.output.trans h.gr.output, Nat.le_trans h.gr.size hk.size, fun k hk1 hk2 => ?_⟩
  rw [hk.block k (Nat.lt_of_lt_of_le hk1 h.gr.size) (by simp; omega)]
  exact h.gr.block k hk1 hk2
/-- an entry appended and stored -/
theorem MrS.app (h : MrS w wr pz pr pg L o s m v z) {w5 : World} {v5 : Value} {x : En} (ho : w5.ownsRow (L + 1) 55 3 v5 (m.list.length + 1) (m.list.flatMap enC ++ enC x)) (hg : wr.grownBy w5 v.ownBlock) :
    MrS w (w5.setCell ⟨pg, 13, none⟩ v5) pz pr pg L o s { m with list := m.list ++ [x] } v5 z := by
  have h1 := h.o1; have h2 := h.o2; have h3 := h.o3; have h4 := h.o4
  have hgs : w5.grownBy (w5.setCell ⟨pg, 13, none⟩ v5) (some pg) := grown_set (grown_refl _ _) 13 _
  have far : ∀ q, q ≤ L → some q ≠ v.ownBlock := fun q hq e => by have := (World.ownsRow.lt h.i q e.symm).1; omega
  have hL := (Array.getElem?_eq_some_iff.1 h.lt).1
  refine ⟨(h.zb.grown hg (far pz (by omega))).setOther (by simp; omega) v5, (h.g.grown hg (far pg (by omega))).set 13 v5, (h.r.grown hg (far pr (by omega))).grown hgs (by simp; omega), ?_, ?_, ?_, h1, h2, h3, h4⟩
  · have e1 : ({ m with list := m.list ++ [x] } : Mg).list.length = m.list.length + 1 := by simp
    have e2 : ({ m with list := m.list ++ [x] } : Mg).list.flatMap enC = m.list.flatMap enC ++ enC x := by simp
    rw [e1, e2]
    exact World.ownsRow.kept ho hgs (.inr fun e => by have := (World.ownsRow.lt ho pg e).1; omega)
  · rw [hgs.block L (Nat.lt_of_lt_of_le hL hg.size) (by simp; omega), hg.block L hL (far L (by omega))]; exact h.lt
  · refine ⟨hgs.os.trans (hg.os.trans h.gr.os), hgs.tape.trans (hg.tape.trans h.gr.tape), hgs.output.trans (hg.output.trans h.gr.output), Nat.le_trans h.gr.size (Nat.le_trans hg.size hgs.size), fun k hk1 hk2 => ?_⟩
    have hkw := Nat.lt_of_lt_of_le hk1 h.gr.size
    rw [hgs.block k (Nat.lt_of_lt_of_le hkw hg.size) (by simp; omega), hg.block k hkw (far k (by omega))]
    exact h.gr.block k hk1 hk2
end
end Go.Proofs.Ytlcpnpoleaanmaa
