/- sign.NewTable. Conditions: as named in each theorem. -/
import Derived.Test.YtfcfgkhdlpgbdaaTabBase
import Derived.Test.YtfcfgkhdlpgbdaaSignBytesA
import Derived.Deep.RegionHeld3
import Derived.Deep.Cut
namespace Go.Proofs.Ytfcfgkhdlpgbdaa
open Go.RowKit
set_option linter.unusedVariables false

/-- the places in their order -/
def plc (n : Nat) (f : Nat → Int) : List Int := (List.range n).map f
theorem plc_len (n : Nat) (f : Nat → Int) : (plc n f).length = n := by simp [plc]
theorem plc_row (n : Nat) (f : Nat → Int) : (plc n f).map (Value.int .i64) = rowL n f := by simp [plc, rowL, Function.comp_def]
theorem plc_succ (n : Nat) (f : Nat → Int) : plc (n + 1) f = plc n f ++ [f n] := by simp [plc, List.range_succ]
theorem plc_get {n : Nat} (f : Nat → Int) {i : Nat} (h : i < n) : (plc n f)[i]? = some (f i) := by
  unfold plc; rw [List.getElem?_map, List.getElem?_range h]; rfl
/-- a table lies at pt -/
structure Tab (B : Nat) (w : World) (pt : Nat) (b z : Int) (vI vS kv pv : Value) (W : List Int) (T : List ByteArray) (L : List Int) : Prop where
  t : Blk w pt [.int .i64 b, .int .i64 z, vI, vS, kv, pv] 88
  i : RowI w B vI W
  s : RowS w B vS T
  k : RowI w B kv (L.map (wtOf W))
  p : RowI w B pv L
  b0 : B ≤ pt
theorem Tab.next {B : Nat} {w w' : World} {pt : Nat} {b z : Int} {vI vS kv pv : Value} {W : List Int} {T : List ByteArray} {L : List Int} (h : Tab B w pt b z vI vS kv pv W T L) (hb : Below w.heap.size w w') : Tab B w' pt b z vI vS kv pv W T L :=
  ⟨h.t.belowB hb, owns_next h.i hb, owns_next h.s hb, owns_next h.k hb, owns_next h.p hb, h.b0⟩
theorem Tab.grown {B : Nat} {w w' : World} {pt : Nat} {b z : Int} {vI vS kv pv : Value} {W : List Int} {T : List ByteArray} {L : List Int} (h : Tab B w pt b z vI vS kv pv W T L) {m : Nat} (hg : w.grownBy w' (some m)) (hm : m < B) : Tab B w' pt b z vI vS kv pv W T L := by
  have h0 := h.b0
  refine ⟨h.t.grown hg (by simp; omega), World.ownsRow.kept h.i hg (.inr (owns_ne h.i hm)), World.ownsRow.kept h.s hg (.inr (owns_ne h.s hm)), World.ownsRow.kept h.k hg (.inr (owns_ne h.k hm)), World.ownsRow.kept h.p hg (.inr (owns_ne h.p hm)), h0⟩

structure TbR (w wr : World) (pb pt : Nat) (b z : Int) (v2 v3 vI vS kv pv : Value) (W : List Int) (T : List ByteArray) (K L : List Int) : Prop where
  g : Blk wr pb [.int .i64 b, .int .i64 z, v2, v3] 31
  t : Blk wr pt [.int .i64 b, .int .i64 z, vI, vS, kv, pv] 88
  i : RowI wr w.heap.size vI W
  s : RowS wr w.heap.size vS T
  k : RowI wr (pt + 1) kv K
  p : RowI wr (pt + 1) pv L
  ap : ApartR kv pv
  ni : ∀ j, vI.ownBlock = some j → pb < j ∧ j < pt
  ns : ∀ j, vS.ownBlock = some j → pb < j ∧ j < pt
  bl : Below w.heap.size w wr
  w0 : w.heap.size ≤ pb
  zr : pb < pt
section
variable {w wr : World} {pb pt : Nat} {b z : Int} {v2 v3 vI vS kv pv : Value} {W : List Int} {T : List ByteArray} {K L : List Int}
theorem TbR.drew (h : TbR w wr pb pt b z v2 v3 vI vS kv pv W T K L) : TbR w wr.drew pb pt b z v2 v3 vI vS kv pv W T K L :=
  ⟨h.g, h.t, h.i, h.s, h.k, h.p, h.ap, h.ni, h.ns, bl_drew h.bl, h.w0, h.zr⟩
theorem TbR.alloc (h : TbR w wr pb pt b z v2 v3 vI vS kv pv W T K L) (o : Obj) : TbR w (wr.alloc o) pb pt b z v2 v3 vI vS kv pv W T K L :=
  ⟨h.g.alloc _, h.t.alloc _, World.ownsRow.alloc h.i _, World.ownsRow.alloc h.s _, World.ownsRow.alloc h.k _, World.ownsRow.alloc h.p _, h.ap, h.ni, h.ns, bl_alloc h.bl _, h.w0, h.zr⟩
/-- what has not turned when only a row behind pt has grown -/
theorem TbR.far (h : TbR w wr pb pt b z v2 v3 vI vS kv pv W T K L) {w5 : World} {ro : Option Nat} (hg : wr.grownBy w5 ro) (hro : ∀ j, ro = some j → pt < j) :
    Blk w5 pb [.int .i64 b, .int .i64 z, v2, v3] 31 ∧ Blk w5 pt [.int .i64 b, .int .i64 z, vI, vS, kv, pv] 88 ∧ RowI w5 w.heap.size vI W ∧ RowS w5 w.heap.size vS T ∧ Below w.heap.size w w5 := by
  have h1 := h.w0; have h2 := h.zr
  have far : ∀ q, q ≤ pt → some q ≠ ro := fun q hq e => by have := hro q e.symm; omega
  refine ⟨h.g.grown hg (far pb (by omega)), h.t.grown hg (far pt (Nat.le_refl _)), World.ownsRow.kept h.i hg ?_, World.ownsRow.kept h.s hg ?_, h.bl.grown hg h.bl.size (fun j e => by have := hro j e; omega)⟩
  · cases hv : vI.ownBlock with
    | none => exact .inl rfl
    | some j => exact .inr (far j (by have := h.ni j hv; omega))
  · cases hv : vS.ownBlock with
    | none => exact .inl rfl
    | some j => exact .inr (far j (by have := h.ns j hv; omega))
theorem TbR.place (h : TbR w wr pb pt b z v2 v3 vI vS kv pv W T K L) {w5 : World} {v5 : Value} {x : Int} (ho : w5.ownsRow (pt + 1) 3 1 v5 (L.length + 1) (L.map (Value.int .i64) ++ [.int .i64 x]))
    (hg : wr.grownBy w5 pv.ownBlock) (hb : v5.ownBlock = pv.ownBlock ∨ ∃ q, kv.ownBlock ≠ some q ∧ v5.ownBlock = some q) : TbR w (w5.setCell ⟨pt, 5, none⟩ v5) pb pt b z v2 v3 vI vS kv v5 W T K (L ++ [x]) := by
  have h1 := h.w0; have h2 := h.zr
  have hgs : w5.grownBy (w5.setCell ⟨pt, 5, none⟩ v5) (some pt) := grown_set (grown_refl _ _) 5 _
  obtain ⟨f1, f2, f3, f4, f5⟩ := h.far hg (fun j e => by have := (World.ownsRow.lt h.p j e).1; omega)
  refine ⟨f1.setOther (by simp; omega) v5, f2.set 5 v5, World.ownsRow.kept f3 hgs (.inr fun e => by have := h.ni pt e; omega), World.ownsRow.kept f4 hgs (.inr fun e => by have := h.ns pt e; omega), World.ownsRow.kept (World.ownsRow.kept h.k hg (own_ne (fun j hj e => h.ap j e hj))) hgs (.inr fun e => by have := (World.ownsRow.lt h.k pt e).1; omega), RowI.snoc (World.ownsRow.kept ho hgs (.inr fun e => by have := (World.ownsRow.lt ho pt e).1; omega)), ?_, h.ni, h.ns, bl_grow f5 hgs (by omega), h1, h2⟩
  intro j hj e
  rcases hb with hb | ⟨q, hq, hb⟩
  · rw [hb] at e; exact h.ap j hj e
  · rw [hb] at e; simp only [Option.some.injEq] at e; subst e; exact hq hj
theorem TbR.weak (h : TbR w wr pb pt b z v2 v3 vI vS kv pv W T K L) {w5 : World} {v5 : Value} {x : Int} (ho : w5.ownsRow (pt + 1) 3 1 v5 (K.length + 1) (K.map (Value.int .i64) ++ [.int .i64 x]))
    (hg : wr.grownBy w5 kv.ownBlock) (hb : v5.ownBlock = kv.ownBlock ∨ ∃ q, pv.ownBlock ≠ some q ∧ v5.ownBlock = some q) : TbR w (w5.setCell ⟨pt, 4, none⟩ v5) pb pt b z v2 v3 vI vS v5 pv W T (K ++ [x]) L := by
  have h1 := h.w0; have h2 := h.zr
  have hgs : w5.grownBy (w5.setCell ⟨pt, 4, none⟩ v5) (some pt) := grown_set (grown_refl _ _) 4 _
  obtain ⟨f1, f2, f3, f4, f5⟩ := h.far hg (fun j e => by have := (World.ownsRow.lt h.k j e).1; omega)
  refine ⟨f1.setOther (by simp; omega) v5, f2.set 4 v5, World.ownsRow.kept f3 hgs (.inr fun e => by have := h.ni pt e; omega), World.ownsRow.kept f4 hgs (.inr fun e => by have := h.ns pt e; omega), RowI.snoc (World.ownsRow.kept ho hgs (.inr fun e => by have := (World.ownsRow.lt ho pt e).1; omega)), World.ownsRow.kept (World.ownsRow.kept h.p hg (own_ne h.ap)) hgs (.inr fun e => by have := (World.ownsRow.lt h.p pt e).1; omega), ?_, h.ni, h.ns, bl_grow f5 hgs (by omega), h1, h2⟩
  intro j hj e
  rcases hb with hb | ⟨q, hq, hb⟩
  · exact h.ap j (by rw [← hb]; exact hj) e
  · rw [hb] at hj; simp only [Option.some.injEq] at hj; subst hj; exact hq e
theorem TbR.sorted (h : TbR w wr pb pt b z v2 v3 vI vS kv pv W T K L) {w5 : World} {L' : List Int} (ho : RowI w5 (pt + 1) pv L') (hg : wr.grownBy w5 pv.ownBlock) : TbR w w5 pb pt b z v2 v3 vI vS kv pv W T K L' := by
  obtain ⟨f1, f2, f3, f4, f5⟩ := h.far hg (fun j e => by have := (World.ownsRow.lt h.p j e).1; omega)
  exact ⟨f1, f2, f3, f4, World.ownsRow.kept h.k hg (own_ne (fun j hj e => h.ap j e hj)), ho, h.ap, h.ni, h.ns, f5, h.w0, h.zr⟩
end
theorem slice_ofI {w : World} {base : Nat} {v : Value} {l : List Int} (h : RowI w base v l) : ∃ ao cap, v = .slice ao l.length cap := owns_slice h
/-- the sort of the table's places -/
theorem tab_sort {w wr : World} {pb pt : Nat} {b z : Int} {ao : Option Addr} {n cap : Nat} {v3 vI vS kv : Value} {a1 : Option Addr} {N c1 : Nat} {W : List Int} {T : List ByteArray} {K : List Int}
    (h : TbR w wr pb pt b z (.slice ao n cap) v3 vI vS kv (.slice a1 N c1) W T K (plc N (fun i => (i : Int)))) (hW : Rs w ao n cap 1 W (fun x => [.int .i64 x])) (hbd : ∀ v ∈ W, 0 ≤ v ∧ v ≤ 4294967295) (hN : N ≤ n) (hn : n ≤ 1000000) :
    Calls Try.prog 68 #[.slice a1 N c1, .func (.func 69) #[] #[.pointer (some ⟨pb, 0, none⟩)]] wr fun e w' => (∃ r, e = .returned r) ∧ ∃ f, TbR w w' pb pt b z (.slice ao n cap) v3 vI vS kv (.slice a1 N c1) W T K (plc N f) ∧ Srt (wtOf W) f 0 N ∧ InB f 0 N := by
  have hp := h.p
  unfold RowI at hp
  rw [plc_len, plc_row] at hp
  have hp2 := hp
  obtain ⟨-, ⟨h1, h0⟩ | ⟨g, c2, cur, h1, -⟩⟩ := hp
  · injection h1 with h1 h2 h3
    subst h0 h1 h3
    refine (sortStable_nil wr _).mono ?_
    rintro e w' ⟨hr, rfl⟩
    exact ⟨hr, fun i => (i : Int), h, fun i j _ _ hj => by omega, fun i _ hi => by omega, fun v _ hv => by omega⟩
  · injection h1 with h1 h2 h3
    subst h1 h3
    obtain ⟨R, hR, hc, hg, hm⟩ := own_rw hp2
    have hgo : (Value.slice (some ⟨g, 0, none⟩) N c1).ownBlock = some g := rfl
    have hC : Cp pb g n (wtOf W) wr := by
      intro w2 hg2 x y D hx hx2 hy hy2 hD
      obtain ⟨f1, -, -, -, f5⟩ := h.far (ro := some g) hg2 (fun j e => by injection e with e; omega)
      exact less_any w2 pb b z ao n cap v3 W x y D f1 (hW.next f5) hbd hx hx2 hy hy2 hD
    refine (sortStable_any wr pb g N c1 n (wtOf W) hR hC hN (by omega)).mono ?_
    rintro e w' ⟨hr, f, hR2, hS, hI, hG⟩
    refine ⟨hr, f, h.sorted ?_ hG, hS, hI⟩
    unfold RowI
    rw [plc_len, plc_row]
    exact rw_own hR2 hc hg hm
end Go.Proofs.Ytfcfgkhdlpgbdaa
