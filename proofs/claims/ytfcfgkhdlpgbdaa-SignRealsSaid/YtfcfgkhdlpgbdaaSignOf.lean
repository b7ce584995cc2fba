/- The signature that bytes are: the plain law; what the walk holds. Conditions: as named in each theorem. -/
import Derived.Test.YtfcfgkhdlpgbdaaRefRead2
import Derived.Test.YtfcfgkhdlpgbdaaSignFacts
namespace Go.Proofs.Ytfcfgkhdlpgbdaa
open Go.RowKit
set_option linter.unusedVariables false

/-- so many of one kind, one behind the other, up to the first error -/
def rdMany {α : Type} (f : RSt → α × RSt) : Nat → RSt → List α × RSt
  | 0, z => ([], z)
  | n + 1, z => if (f z).2.2 = 0 then ((f z).1 :: (rdMany f n (f z).2).1, (rdMany f n (f z).2).2) else ([], (f z).2)
theorem rdMany_len {α : Type} (f : RSt → α × RSt) : ∀ n z, (rdMany f n z).1.length ≤ n := by
  intro n
  induction n with
  | zero => intro z; simp [rdMany]
  | succ n ih =>
    intro z
    rw [rdMany]
    split
    · simp only [List.length_cons]; have := ih (f z).2; omega
    · simp
theorem rdMany_full {α : Type} (f : RSt → α × RSt) : ∀ n z, z.2 = 0 → (rdMany f n z).2.2 = 0 → (rdMany f n z).1.length = n := by
  intro n
  induction n with
  | zero => intro z _ _; simp [rdMany]
  | succ n ih =>
    intro z h0 h
    rw [rdMany] at h ⊢
    split at h
    · rename_i h1
      rw [if_pos h1]
      simp only [List.length_cons]
      rw [ih _ h1 h]
    · rename_i h1; exact absurd h h1
def cntI (z : RSt) : Int × RSt := (((stCount 4294967295 z).1 : Nat), (stCount 4294967295 z).2)
def rawB (z : RSt) : ByteArray × RSt := (mkB (stRaw 32 z).1, (stRaw 32 z).2)
abbrev SgP := Nat × Nat × List Int × List ByteArray × Nat
def sgBad (e : Nat) : SgP := (0, 0, [], [], e)
def sgOfT (b z : Nat) (W : List Int) (T : List ByteArray × RSt) : SgP := if T.2.2 = 0 then (if (stEnd T.2).2 = 0 then (b, z, W, T.1, 0) else sgBad (stEnd T.2).2) else sgBad T.2.2
def sgOfW (b z n : Nat) (W : List Int × RSt) : SgP := if W.2.2 = 0 then sgOfT b z W.1 (rdMany rawB n W.2) else sgBad W.2.2
/-- the signature that bytes are, and the error -/
def sgOfP (l : List UInt8) : SgP :=
  if (stNum (stNum (l, 0)).2).2.2 = 0 then (if 16 ≤ (stNum (l, 0)).1 ∧ (stNum (l, 0)).1 ≤ 1024 ∧ (stNum (stNum (l, 0)).2).1 ≤ 524288 then sgOfW (stNum (l, 0)).1 (stNum (stNum (l, 0)).2).1 (cnt (stNum (stNum (l, 0)).2).1 (stNum (l, 0)).1) (rdMany cntI (cnt (stNum (stNum (l, 0)).2).1 (stNum (l, 0)).1) (stNum (stNum (l, 0)).2).2) else sgBad 5) else sgBad (stNum (stNum (l, 0)).2).2.2

theorem sgOfP_len (l : List UInt8) : (sgOfP l).2.2.1.length ≤ 1000000 ∧ (sgOfP l).2.2.2.1.length ≤ 1000000 := by
  unfold sgOfP
  split
  · split
    · rename_i h
      have hn : cnt (stNum (stNum (l, 0)).2).1 (stNum (l, 0)).1 ≤ 524288 := Nat.le_trans (cnt_le (by omega)) h.2.2
      unfold sgOfW
      split
      · unfold sgOfT
        split
        · split
          · exact ⟨Nat.le_trans (rdMany_len _ _ _) (by omega), Nat.le_trans (rdMany_len _ _ _) (by omega)⟩
          · simp [sgBad]
        · simp [sgBad]
      · simp [sgBad]
    · simp [sgBad]
  · simp [sgBad]
structure OfR (T : TypeId) (w wr : World) (pz pr pg : Nat) (s : ByteArray) (b z : Int) (wv sv : Value) (LI : List Int) (LS : List ByteArray) (st : RSt) : Prop where
  zb : Blk wr pz sigZ 31
  g : Blk wr pg [.int .i64 b, .int .i64 z, wv, sv] 31
  r : RdB T wr pr s st
  i : RowI wr (pg + 1) wv LI
  s : RowS wr (pg + 1) sv LS
  ap : ApartR wv sv
  bl : Below w.heap.size w wr
  w0 : w.heap.size ≤ pz
  zr : pz < pr
  rg : pr < pg
section
variable {T : TypeId} {w wr : World} {pz pr pg : Nat} {s : ByteArray} {b z : Int} {wv sv : Value} {LI : List Int} {LS : List ByteArray} {st : RSt}
theorem OfR.drew (h : OfR T w wr pz pr pg s b z wv sv LI LS st) : OfR T w wr.drew pz pr pg s b z wv sv LI LS st :=
  ⟨h.zb, h.g, h.r.grown (grown_drew (grown_refl wr none)) (by simp), h.i, h.s, h.ap, bl_drew h.bl, h.w0, h.zr, h.rg⟩
theorem OfR.alloc (h : OfR T w wr pz pr pg s b z wv sv LI LS st) (o : Obj) : OfR T w (wr.alloc o) pz pr pg s b z wv sv LI LS st :=
  ⟨h.zb.alloc _, h.g.alloc _, h.r.grown (World.grownBy_alloc wr o none) (by simp), World.ownsRow.alloc h.i _, World.ownsRow.alloc h.s _, h.ap, bl_alloc h.bl _, h.w0, h.zr, h.rg⟩
theorem OfR.read (h : OfR T w wr pz pr pg s b z wv sv LI LS st) {w' : World} {st' : RSt} (hr : RdB T w' pr s st') (hg : wr.grownBy w' (some pr)) : OfR T w w' pz pr pg s b z wv sv LI LS st' := by
  have h1 := h.w0; have h2 := h.zr; have h3 := h.rg
  exact ⟨h.zb.grown hg (by simp; omega), h.g.grown hg (by simp; omega), hr, World.ownsRow.kept h.i hg (.inr fun e => by have := (World.ownsRow.lt h.i pr e).1; omega), World.ownsRow.kept h.s hg (.inr fun e => by have := (World.ownsRow.lt h.s pr e).1; omega), h.ap, bl_grow h.bl hg (by omega), h1, h2, h3⟩
theorem OfR.weak (h : OfR T w wr pz pr pg s b z wv sv LI LS st) {w5 : World} {v5 : Value} {x : Int} (ho : w5.ownsRow (pg + 1) 3 1 v5 (LI.length + 1) (LI.map (Value.int .i64) ++ [.int .i64 x]))
    (hg : wr.grownBy w5 wv.ownBlock) (hb : v5.ownBlock = wv.ownBlock ∨ ∃ q, sv.ownBlock ≠ some q ∧ v5.ownBlock = some q) : OfR T w (w5.setCell ⟨pg, 2, none⟩ v5) pz pr pg s b z v5 sv (LI ++ [x]) LS st := by
  have h1 := h.w0; have h2 := h.zr; have h3 := h.rg
  have hgs : w5.grownBy (w5.setCell ⟨pg, 2, none⟩ v5) (some pg) := grown_set (grown_refl _ _) 2 _
  have far : ∀ q, q ≤ pg → some q ≠ wv.ownBlock := fun q hq e => by have := (World.ownsRow.lt h.i q e.symm).1; omega
  have hbl : Below w.heap.size w w5 := h.bl.grown hg h.bl.size (fun j e => by have := (World.ownsRow.lt h.i j e).1; omega)
  refine ⟨(h.zb.grown hg (far pz (by omega))).setOther (by simp; omega) v5, (h.g.grown hg (far pg (by omega))).set 2 v5, (h.r.grown hg (far pr (by omega))).grown hgs (by simp; omega), RowI.snoc (World.ownsRow.kept ho hgs ?_), World.ownsRow.kept (World.ownsRow.kept h.s hg (own_ne h.ap)) hgs ?_, ?_, bl_grow hbl hgs (by omega), h1, h2, h3⟩
  · exact .inr fun e => by have := (World.ownsRow.lt ho pg e).1; omega
  · exact .inr fun e => by have := (World.ownsRow.lt h.s pg e).1; omega
  · intro j hj e
    rcases hb with hb | ⟨q, hq, hb⟩
    · exact h.ap j (by rw [← hb]; exact hj) e
    · rw [hb] at hj; simp only [Option.some.injEq] at hj; subst hj; exact hq e
theorem OfR.strong (h : OfR T w wr pz pr pg s b z wv sv LI LS st) {w5 : World} {v5 : Value} {x : ByteArray} (ho : w5.ownsRow (pg + 1) 9 1 v5 (LS.length + 1) (LS.map Value.string ++ [.string x]))
    (hg : wr.grownBy w5 sv.ownBlock) (hb : v5.ownBlock = sv.ownBlock ∨ ∃ q, wv.ownBlock ≠ some q ∧ v5.ownBlock = some q) : OfR T w (w5.setCell ⟨pg, 3, none⟩ v5) pz pr pg s b z wv v5 LI (LS ++ [x]) st := by
  have h1 := h.w0; have h2 := h.zr; have h3 := h.rg
  have hgs : w5.grownBy (w5.setCell ⟨pg, 3, none⟩ v5) (some pg) := grown_set (grown_refl _ _) 3 _
  have far : ∀ q, q ≤ pg → some q ≠ sv.ownBlock := fun q hq e => by have := (World.ownsRow.lt h.s q e.symm).1; omega
  have hbl : Below w.heap.size w w5 := h.bl.grown hg h.bl.size (fun j e => by have := (World.ownsRow.lt h.s j e).1; omega)
  refine ⟨(h.zb.grown hg (far pz (by omega))).setOther (by simp; omega) v5, (h.g.grown hg (far pg (by omega))).set 3 v5, (h.r.grown hg (far pr (by omega))).grown hgs (by simp; omega), World.ownsRow.kept (World.ownsRow.kept h.i hg (own_ne (fun j hj e => h.ap j e hj))) hgs ?_, RowS.snoc (World.ownsRow.kept ho hgs ?_), ?_, bl_grow hbl hgs (by omega), h1, h2, h3⟩
  · exact .inr fun e => by have := (World.ownsRow.lt h.i pg e).1; omega
  · exact .inr fun e => by have := (World.ownsRow.lt ho pg e).1; omega
  · intro j hj e
    rcases hb with hb | ⟨q, hq, hb⟩
    · rw [hb] at e; exact h.ap j hj e
    · rw [hb] at e; simp only [Option.some.injEq] at e; subst e; exact hq hj
end
/-- what Of answers: the signature that the plain law says, in rows; and the error -/
def SgAns (P : SgP) (w : World) (e : Ending) (w' : World) : Prop := ∃ ao cap bo cap2, e = .returned (.tuple #[.agg #[.int .i64 (P.1 : Nat), .int .i64 (P.2.1 : Nat), .slice ao P.2.2.1.length cap, .slice bo P.2.2.2.1.length cap2], .int .i64 (P.2.2.2.2 : Nat)]) ∧
  Rs w' ao P.2.2.1.length cap 1 P.2.2.1 (fun x => [.int .i64 x]) ∧ Rs w' bo P.2.2.2.1.length cap2 1 P.2.2.2.1 (fun x => [.string x]) ∧ Below w.heap.size w w'
theorem SgAns.bad {er : Nat} {w w' : World} (h : Below w.heap.size w w') : SgAns (sgBad er) w (.returned (.tuple #[.agg #[.int .i64 0, .int .i64 0, .slice none 0 0, .slice none 0 0], .int .i64 (er : Nat)])) w' :=
  ⟨none, 0, none, 0, rfl, rs_nil _ _, rs_nil _ _, h⟩
end Go.Proofs.Ytfcfgkhdlpgbdaa
