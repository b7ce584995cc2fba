/- delta's maker in memory. Conditions: as named in each theorem. -/
import Derived.Test.YtabdmcgfiabaoaaOffRow
import Derived.Test.YtabdmcgfiabaoaaDlCore
import Derived.Test.YtabdmcgfiabaoaaCodeRead
import Derived.Test.YtabdmcgfiabaoaaStepAppend
import Derived.Deep.DeepCutAuto
namespace Go.Proofs.Ytabdmcgfiabaoaa
open Go.RowKit
set_option linter.unusedVariables false
set_option linter.unusedSimpArgs false
theorem makerZ_run (w : World) : (zeroValue 97).run Try.prog w = .ok (.agg #[.slice none 0 0, .slice none 0 0]) w := by kernel_rfl
/-- a maker at pk: steps and bytes, their memory from the block B on -/
structure Mk (w : World) (pk B : Nat) (L : List St) (t : List UInt8) (sv tv : Value) : Prop where
  b : Blk w pk [sv, tv] 97
  s : Own w B sv L
  t : OffB w B tv t
  ap : ∀ k, sv.ownBlock = some k → tv.ownBlock ≠ some k
  pB : pk < B
  hB : B ≤ w.heap.size
def MkT (pk B k : Nat) : Prop := k = pk ∨ B ≤ k
section
variable {w w' : World} {pk B : Nat} {L : List St} {t : List UInt8} {sv tv : Value}
theorem Mk.next (h : Mk w pk B L t sv tv) (hb : Below w.heap.size w w') : Mk w' pk B L t sv tv :=
  ⟨h.b.below hb h.b.lt, h.s.below hb, h.t.next hb, h.ap, h.pB, Nat.le_trans h.hB hb.size⟩
theorem Mk.far (h : Mk w pk B L t sv tv) {row : Option Nat} (hg : w.grownBy w' row) (hr : ∀ k, row = some k → k < B ∧ k ≠ pk) : Mk w' pk B L t sv tv := by
  refine ⟨h.b.grown hg (fun e => (hr pk e.symm).2 rfl), ?_, h.t.grown hg (fun k hk e => by have := (h.t.own k e).1; have := (hr k hk).1; omega), h.ap, h.pB, Nat.le_trans h.hB hg.size⟩
  refine World.ownsRow.kept h.s hg ?_
  cases hv : sv.ownBlock with
  | none => exact .inl rfl
  | some j => exact .inr fun e => by have := (World.ownsRow.lt h.s j hv).1; have := (hr j e.symm).1; omega
/-- more steps -/
theorem Mk.steps (h : Mk w pk B L t sv tv) {w5 : World} {sv' : Value} {x : St} (ho : w5.ownsRow B 55 3 sv' (L.length + 1) (L.flatMap St.c ++ x.c)) (hg : w.grownBy w5 sv.ownBlock) (hrb : sv'.ownBlock = sv.ownBlock ∨ ∃ k, sv'.ownBlock = some k ∧ w.heap.size ≤ k) :
    Mk (w5.setCell ⟨pk, 0, none⟩ sv') pk B (L ++ [x]) t sv' tv ∧ Kept (MkT pk B) w (w5.setCell ⟨pk, 0, none⟩ sv') ∧ w5.cell? ⟨pk, 0, none⟩ = some sv ∧ w5.frozen? ⟨pk, 0, none⟩ = false := by
  have h1 := h.pB
  have far : ∀ k, sv.ownBlock = some k → B ≤ k := fun k hk => (World.ownsRow.lt h.s k hk).1
  have hgs : w5.grownBy (w5.setCell ⟨pk, 0, none⟩ sv') (some pk) := grown_set (grown_refl _ _) 0 _
  have hb5 := h.b.grown hg (fun e => by have := far pk e.symm; omega)
  have hO5 : Own w5 B sv' (L ++ [x]) := Own.snoc ho
  refine ⟨⟨hb5.set 0 sv', World.ownsRow.kept hO5 hgs (.inr fun e => by have := (World.ownsRow.lt ho pk e).1; omega), ?_, fun k hk => ?_, h1, Nat.le_trans h.hB (Nat.le_trans hg.size hgs.size)⟩, ?_, hb5.cell (i := 0) rfl, hb5.frozen 0⟩
  · exact (h.t.grown hg (fun k hk e => h.ap k hk e)).grown hgs (fun k hk e => by injection hk with hk; have := (h.t.own k e).1; omega)
  · rcases hrb with e | ⟨j, e, hj⟩
    · exact h.ap k (e ▸ hk)
    · intro e2
      have := (h.t.own k e2).2
      rw [e] at hk
      injection hk with hk
      omega
  · refine ⟨hgs.os.trans hg.os, hgs.tape.trans hg.tape, hgs.output.trans hg.output, Nat.le_trans hg.size hgs.size, fun k hk hn => ?_⟩
    have hk1 : ¬ k = pk := fun e => hn (.inl e)
    have hk2 : ¬ B ≤ k := fun e => hn (.inr e)
    rw [hgs.block k (Nat.lt_of_lt_of_le hk hg.size) (fun e => by injection e with e; exact hk1 e), hg.block k hk (fun e => hk2 (far k e.symm))]
/-- other bytes -/
theorem Mk.bytes (h : Mk w pk B L t sv tv) {w5 : World} {tv' : Value} {t' : List UInt8} (ho : OffB w5 B tv' t') (hg : w.grownBy w5 tv.ownBlock) (hrb : tv'.ownBlock = none ∨ tv'.ownBlock = tv.ownBlock ∨ ∃ k, tv'.ownBlock = some k ∧ w.heap.size ≤ k) :
    Mk (w5.setCell ⟨pk, 1, none⟩ tv') pk B L t' sv tv' ∧ Kept (MkT pk B) w (w5.setCell ⟨pk, 1, none⟩ tv') ∧ w5.cell? ⟨pk, 1, none⟩ = some tv ∧ w5.frozen? ⟨pk, 1, none⟩ = false := by
  have h1 := h.pB
  have far : ∀ k, tv.ownBlock = some k → B ≤ k := fun k hk => (h.t.own k hk).1
  have hgs : w5.grownBy (w5.setCell ⟨pk, 1, none⟩ tv') (some pk) := grown_set (grown_refl _ _) 1 _
  have hb5 := h.b.grown hg (fun e => by have := far pk e.symm; omega)
  have hs5 : Own w5 B sv L := World.ownsRow.kept h.s hg (by
    cases hv : sv.ownBlock with
    | none => exact .inl rfl
    | some j => exact .inr fun e => h.ap j hv e.symm)
  refine ⟨⟨hb5.set 1 tv', World.ownsRow.kept hs5 hgs (.inr fun e => by have := (World.ownsRow.lt hs5 pk e).1; omega), ?_, fun k hk => ?_, h1, Nat.le_trans h.hB (Nat.le_trans hg.size hgs.size)⟩, ?_, hb5.cell (i := 1) rfl, hb5.frozen 1⟩
  · exact ho.grown hgs (fun k hk e => by injection hk with hk; have := (ho.own k e).1; omega)
  · intro e
    rcases hrb with e2 | e2 | ⟨j, e2, hj⟩
    · rw [e2] at e; cases e
    · exact h.ap k hk (e2 ▸ e)
    · have := (World.ownsRow.lt h.s k hk).2
      rw [e2] at e
      injection e with e
      omega
  · refine ⟨hgs.os.trans hg.os, hgs.tape.trans hg.tape, hgs.output.trans hg.output, Nat.le_trans hg.size hgs.size, fun k hk hn => ?_⟩
    have hk1 : ¬ k = pk := fun e => hn (.inl e)
    have hk2 : ¬ B ≤ k := fun e => hn (.inr e)
    rw [hgs.block k (Nat.lt_of_lt_of_le hk hg.size) (fun e => by injection e with e; exact hk1 e), hg.block k hk (fun e => hk2 (far k e.symm))]
end
theorem OffB.slice' {w : World} {base : Nat} {v : Value} {l : List UInt8} (h : OffB w base v l) : ∃ ao n cap, v = .slice ao n cap := by
  obtain ⟨ao, cap, h, _⟩ := h.slice
  exact ⟨ao, _, cap, h⟩
def slLen : Value → Nat
  | .slice _ n _ => n
  | _ => 0
def toS (t : List UInt8) : ByteArray := ⟨t.toArray⟩
theorem toS_size (t : List UInt8) : (toS t).size = t.length := by simp [toS, ByteArray.size]
theorem toS_cut (t : List UInt8) (a n : Nat) : (toS t).extract a (a + n) = toS ((t.drop a).take n) := by
  apply ByteArray.ext
  rw [ByteArray.data_extract]
  apply Array.ext'
  simp [toS, List.extract]
end Go.Proofs.Ytabdmcgfiabaoaa
