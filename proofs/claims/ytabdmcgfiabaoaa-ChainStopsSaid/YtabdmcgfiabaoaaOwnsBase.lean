/- Rows, worlds in which little has turned. Conditions: as named in each theorem. -/
import Derived.Test.YtabdmcgfiabaoaaSeen
import Derived.Deep.RegionHeld3
import Derived.BigQuiet
import Derived.Maps.AppendAt
namespace Go.Proofs.Ytabdmcgfiabaoaa
open Go.RowKit
set_option linter.unusedVariables false
/-- nothing but blocks of T and new memory has turned -/
structure Kept (T : Nat → Prop) (w w' : World) : Prop where
  os : w'.os = w.os
  tape : w'.tape = w.tape
  output : w'.output = w.output
  size : w.heap.size ≤ w'.heap.size
  block : ∀ k, k < w.heap.size → ¬ T k → w'.heap[k]? = w.heap[k]?
theorem Kept.refl (T : Nat → Prop) (w : World) : Kept T w w := ⟨rfl, rfl, rfl, Nat.le_refl _, fun _ _ _ => rfl⟩
theorem Kept.of_grown {w w' : World} {row : Option Nat} (h : w.grownBy w' row) : Kept (fun k => row = some k) w w' := ⟨h.os, h.tape, h.output, h.size, fun k hk hn => h.block k hk (fun e => hn e.symm)⟩
theorem Kept.of_below {w w' : World} (T : Nat → Prop) (h : Below w.heap.size w w') : Kept T w w' := ⟨h.os, h.tape, h.output, h.size, fun k hk _ => h.block k hk⟩
theorem Kept.mono {T U : Nat → Prop} {w w' : World} (h : Kept T w w') (hu : ∀ k, k < w.heap.size → T k → U k) : Kept U w w' := ⟨h.os, h.tape, h.output, h.size, fun k hk hn => h.block k hk (fun e => hn (hu k hk e))⟩
theorem Kept.trans {T U : Nat → Prop} {a b c : World} (h : Kept T a b) (k : Kept U b c) (hu : ∀ i, i < a.heap.size → U i → T i) : Kept T a c :=
  ⟨k.os.trans h.os, k.tape.trans h.tape, k.output.trans h.output, Nat.le_trans h.size k.size, fun i hi hn => (k.block i (Nat.lt_of_lt_of_le hi h.size) (fun e => hn (hu i hi e))).trans (h.block i hi hn)⟩
theorem Kept.below {T : Nat → Prop} {w w' : World} {B : Nat} {a : World} (hB : Below B a w) (h : Kept T w w') (hb : B ≤ w.heap.size) (ht : ∀ k, k < B → ¬ T k) : Below B a w' :=
  ⟨h.os.trans hB.os, h.tape.trans hB.tape, h.output.trans hB.output, Nat.le_trans hB.size h.size, fun k hk => (h.block k (Nat.lt_of_lt_of_le hk hb) (ht k hk)).trans (hB.block k hk)⟩
theorem Kept.cell {T : Nat → Prop} {w w' : World} (h : Kept T w w') {b i : Nat} (hb : b < w.heap.size) (ht : ¬ T b) : w'.cell? ⟨b, i, none⟩ = w.cell? ⟨b, i, none⟩ := by
  simp only [World.cell?, h.block b hb ht]
theorem Kept.set {T : Nat → Prop} {w w' : World} (h : Kept T w w') {p : Nat} (hp : T p) (i : Nat) (v : Value) : Kept T w (w'.setCell ⟨p, i, none⟩ v) := by
  refine ⟨h.os, h.tape, h.output, by simpa using h.size, fun k hk hn => ?_⟩
  rw [Below.heap_setCell _ _ _ _ (by intro e; exact hn (e ▸ hp))]
  exact h.block k hk hn
theorem BookI.kept {w w' : World} {p m : Nat} {seen : List (List UInt8)} (h : BookI w p m seen) {T : Nat → Prop} (hk : Kept T w w') (h1 : ¬ T p) (h2 : ¬ T m) : BookI w' p m seen := by
  obtain ⟨a, b, c, d, ⟨l1, l2⟩, D, ⟨es, clock, hx, F, hs, hD⟩, hB⟩ := h
  exact ⟨(hk.cell l1 h1).trans a, (hk.cell l1 h1).trans b, (hk.cell l1 h1).trans c, d, ⟨Nat.lt_of_lt_of_le l1 hk.size, Nat.lt_of_lt_of_le l2 hk.size⟩, D, ⟨es, clock, by rw [hk.block m l2 h2]; exact hx, F, hs, hD⟩, hB⟩
theorem owns_block {w w' : World} {base : Nat} {e : TypeId} {size n : Nat} {v : Value} {xs : List Value} (h : w.ownsRow base e size v n xs) (hb : ∀ k, v.ownBlock = some k → w'.heap[k]? = w.heap[k]?) : w'.ownsRow base e size v n xs := by
  obtain ⟨h1, h2⟩ := h
  refine ⟨h1, ?_⟩
  rcases h2 with h2 | ⟨g, cap, cur, rfl, hg, hh, r⟩
  · exact .inl h2
  · exact .inr ⟨g, cap, cur, rfl, hg, (hb g (by simp [Value.ownBlock])).trans hh, r⟩
theorem owns_slice {w : World} {base : Nat} {e : TypeId} {size n : Nat} {v : Value} {xs : List Value} (h : w.ownsRow base e size v n xs) : ∃ ao cap, v = .slice ao n cap := by
  rcases h.2 with ⟨rfl, h0⟩ | ⟨g, cap, cur, rfl, _⟩
  · exact ⟨none, 0, by rw [h0]⟩
  · exact ⟨_, cap, rfl⟩
end Go.Proofs.Ytabdmcgfiabaoaa
