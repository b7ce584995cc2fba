/- A strings.Builder beside other memory. Conditions: as named in each theorem. -/
import Derived.Test.YtgemhgllifhckaaShBuild
import Derived.Test.YtgemhgllifhckaaOwnsBase
import Derived.Test.YtgemhgllifhckaaCodeMath
namespace Go.Proofs.Ytgemhgllifhckaa
open Go.RowKit
set_option linter.unusedVariables false
theorem ownsF_block {w w' : World} {base : Nat} {e : TypeId} {size n : Nat} {v : Value} {xs : List Value} (h : w.ownsRowF base e size v n xs) (hb : ∀ k, v.ownBlock = some k → w'.heap[k]? = w.heap[k]?) : w'.ownsRowF base e size v n xs := by
  obtain ⟨h1, h2⟩ := h
  refine ⟨h1, ?_⟩
  rcases h2 with h2 | ⟨g, cap, cur, fz, rfl, hg, hh, r⟩
  · exact .inl h2
  · exact .inr ⟨g, cap, cur, fz, rfl, hg, (hb g (by simp [Value.ownBlock])).trans hh, r⟩
theorem ownsF_lt {w : World} {base : Nat} {e : TypeId} {size n : Nat} {v : Value} {xs : List Value} (h : w.ownsRowF base e size v n xs) {k : Nat} (hk : v.ownBlock = some k) : k < w.heap.size := by
  obtain ⟨h1, h2⟩ := h
  rcases h2 with ⟨h3, _⟩ | ⟨g, cap, cur, fz, h3, hg, hh, r⟩
  · rw [h3] at hk; simp [Value.ownBlock] at hk
  · rw [h3] at hk
    simp only [Value.ownBlock, Option.some.injEq] at hk
    subst hk
    exact (Array.getElem?_eq_some_iff.1 hh).1
theorem Bld.blocks {B b : Nat} {l : List UInt8} {w w' : World} (h : Bld B b l w) (hb : ∀ k, k < w.heap.size → w'.heap[k]? = w.heap[k]?) : Bld B b l w' := by
  have at_ : ∀ p, Lib.BuilderAtF 83 5 B b p (Lib.byteCells l) w → Lib.BuilderAtF 83 5 B b p (Lib.byteCells l) w' := by
    rintro p ⟨h1, v, h2, h3, h4⟩
    exact ⟨h1, v, (hb b (Array.getElem?_eq_some_iff.1 h2).1).trans h2, ownsF_block h3 (fun k hk => hb k (ownsF_lt h3 hk)), h4⟩
  exact h.elim (fun h => .inl (at_ _ h)) (fun h => .inr (at_ _ h))
theorem Bld.next {B b : Nat} {l : List UInt8} {w w' : World} (h : Bld B b l w) (hb : Below w.heap.size w w') : Bld B b l w' := h.blocks hb.block
theorem Bld.drew {B b : Nat} {l : List UInt8} {w : World} (h : Bld B b l w) : Bld B b l w.drew := h.blocks (fun _ _ => rfl)
theorem Bld.alloc {B b : Nat} {l : List UInt8} {w : World} (h : Bld B b l w) (o : Obj) : Bld B b l (w.alloc o) := h.blocks (fun k hk => Below.heap_alloc _ _ _ hk)
theorem Bld.lt {B b : Nat} {l : List UInt8} {w : World} (h : Bld B b l w) : b < w.heap.size := by
  rcases h with ⟨_, v, h2, _⟩ | ⟨_, v, h2, _⟩
  · exact (Array.getElem?_eq_some_iff.1 h2).1
  · exact (Array.getElem?_eq_some_iff.1 h2).1
theorem Bld.le {B b : Nat} {l : List UInt8} {w : World} (h : Bld B b l w) : B ≤ b := by
  rcases h with ⟨h1, _⟩ | ⟨h1, _⟩ <;> exact h1
theorem Blk.others {w w' : World} {p b : Nat} {cs : List Value} {t : TypeId} (h : Blk w p cs t) (ho : Lib.OthersKept 5 (some b) w w') (hp : p ≠ b) (ht : t ≠ 5) : Blk w' p cs t :=
  ho p _ h (by simpa using hp) (fun c fz e => by injection e with _ e2 _; exact ht e2)
end Go.Proofs.Ytgemhgllifhckaa
