/- Arguments opened: what a slice that came in reads as, in plain lists. No conditions. -/
import Derived.WalkKit
import Derived.ProofKit
import Derived.Deep.Slices
import Derived.Deep.Strs
import Derived.SizedLaws
namespace Go.Proofs.Ytndbongcmepjmaa
open Go.RowKit Go.ChangeShapes Go.WideShapes Go.Deep

/-- a []int that came in -/
def IsInts (w : World) (ao : Option Addr) (len cap : Nat) (zs : List Int) : Prop :=
  (len ≤ cap ∧ zs.length = len) ∧ (∀ z ∈ zs, (Lit.int .i64 z).wf = true) ∧ (0 < len → ∃ b off, ao = some ⟨b, off, none⟩ ∧ b < w.heap.size ∧ ∀ j, j < len → w.cell? ⟨b, off + j, none⟩ = some (.int .i64 (zs.getD j 0)))

theorem add_off (b off j : Nat) : (⟨b, off, none⟩ : Addr).add j = ⟨b, off + j, none⟩ := by unfold Addr.add; split <;> simp_all

theorem addr_plain {w : World} {a : Addr} {v : Value} (h : w.cell? (a.add 0) = some v) : ∃ b off, a = ⟨b, off, none⟩ := by
  obtain ⟨b, off, spot⟩ := a
  have hspot : spot = none := by simpa [Addr.add] using World.cell?_spot h
  subst hspot
  exact ⟨b, off, rfl⟩

theorem openInts {H : Type} {enc : TypeId × Value → H} {P : Program} {w : World} {t e : TypeId} {ao : Option Addr} {len cap : Nat} {d : DataW H} {pl : List MemPlace}
    (ht : P.underlying t = some (.slice e)) (he : P.underlying e = some (.int .i64)) (hc : P.cellsOf e = 1)
    (h : DataW.Trod enc P w 0 (fun _ => true) true t (.slice ao len cap) d pl) :
    ∃ zs, IsInts w ao len cap zs ∧ ∀ N, (∀ el sp, d = .slice el sp → (el.length + sp.length) * 8 ≤ N) → cap * 8 ≤ N := by
  obtain ⟨fuel, hf⟩ := h
  rcases open_ints ht he hc hf with ⟨hcs, hx⟩ | ⟨a, len', cap', zs, hcs, _, hl, hm, hz, hx, hcell, hwz⟩
  · simp [Value.cells] at hcs
    obtain ⟨rfl, rfl, rfl⟩ := hcs
    exact ⟨[], ⟨⟨Nat.le_refl _, rfl⟩, by simp, by simp⟩, fun N _ => by omega⟩
  · simp [Value.cells] at hcs
    obtain ⟨rfl, rfl, rfl⟩ := hcs
    simp only [Prod.mk.injEq] at hx
    obtain ⟨rfl, rfl⟩ := hx
    simp only [if_true] at hz
    refine ⟨zs.take len, ⟨⟨hl, by simp; omega⟩, fun z hz' => hwz z (List.mem_of_mem_take hz'), fun h0 => ?_⟩, fun N hN => ?_⟩
    · obtain ⟨b, off, rfl⟩ := addr_plain (hcell 0 (by omega))
      refine ⟨b, off, rfl, World.block_lt_of_cell? w _ (hcell 0 (by omega)), fun j hj => ?_⟩
      have := hcell j (by omega)
      rw [add_off] at this
      rw [this]
      simp [List.getD, hj]
    · have := hN _ _ rfl
      simp only [lits, List.length_map, List.length_take, List.length_drop] at this
      omega
end Go.Proofs.Ytndbongcmepjmaa
