/- Generations: their cells, places, the small functions of the reference. Conditions: as named in each theorem. -/
import Derived.Test.YtoibbeiieelccaaChecked
import Derived.Test.YtoibbeiieelccaaHeap
import Derived.Test.YtoibbeiieelccaaArgs
import Derived.Deep.LoopGhost
import Derived.OpenShut
namespace Go.Proofs.Ytoibbeiieelccaa
open Go.RowKit
set_option linter.unusedVariables false

structure G where
  gen : Int
  basis : Int
  bytes : Int
  mark : ByteArray
  deriving Inhabited, DecidableEq
def G.c (g : G) : List Value := [.int .i64 g.gen, .int .i64 g.basis, .int .i64 g.bytes, .string g.mark]
def G.ok (g : G) : Prop := (Lit.int .i64 g.gen).wf = true ∧ (Lit.int .i64 g.basis).wf = true ∧ (Lit.int .i64 g.bytes).wf = true ∧ g.mark.size ≤ maxLen
def gK : Kd := .agg [.int .i64, .int .i64, .int .i64, .str]
theorem gens_of {w : World} {ao : Option Addr} {len cap : Nat} (h : (Kd.sl gK).ok w [.slice ao len cap]) : ∃ gs : List G, Rs w ao len cap 4 gs G.c ∧ ∀ g ∈ gs, g.ok :=
  Kd.rows (k := gK) G.c G.ok (fun es h => by
    simp only [gK, Kd.ok, Kd.okL, Kd.cells] at h
    obtain ⟨a, b, rfl, _, ⟨k, rfl, hk⟩, a2, b2, rfl, _, ⟨n, rfl, hn⟩, a3, b3, rfl, _, ⟨s, rfl, hs⟩, a4, b4, rfl, _, ⟨t, rfl, ht⟩, rfl⟩ := h
    exact ⟨⟨k, n, s, t⟩, rfl, hk, hn, hs, ht⟩) h
theorem rs_g {w : World} {ao : Option Addr} {len cap : Nat} {gs : List G} (h : Rs w ao len cap 4 gs G.c) (h0 : 0 < len) :
    ∃ b off, ao = some ⟨b, off, none⟩ ∧ b < w.heap.size ∧ ∀ k, (hk : k < gs.length) → w.cell? ⟨b, off + k * 4, none⟩ = some (.int .i64 gs[k].gen) ∧ w.cell? ⟨b, off + k * 4 + 1, none⟩ = some (.int .i64 gs[k].basis) ∧ w.cell? ⟨b, off + k * 4 + 2, none⟩ = some (.int .i64 gs[k].bytes) ∧ w.cell? ⟨b, off + k * 4 + 3, none⟩ = some (.string gs[k].mark) := by
  obtain ⟨_, _, _, h4⟩ := h
  obtain ⟨b, off, e, hb, hc⟩ := h4 h0
  refine ⟨b, off, e, hb, fun k hk => ⟨?_, ?_, ?_, ?_⟩⟩
  · simpa using hc k hk 0 _ rfl
  · simpa [Nat.add_assoc] using hc k hk 1 _ rfl
  · simpa [Nat.add_assoc] using hc k hk 2 _ rfl
  · simpa [Nat.add_assoc] using hc k hk 3 _ rfl
theorem Rs.next {α : Type} {w w' : World} {ao : Option Addr} {len cap size : Nat} {rs : List α} {f : α → List Value} (h : Rs w ao len cap size rs f) (hb : Below w.heap.size w w') : Rs w' ao len cap size rs f := h.below hb (Nat.le_refl _)

/-- the place of a number in a list; -1: it is not there -/
def atZ (l : List Int) (g : Int) : Int := if g ∈ l then (l.idxOf g : Int) else -1
theorem atZ_none {l : List Int} {g : Int} (h : g ∉ l) : atZ l g = -1 := by simp [atZ, h]
theorem idx_first {l : List Int} {g : Int} {k : Nat} (hk : k < l.length) (h : l[k] = g) (hn : g ∉ l.take k) : l.idxOf g = k := by
  have e1 : l = l.take (k + 1) ++ l.drop (k + 1) := (List.take_append_drop _ _).symm
  rw [e1, List.take_succ_eq_append_getElem hk, h, List.idxOf_append, if_pos (by simp), List.idxOf_append, if_neg hn]
  simp
  omega
theorem atZ_found {l : List Int} {g : Int} {k : Nat} (hk : k < l.length) (h : l[k] = g) (hn : g ∉ l.take k) : atZ l g = k := by
  have : g ∈ l := by rw [← h]; exact List.getElem_mem hk
  rw [atZ, if_pos this, idx_first hk h hn]
theorem atZ_neg (l : List Int) (g : Int) : atZ l g < 0 ↔ g ∉ l := by
  unfold atZ
  split <;> rename_i h <;> simp [h]

/-- strictly rising -/
def Up (l : List Int) : Prop := ∀ i j, (hi : i < l.length) → (hj : j < l.length) → i < j → l[i] < l[j]
theorem Up.notin {l : List Int} (h : Up l) {k : Nat} (hk : k < l.length) : l[k] ∉ l.take k := by
  intro hin
  obtain ⟨i, hi, he⟩ := List.getElem_of_mem hin
  rw [List.getElem_take] at he
  have := h i k (by simp at hi; omega) hk (by simp at hi; omega)
  omega
theorem Up.at {l : List Int} (h : Up l) {k : Nat} (hk : k < l.length) : atZ l l[k] = k := atZ_found hk rfl (h.notin hk)
theorem Up.take {l : List Int} (h : Up l) (n : Nat) : Up (l.take n) := fun i j hi hj hij => by
  rw [List.getElem_take, List.getElem_take]
  exact h i j (by simp at hi; omega) (by simp at hj; omega) hij

theorem at_any (w : World) (ao : Option Addr) (len cap : Nat) (gs : List G) (g : Int) (hR : Rs w ao len cap 4 gs G.c) (hn : len ≤ 1000000) :
    Calls Try.prog 23 #[.slice ao len cap, .int .i64 g] w fun e w' => e = .returned (.int .i64 (atZ (gs.map G.gen) g)) ∧ w = w' := by
  have HL := Lib.hid hR.2.2.1
  go_enter Try.func23, Try.ntmps23
  go_wp2
  go_loopw [5] (fun i wr => ∃ k : Nat, k ≤ len ∧ i = .int .i64 k ∧ g ∉ (gs.map G.gen).take k ∧ w = wr) (fun i _ => len - (intOf i).toNat)
  case atStart => exact ⟨0, by omega, rfl, by simp, rfl⟩
  case round =>
    obtain ⟨k, hk, rfl, hni, rfl⟩ := hrel
    have HNI := Lib.hid hni
    clear hni
    by_cases hlt : k < len
    · obtain ⟨b, off, rfl, hbw, hc⟩ := rs_g hR (by omega)
      have hks : k < gs.length := by rw [HL.out]; exact hlt
      obtain ⟨c0, _, _, _⟩ := hc k hks
      have hgk : (gs.map G.gen)[k]'(by simpa using hks) = gs[k].gen := by simp
      have hkm : k < (gs.map G.gen).length := by simpa using hks
      obtain ⟨x, hx⟩ : ∃ x, x = gs[k].gen := ⟨_, rfl⟩
      rw [← hx] at c0 hgk
      have HGK := Lib.hid hgk
      clear hgk hx hc hR
      by_cases he : x = g
      · subst he
        go_wp2
        go_ret
        exact ⟨ret_v (int_v (atZ_found hkm HGK.out HNI.out).symm), rfl⟩
      · have HE := Lib.hid he
        go_wp2
        go_roundw
        case rel => exact ⟨k + 1, by omega, by go_num, by rw [List.take_succ_eq_append_getElem hkm, HGK.out]; simp only [List.mem_append, List.mem_singleton, not_or]; exact ⟨HNI.out, fun e => HE.out e.symm⟩, by simp⟩
        case measure => simp [intOf]; omega
    · have hkk : (gs.map G.gen).take k = gs.map G.gen := List.take_of_length_le (by simp [HL.out]; omega)
      have h2 := HNI.out
      rw [hkk] at h2
      have H2 := Lib.hid h2
      clear hkk h2
      go_wp2
      go_ret
      exact ⟨ret_v (int_v (atZ_none H2.out).symm), rfl⟩

theorem compare_any (w : World) (a b : Int) (r : Int) (hr : r = if a < b then -1 else if b < a then 1 else 0) :
    Calls Try.prog 36 #[.int .i64 a, .int .i64 b] w fun e w' => e = .returned (.int .i64 r) ∧ w = w' := by
  by_cases h1 : a < b
  · have h : r = -1 := by rw [hr, if_pos h1]
    clear hr
    subst h
    go_enter Try.func36, Try.ntmps36
    go_wp2
    go_ret
    exact ⟨rfl, rfl⟩
  · by_cases h2 : b < a
    · have h : r = 1 := by rw [hr, if_neg h1, if_pos h2]
      clear hr
      subst h
      go_enter Try.func36, Try.ntmps36
      go_wp2
      go_ret
      exact ⟨rfl, rfl⟩
    · have h : r = 0 := by rw [hr, if_neg h1, if_neg h2]
      clear hr
      subst h
      go_enter Try.func36, Try.ntmps36
      go_wp2
      go_ret
      exact ⟨rfl, rfl⟩

theorem below_alloc (w : World) (o : Obj) : Below w.heap.size w (w.alloc o) := (Below.refl _ _).alloc (Nat.le_refl _) _
theorem cmp_any (w : World) (g : G) (n : Int) (r : Int) (hr : r = if g.gen < n then -1 else if n < g.gen then 1 else 0) :
    Calls Try.prog 35 #[.agg #[.int .i64 g.gen, .int .i64 g.basis, .int .i64 g.bytes, .string g.mark], .int .i64 n] w fun e w' => e = .returned (.int .i64 r) ∧ Below w.heap.size w w' := by
  obtain ⟨x, b, y, m⟩ := g
  have HR := Lib.hid hr
  clear hr
  have c0 : (w.alloc (.cells #[.int .i64 x, .int .i64 b, .int .i64 y, .string m] 40)).cell? ⟨w.heap.size, 0, none⟩ = some (.int .i64 x) := (Blk.new w [.int .i64 x, .int .i64 b, .int .i64 y, .string m] 40).cell (i := 0) rfl
  have hB := below_alloc w (.cells #[.int .i64 x, .int .i64 b, .int .i64 y, .string m] 40)
  go_enter Try.func35, Try.ntmps35
  go_wp2_with fail
  refine (compare_any _ _ _ r HR.out).mono ?_
  rintro e w1 ⟨rfl, rfl⟩
  go_wp2
  go_ret
  exact ⟨rfl, hB⟩
end Go.Proofs.Ytoibbeiieelccaa
