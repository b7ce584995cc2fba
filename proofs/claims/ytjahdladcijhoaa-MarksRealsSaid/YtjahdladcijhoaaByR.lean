/- A row of bytes whose block may bear a mark behind its end (what the letters of a text become), and an append to it. Conditions: as named in each theorem. -/
import Derived.Test.YtjahdladcijhoaaMarksNum
import Derived.ArgAppend
import Derived.Laws.IdiomStrings
namespace Go.Proofs.Ytjahdladcijhoaa
open Go.RowKit
set_option linter.unusedVariables false
set_option linter.unusedSimpArgs false

def ByR (w : World) (base : Nat) (v : Value) (n : Nat) (l : List UInt8) : Prop :=
  l.length = n ∧ ∃ g cap cur fz, v = .slice (some ⟨g, 0, none⟩) n cap ∧ base ≤ g ∧ w.heap[g]? = some (.cells cur 5 fz) ∧ (fz.2 = 0 ∨ cur.size ≤ fz.1) ∧ n ≤ cap ∧ cap ≤ maxLen ∧ cur.size = cap ∧ cur.toList.take n = byteC l
theorem ByR.of_owns {w : World} {base : Nat} {v : Value} {n : Nat} {l : List UInt8} (h : w.ownsRow base 5 1 v n (byteC l)) (hn : 0 < n) : ByR w base v n l := by
  have hl := h.1
  rw [byteC_len, Nat.mul_one] at hl
  rcases h.2 with ⟨_, h0⟩ | ⟨g, cap, cur, rfl, hb, hg, hnc, hcm, hcs, ht⟩
  · omega
  · exact ⟨hl, g, cap, cur, (0, 0), rfl, hb, hg, .inl rfl, hnc, hcm, by rw [hcs, Nat.mul_one], by rw [Nat.mul_one] at ht; exact ht⟩
theorem ByR.slice {w : World} {base : Nat} {v : Value} {n : Nat} {l : List UInt8} (h : ByR w base v n l) : ∃ g cap, v = .slice (some ⟨g, 0, none⟩) n cap ∧ base ≤ g ∧ g < w.heap.size ∧ n ≤ cap := by
  obtain ⟨_, g, cap, cur, fz, rfl, hb, hg, _, hnc, _⟩ := h
  exact ⟨g, cap, rfl, hb, (Array.getElem?_eq_some_iff.1 hg).1, hnc⟩
theorem ByR.cell {w : World} {base g cap : Nat} {n : Nat} {l : List UInt8} (h : ByR w base (.slice (some ⟨g, 0, none⟩) n cap) n l) {j : Nat} {c : UInt8} (hc : l[j]? = some c) : w.cell? ⟨g, j, none⟩ = some (.int .u8 (c.toNat : Nat)) := by
  obtain ⟨hl, g', cap', cur, fz, h1, hb, hg, _, hnc, hcm, hcs, ht⟩ := h
  injection h1 with h1 h2 h3
  injection h1 with h1
  injection h1 with h1
  subst h1
  have hj : j < n := by rw [← hl]; exact (List.getElem?_eq_some_iff.1 hc).1
  have h4 := byteC_get l j c hc
  rw [← ht, List.getElem?_take, if_pos hj, Array.getElem?_toList] at h4
  simp [World.cell?, hg, h4]
theorem ByR.kept {w w' : World} {base : Nat} {v : Value} {n : Nat} {l : List UInt8} (h : ByR w base v n l) (hb : Below w.heap.size w w') : ByR w' base v n l := by
  obtain ⟨hl, g, cap, cur, fz, rfl, hb1, hg, rest⟩ := h
  exact ⟨hl, g, cap, cur, fz, rfl, hb1, by rw [hb.block g (Array.getElem?_eq_some_iff.1 hg).1]; exact hg, rest⟩
/-- what a text's letters become -/
theorem letters_byR (w : World) (base : Nat) (hb : base ≤ w.heap.size) (s : ByteArray) (hs : s.size ≤ 1000000000) : ∃ (cap : Nat) (C : Array Value) (fz : Nat × Nat),
    (convert 9 52 (.string s)).run Try.prog w = .ok (.slice (some ⟨w.heap.size, 0, none⟩) s.size cap) (w.drew.alloc (.cells C 5 fz)) ∧
    ByR (w.drew.alloc (.cells C 5 fz)) base (.slice (some ⟨w.heap.size, 0, none⟩) s.size cap) s.size s.data.toList := by
  refine ⟨_, _, _, run_bytes_of_string w _ _ _ s Try.underlying9 Try.underlying52 Try.underlying5, by rw [Array.length_toList]; rfl, w.heap.size, _, _, _, rfl, hb, heap_alloc_new w.drew _, .inr (Nat.le_refl _), grownCap_ge w s.size 0 _, grownCap_le_maxLen w s.size 0 _ (by unfold maxLen; omega), ?_, ?_⟩
  · unfold bytesRow
    rw [Array.size_append, Array.size_map, Array.size_replicate]
    have := grownCap_ge w s.size 0 5
    have e : s.data.size = s.size := rfl
    omega
  · unfold bytesRow byteC
    rw [Array.toList_append, Array.toList_map]
    exact List.take_left' (by rw [List.length_map, Array.length_toList]; rfl)

theorem byteC_app' (l : List UInt8) (c : UInt8) : byteC (l ++ [c]) = byteC l ++ [.int .u8 (c.toNat : Nat)] := by simp [byteC]
/-- one byte more -/
theorem wpList_append_byR {P : Program} (w : World) {ops : Array Oper} {rest : List Oper} {o : Oper} {a : Act} {Q : Exit → Act → World → Prop}
    (hg : o.guard = none) (s x : Operand) (t : TypeId) (hop : o.op = Op.call { callee := Callee.builtin Builtin.append, args := #[s, x], argTypes := #[t, t] })
    (i : TypeInfo) (z : Value) (h1 : P.underlying t = some (.slice 5)) (h2 : P.info? 5 = some i) (h3 : i.zero = some z) (h4 : i.size = 1) (h5 : i.bytes = 1) (h6 : z.cells.size = 1)
    (base : Nat) (v : Value) (n : Nat) (l : List UInt8) (hs : a.eval s = v) (hr : ByR w base v n l) (hbase : base ≤ w.heap.size)
    (ad : Addr) (c : Nat) (d : UInt8) (y : Int) (hy : y = (d.toNat : Nat)) (hx : a.eval x = .slice (some ad) 1 c) (hc : ∀ j u, [Value.int .u8 y][j]? = some u → w.cell? (ad.add j) = some u)
    (b1 : n + 1 ≤ 2000000000)
    (hK : ∀ v' w', ByR w' base v' (n + 1) (l ++ [d]) → w.grownBy w' v.ownBlock → wpList P ops Q rest (a.put o.dst v') w') :
    wpList P ops Q (o :: rest) a w := by
  subst hy
  have hr0 := hr
  obtain ⟨hl, g, cap, cur, fz, rfl, hb, hgq, hfz, hnc, hcm, hcs, ht⟩ := hr
  have hlt := (Array.getElem?_eq_some_iff.1 hgq).1
  refine wpList_append_arg w hg s x t hop 5 i z 1 1 h1 h2 h3 h4 h5 h6 (by decide) g 0 n cap (byteC l) hs (by rw [byteC_len, hl, Nat.mul_one]) ?_ ad 1 c [.int .u8 (d.toNat : Nat)] hx rfl hc (by intro u hu; simp at hu; subst hu; rfl) ?_ (by unfold maxLen; omega) (by omega) ?_ ?_
  · intro j u hu
    have hj : j < l.length := by rw [← byteC_len]; exact (List.getElem?_eq_some_iff.1 hu).1
    have := hr0.cell (List.getElem?_eq_getElem hj)
    rw [Nat.zero_add, this]
    rw [byteC_get l j _ (List.getElem?_eq_getElem hj)] at hu
    exact hu
  · intro hroom j hj
    have hj0 : j = 0 := by simpa using hj
    subst hj0
    have hn : n < cur.size := by omega
    constructor
    · simp [World.cell?, hgq, hn]
    · simp [World.frozen?, hgq]
      omega
  · intro hroom
    have hn : n < cur.size := by omega
    refine hK _ _ ⟨by rw [List.length_append, hl]; rfl, g, cap, cur.setIfInBounds n (.int .u8 (d.toNat : Nat)), fz, rfl, hb, ?_, by rw [Array.size_setIfInBounds]; exact hfz, hroom, hcm, by rw [Array.size_setIfInBounds]; exact hcs, ?_⟩ ?_
    · simp only [World.setCells, World.setCell, Array.getElem?_modify, hgq, if_true, Option.map_some, Nat.zero_add, Nat.mul_one]
      simp
    · rw [Array.toList_setIfInBounds, byteC_app', List.take_add_one, List.getElem?_set_self (by rw [Array.length_toList]; exact hn), List.take_set_of_le (Nat.le_refl _), ht]
      rfl
    · simp only [World.setCells]
      exact grown_set (grown_refl _ _) _ _
  · intro _ v' w' hown hgrow
    refine hK v' w' (ByR.of_owns (owns_mono (by rw [byteC_app']; exact hown) hbase) (by omega)) ?_
    exact ⟨hgrow.os, hgrow.tape, hgrow.output, hgrow.size, fun k hk _ => hgrow.block k hk (by simp)⟩
end Go.Proofs.Ytjahdladcijhoaa
