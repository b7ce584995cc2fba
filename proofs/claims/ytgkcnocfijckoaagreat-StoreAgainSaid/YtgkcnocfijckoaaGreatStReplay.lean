/- A store's records make the same store anew: the plain law, and Do by what it is known to do. Conditions: as named in each theorem. -/
import Derived.Test.YtgkcnocfijckoaaGreatSJ
import Derived.Test.YtgkcnocfijckoaaGreatSD
namespace Go.Proofs.YtgkcnocfijckoaaGreat
open Go.RowKit Sg
set_option linter.unusedVariables false
set_option linter.unusedSimpArgs false
theorem setN_end {x : Gn} : ∀ {l : List Gn}, (∀ g ∈ l, g.gen < x.gen) → setN l x = l ++ [x]
  | [], _ => rfl
  | g :: l, h => by
    rw [setN_cons, if_pos (h g (List.mem_cons_self ..)), setN_end (fun y hy => h y (List.mem_cons_of_mem _ hy))]; rfl
theorem Inv.take {S : Bk} {l : List Gn} {im : Int → ByteArray} (h : Inv S l im) (k : Nat) : Inv S (l.take k) im := by
  refine ⟨?_, ?_, by have := h.len; rw [List.length_take]; omega⟩
  · exact List.Pairwise.sublist ((List.take_sublist k l).map Gn.gen) h.up
  · intro g hg
    have hgl := List.mem_of_mem_take hg
    have hG := h.each g hgl
    refine ⟨hG.lo, hG.hi, hG.blo, hG.len, hG.ilen, hG.mem, hG.mark, ?_⟩
    rcases hG.way with h1 | ⟨h1, ⟨x, hx, hxg⟩, h2⟩
    · exact .inl h1
    · refine .inr ⟨h1, ⟨x, ?_, hxg⟩, h2⟩
      obtain ⟨i, hi⟩ := List.getElem?_of_mem hg
      rw [List.getElem?_take] at hi
      split at hi
      · rename_i hik
        obtain ⟨j, hj⟩ := List.getElem?_of_mem hx
        have hji : j < i := by
          rcases Nat.lt_trichotomy j i with h5 | h5 | h5
          · exact h5
          · subst h5
            rw [hi] at hj
            have := congrArg Gn.gen (Option.some.inj hj)
            omega
          · have := h.up.get hi hj h5
            omega
        refine List.mem_of_getElem? (i := j) ?_
        rw [List.getElem?_take, if_pos (by omega)]; exact hj
      · cases hi
theorem take_below {l : List Gn} (h : Ris l) {k : Nat} {g : Gn} (hg : l[k]? = some g) : ∀ x ∈ l.take k, x.gen < g.gen := by
  intro x hx
  obtain ⟨i, hi⟩ := List.getElem?_of_mem hx
  rw [List.getElem?_take] at hi
  split at hi
  · rename_i hik; exact h.get hi hg hik
  · cases hi
theorem below_no_block {l : List Gn} {n : Int} (h : ∀ x ∈ l, x.gen < n) (mk : ByteArray) : ¬ blockN l n mk := by
  rintro ⟨g, hg, hgn, _⟩
  have := h g (List.mem_of_getElem? hg)
  omega
/-- the k-th record, done where the first k are -/
theorem replay_do {S : Bk} {l : List Gn} {im : Int → ByteArray} (h : Inv S l im) {k : Nat} {g : Gn} (hg : l[k]? = some g) :
    doS S (l.take k) im (recG1 g).data.toList = (0, l.take (k + 1), im, S) ∧ (recG1 g).size ≤ 600000 := by
  have hG := h.each g (List.mem_of_getElem? hg)
  have hbel := take_below h.up hg
  have htk : l.take (k + 1) = l.take k ++ [g] := by rw [List.take_add_one, hg]; rfl
  have e : ((g.gen.toNat : Nat) : Int) = g.gen := by have := hG.lo; omega
  have n9 := numL_le9 g.gen.toNat (by have := hG.hi; have := hG.lo; omega)
  rcases hG.way with ⟨h1, h2⟩ | ⟨h1, ⟨x, hx, hxg⟩, d, h3, h4⟩
  · have hrec : recG1 g = recW g.gen.toNat (mkI S (im g.gen)) (im g.gen) := by unfold recG1; rw [if_pos h1, hG.mark, h2]
    have hd := doS_W (S := S) (l := l.take k) (im := im) (n := g.gen.toNat) (t := im g.gen) (by have := hG.hi; have := hG.lo; omega) hG.ilen hG.mem
    rw [e] at hd
    refine ⟨?_, ?_⟩
    · have eg : (⟨g.gen, g.gen, mkI S (im g.gen), im g.gen⟩ : Gn) = g := by
        obtain ⟨a, b, c, d⟩ := g
        simp only at h1 h2 hG ⊢
        have := hG.mark
        simp only at this
        rw [h1, ← this, ← h2]
      rw [hrec, hd.2 (below_no_block hbel _), updI_id, htk, eg, setN_end hbel]
    · rw [hrec, recW_size, mkI_size]; have := hG.ilen; omega
  · have e2 : ((g.basis.toNat : Nat) : Int) = g.basis := by have := hG.blo; omega
    have hne : ¬ g.basis = g.gen := by omega
    have hdm : d.mark = g.mark := by rw [h4.2.2.2, hG.mark]
    have hrec : recG1 g = recD g.gen.toNat g.basis.toNat d.mark g.text := by unfold recG1; rw [if_neg hne, hdm]
    have hX := h.each x hx
    have hhas : hasN (l.take k) g.basis = true := by
      obtain ⟨j, hj⟩ := List.getElem?_of_mem hx
      have hjk : j < k := by
        rcases Nat.lt_trichotomy j k with h5 | h5 | h5
        · exact h5
        · subst h5; rw [hg] at hj; have := congrArg Gn.gen (Option.some.inj hj); omega
        · have := h.up.get hg hj h5; omega
      refine ((h.take k).up.has_iff _).2 ⟨x, List.mem_of_getElem? (i := j) (by rw [List.getElem?_take, if_pos hjk]; exact hj), hxg⟩
    have hd := doS_D (S := S) (l := l.take k) (im := im) (n := g.gen.toNat) (b := g.basis.toNat) (d := d) (x := g.text) (t := im g.gen) (by have := hG.hi; have := hG.lo; omega) (by have := hG.lo; have := hG.blo; omega) (by rw [e2]; exact hhas) h3 (by rw [e2]; exact h4) (by rw [e2, ← hxg]; exact hX.mem) hG.mem
    rw [e, e2] at hd
    refine ⟨?_, ?_⟩
    · have eg : (⟨g.gen, g.basis, d.mark, g.text⟩ : Gn) = g := by rw [hdm]
      rw [hrec, hd.2 (below_no_block hbel _), updI_id, htk, eg, setN_end hbel]
    · rw [hrec, recD_size, h4.1.2.1]
      have := numL_le9 g.basis.toNat (by have := hG.hi; have := hG.blo; omega)
      have := hG.len
      omega
/-- Do, where it is known what it does -/
theorem SW.doAs {w : World} {ps p m : Nat} {v : Value} {S : Bk} {l l' : List Gn} {im : Int → ByteArray} (h : SW w ps p m v S l im) (hS : S.length ≤ 90000000) (s : ByteArray) (hs : s.size ≤ 1000000) (hd : doS S l im s.data.toList = (0, l', im, S)) (hi : Inv S l' im) :
    Calls Tryz.prog 13 #[.pointer (some ⟨ps, 0, none⟩), .string s] w fun e w' => e = .returned (.int .i64 0) ∧ ∃ v', SW w' ps p m v' S l' im ∧ Kept (TouchS ps m v) w w' ∧ (v'.ownBlock = v.ownBlock ∨ ∃ k, v'.ownBlock = some k ∧ w.heap.size ≤ k) := by
  have h1 := h.lt
  have h2 := h.psl
  refine (stDo_any w ps p m (ps + 1) v S l im s h.st h.bk h.inv hS hs ⟨by omega, by omega, by omega, h2⟩ ⟨by omega, by omega⟩).mono ?_
  rintro e w' ⟨rfl, v', a1, a2, a3, a4⟩
  rw [hd] at a1 a2 ⊢
  exact ⟨rfl, v', ⟨a1, a2, hi, h.lt⟩, a3, a4⟩
end Go.Proofs.YtgkcnocfijckoaaGreat
