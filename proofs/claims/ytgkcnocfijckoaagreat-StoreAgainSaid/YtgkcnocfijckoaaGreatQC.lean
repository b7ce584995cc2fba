/- Arguments opened by their kinds: what a reading says of the cells. No conditions. -/
import Derived.WalkKit
import Derived.ProofKit
import Derived.Deep.Slices
import Derived.SizedLaws
import Derived.Test.YtgkcnocfijckoaaGreatQA
namespace Go.Proofs.YtgkcnocfijckoaaGreat
open Go.RowKit Go.ChangeShapes Go.WideShapes Go.Deep
set_option linter.unusedVariables false
/-- the kinds of data among the arguments -/
inductive Kd where
  | int (q : IntKind)
  | str
  | bl
  | agg (l : List Kd)
  | sl (k : Kd)
mutual
def Kd.cells : Kd → Nat
  | .int _ => 1
  | .str => 1
  | .bl => 1
  | .agg l => Kd.cellsL l
  | .sl _ => 1
def Kd.cellsL : List Kd → Nat
  | [] => 0
  | k :: l => k.cells + Kd.cellsL l
end
mutual
/-- what cells of a kind look like -/
def Kd.ok (w : World) : Kd → List Value → Prop
  | .int q, cs => ∃ n, cs = [.int q n] ∧ (Lit.int q n).wf = true
  | .str, cs => ∃ s : ByteArray, cs = [.string s] ∧ s.size ≤ maxLen
  | .bl, cs => ∃ b, cs = [.bool b]
  | .agg l, cs => Kd.okL w l cs
  | .sl k, cs => ∃ ao len cap, cs = [.slice ao len cap] ∧ len ≤ cap ∧ cap ≤ maxLen ∧ (0 < len → ∃ b off, ao = some ⟨b, off, none⟩ ∧ b < w.heap.size ∧
      ∀ i, i < len → ∃ es, es.length = k.cells ∧ (∀ j v, es[j]? = some v → w.cell? ⟨b, off + (i * k.cells + j), none⟩ = some v) ∧ k.ok w es)
def Kd.okL (w : World) : List Kd → List Value → Prop
  | [], cs => cs = []
  | k :: l, cs => ∃ a b, cs = a ++ b ∧ a.length = k.cells ∧ k.ok w a ∧ Kd.okL w l b
end
mutual
def Kd.fits (P : Program) : Kd → TypeId → Bool
  | .int q, t => match P.underlying t with | some (.int q') => decide (q' = q) | _ => false
  | .str, t => match P.underlying t with | some .string => true | _ => false
  | .bl, t => match P.underlying t with | some .bool => true | _ => false
  | .agg l, t => match P.underlying t with | some (.struct fs) => Kd.fitsL P l 0 fs.toList && decide (P.cellsOf t = Kd.cellsL l) | _ => false
  | .sl k, t => match P.underlying t with | some (.slice e) => k.fits P e && decide (P.cellsOf e = k.cells) && decide (0 < k.cells) | _ => false
def Kd.fitsL (P : Program) : List Kd → Nat → List Field → Bool
  | [], _, [] => true
  | k :: l, o, f :: fs => decide (f.offset = o) && decide (P.cellsOf f.type = k.cells) && k.fits P f.type && Kd.fitsL P l (o + k.cells) fs
  | _, _, _ => false
end
theorem addr_plain0 {w : World} {a : Addr} {v : Value} (h : w.cell? a = some v) : a.spot = none := World.cell?_spot h
section
variable {H : Type} {enc : TypeId × Value → H} {P : Program} {w : World}
mutual
theorem Kd.of_trod : ∀ (k : Kd) (t : TypeId) (fuel : Nat) (cs : List Value) (x : DataW H × List MemPlace), k.fits P t = true → DataW.trod enc P w 0 (fun _ => true) true fuel t cs = some x → k.ok w cs
  | .int q, t, fuel, cs, x, hk, h => by
    simp only [Kd.fits] at hk
    split at hk
    · rename_i q' hu
      have := of_decide_eq_true hk
      subst this
      obtain ⟨n, h1, _, h2⟩ := DataW.trod_int hu h
      exact ⟨n, h1, h2⟩
    · cases hk
  | .str, t, fuel, cs, x, hk, h => by
    simp only [Kd.fits] at hk
    split at hk
    · rename_i hu
      obtain ⟨s, h1, _, h2⟩ := DataW.trod_string hu h
      exact ⟨s, h1, h2⟩
    · cases hk
  | .bl, t, fuel, cs, x, hk, h => by
    simp only [Kd.fits] at hk
    split at hk
    · rename_i hu
      obtain ⟨b, h1, _⟩ := DataW.trod_bool hu h
      exact ⟨b, h1⟩
    · cases hk
  | .agg l, t, fuel, cs, x, hk, h => by
    simp only [Kd.fits] at hk
    split at hk
    · rename_i fs hu
      simp only [Bool.and_eq_true, decide_eq_true_eq] at hk
      obtain ⟨xs, n, _, _, hl, hlen, hf⟩ := DataW.trod_struct hu h
      have hfs : ∀ (i : Nat) (f : Field), fs.toList[i]? = some f → DataW.trod enc P w 0 (fun _ => true) true n f.type ((cs.drop f.offset).take (P.cellsOf f.type)) = xs[i]? := fun i f hi => hf i f (by simpa using hi)
      exact Kd.of_trodL l 0 fs.toList n cs xs hk.1 (by rw [hl, hk.2]; omega) (by simpa using hlen) hfs
    · cases hk
  | .sl k, t, fuel, cs, x, hk, h => by
    simp only [Kd.fits] at hk
    split at hk
    · rename_i e hu
      simp only [Bool.and_eq_true, decide_eq_true_eq] at hk
      obtain ⟨⟨hke, hce⟩, hpos⟩ := hk
      rcases open_slice hu h with ⟨rfl, _⟩ | ⟨a, len, cap, m, n, D, Pl, rfl, _, hlc, hcm, hm, _, hx⟩
      · exact ⟨none, 0, 0, rfl, Nat.le_refl _, by decide, fun h0 => absurd h0 (by omega)⟩
      · refine ⟨some a, len, cap, rfl, hlc, hcm, fun h0 => ?_⟩
        simp only [if_true] at hm
        rw [hce] at hx
        have cellsAt : ∀ i, i < len → ∃ es, es.length = k.cells ∧ (∀ j v, es[j]? = some v → w.cell? (a.add (i * k.cells + j)) = some v) ∧ k.ok w es := by
          intro i hi
          obtain ⟨es, h1, h2⟩ := hx i (by omega)
          obtain ⟨_, h3, h4⟩ := World.cells?_some h1
          refine ⟨es, h3, fun j v hj => ?_, Kd.of_trod k e n es _ hke h2⟩
          have hj2 : j < k.cells := by rw [← h3]; exact (List.getElem?_eq_some_iff.1 hj).1
          have := h4 j hj2
          rw [add_add] at this
          rw [this, ← hj]
        obtain ⟨b, off, spot⟩ := a
        have hsp : spot = none := by
          obtain ⟨es, h3, h4, _⟩ := cellsAt 0 h0
          have h5 := h4 0 (es[0]'(by omega)) (List.getElem?_eq_getElem _)
          have h6 := World.cell?_spot h5
          simpa [Addr.add] using h6
        subst hsp
        refine ⟨b, off, rfl, ?_, fun i hi => ?_⟩
        · obtain ⟨es, h3, h4, _⟩ := cellsAt 0 h0
          have h5 := h4 0 (es[0]'(by omega)) (List.getElem?_eq_getElem _)
          have := World.block_lt_of_cell? w _ h5
          simpa [Addr.add] using this
        · obtain ⟨es, h3, h4, h5⟩ := cellsAt i hi
          refine ⟨es, h3, fun j v hj => ?_, h5⟩
          have := h4 j v hj
          have hadd : (⟨b, off, none⟩ : Addr).add (i * k.cells + j) = ⟨b, off + (i * k.cells + j), none⟩ := by unfold Addr.add; split <;> simp_all
          rw [hadd] at this
          exact this
    · cases hk
theorem Kd.of_trodL : ∀ (l : List Kd) (o : Nat) (fs : List Field) (n : Nat) (cs : List Value) (xs : List (DataW H × List MemPlace)), Kd.fitsL P l o fs = true → cs.length = o + Kd.cellsL l → xs.length = fs.length →
    (∀ (i : Nat) (f : Field), fs[i]? = some f → DataW.trod enc P w 0 (fun _ => true) true n f.type ((cs.drop f.offset).take (P.cellsOf f.type)) = xs[i]?) → Kd.okL w l (cs.drop o)
  | [], o, fs, n, cs, xs, hk, hl, hlen, hf => by
    simp only [Kd.cellsL] at hl
    simp only [Kd.okL]
    exact List.drop_of_length_le (by omega)
  | k :: l, o, fs, n, cs, xs, hk, hl, hlen, hf => by
    cases fs with
    | nil => simp [Kd.fitsL] at hk
    | cons f fs =>
      simp only [Kd.fitsL, Bool.and_eq_true, decide_eq_true_eq] at hk
      obtain ⟨⟨⟨ho, hc⟩, hkf⟩, hrest⟩ := hk
      simp only [Kd.cellsL] at hl
      cases xs with
      | nil => simp at hlen
      | cons y xs =>
        have h0 := hf 0 f rfl
        rw [ho, hc] at h0
        refine ⟨(cs.drop o).take k.cells, cs.drop (o + k.cells), ?_, ?_, Kd.of_trod k f.type n _ y hkf (by simpa using h0), ?_⟩
        · rw [← List.drop_drop, List.take_append_drop]
        · simp; omega
        · exact Kd.of_trodL l (o + k.cells) fs n cs xs hrest (by omega) (by simpa using hlen) (fun i g hg => by simpa using hf (i + 1) g (by simpa using hg))
end
theorem Kd.of_Trod {k : Kd} {t : TypeId} {v : Value} {d : DataW H} {pl : List MemPlace} (hk : k.fits P t = true) (h : DataW.Trod enc P w 0 (fun _ => true) true t v d pl) : k.ok w v.cells.toList := by
  obtain ⟨fuel, hf⟩ := h
  exact Kd.of_trod k t fuel _ _ hk hf
end
/-- a slice that came in, as a list of what its elements are -/
def Rs {α : Type} (w : World) (ao : Option Addr) (len cap size : Nat) (rs : List α) (f : α → List Value) : Prop :=
  len ≤ cap ∧ cap ≤ maxLen ∧ rs.length = len ∧ (0 < len → ∃ b off, ao = some ⟨b, off, none⟩ ∧ b < w.heap.size ∧ ∀ i, (hi : i < rs.length) → ∀ j v, (f rs[i])[j]? = some v → w.cell? ⟨b, off + (i * size + j), none⟩ = some v)
theorem Kd.rows {α : Type} [Inhabited α] {w : World} {k : Kd} {ao : Option Addr} {len cap : Nat} (f : α → List Value) (Q : α → Prop) (hk : ∀ es, k.ok w es → ∃ r, es = f r ∧ Q r)
    (h : (Kd.sl k).ok w [.slice ao len cap]) : ∃ rs : List α, Rs w ao len cap k.cells rs f ∧ ∀ r ∈ rs, Q r := by
  obtain ⟨ao', len', cap', he, hlc, hcm, hc⟩ := h
  simp only [List.cons.injEq, Value.slice.injEq, and_true] at he
  obtain ⟨rfl, rfl, rfl⟩ := he
  by_cases h0 : 0 < len
  · obtain ⟨b, off, rfl, hb, hx⟩ := hc h0
    obtain ⟨g, hg⟩ := choose_lt (α := α) (p := fun i r => (∀ j v, (f r)[j]? = some v → w.cell? ⟨b, off + (i * k.cells + j), none⟩ = some v) ∧ Q r) (fun i hi => by
      obtain ⟨es, _, h2, h3⟩ := hx i hi
      obtain ⟨r, rfl, hq⟩ := hk es h3
      exact ⟨r, h2, hq⟩)
    refine ⟨(List.range len).map g, ⟨hlc, hcm, by simp, fun _ => ⟨b, off, rfl, hb, fun i hi j v hj => ?_⟩⟩, fun r hr => ?_⟩
    · simp only [List.getElem_map, List.getElem_range] at hj
      exact (hg i (by simpa using hi)).1 j v hj
    · simp only [List.mem_map, List.mem_range] at hr
      obtain ⟨i, hi, rfl⟩ := hr
      exact (hg i hi).2
  · exact ⟨[], ⟨hlc, hcm, by simp; omega, fun h => absurd h h0⟩, by simp⟩
theorem Rs.below {α : Type} {w w' : World} {ao : Option Addr} {len cap size : Nat} {rs : List α} {f : α → List Value} (h : Rs w ao len cap size rs f) {B : Nat} (hb : Below B w w') (hB : w.heap.size ≤ B) : Rs w' ao len cap size rs f := by
  obtain ⟨h1, h2, h3, h4⟩ := h
  refine ⟨h1, h2, h3, fun h0 => ?_⟩
  obtain ⟨b, off, e, hbl, hc⟩ := h4 h0
  exact ⟨b, off, e, Nat.lt_of_lt_of_le hbl hb.size, fun i hi j v hj => by rw [hb.cell (p := ⟨b, off + (i * size + j), none⟩) (by show b < B; omega)]; exact hc i hi j v hj⟩
def intC (n : Int) : List Value := [.int .i64 n]
def strC (s : ByteArray) : List Value := [.string s]
theorem ints_of {w : World} {ao : Option Addr} {len cap : Nat} (h : (Kd.sl (.int .i64)).ok w [.slice ao len cap]) : ∃ zs : List Int, Rs w ao len cap 1 zs intC ∧ ∀ z ∈ zs, (Lit.int .i64 z).wf = true :=
  Kd.rows (k := .int .i64) intC (fun z => (Lit.int .i64 z).wf = true) (fun es h => by simp only [Kd.ok] at h; obtain ⟨n, e, hw⟩ := h; exact ⟨n, e, hw⟩) h
theorem strs_of {w : World} {ao : Option Addr} {len cap : Nat} (h : (Kd.sl .str).ok w [.slice ao len cap]) : ∃ ss : List ByteArray, Rs w ao len cap 1 ss strC ∧ ∀ s ∈ ss, s.size ≤ maxLen :=
  Kd.rows (k := .str) strC (fun s => s.size ≤ maxLen) (fun es h => by simp only [Kd.ok] at h; obtain ⟨n, e, hw⟩ := h; exact ⟨n, e, hw⟩) h
theorem Rs.cell1 {α : Type} {w : World} {ao : Option Addr} {len cap : Nat} {rs : List α} {f : α → List Value} (h : Rs w ao len cap 1 rs f) (h0 : 0 < len) :
    ∃ b off, ao = some ⟨b, off, none⟩ ∧ b < w.heap.size ∧ ∀ i, (hi : i < rs.length) → ∀ v, f rs[i] = [v] → w.cell? ⟨b, off + i, none⟩ = some v := by
  obtain ⟨_, _, _, h4⟩ := h
  obtain ⟨b, off, e, hb, hc⟩ := h4 h0
  exact ⟨b, off, e, hb, fun i hi v hv => by have := hc i hi 0 v (by rw [hv]; rfl); simpa using this⟩
theorem Rs.take {α : Type} {w : World} {ao : Option Addr} {len cap size : Nat} {rs : List α} {f : α → List Value} (h : Rs w ao len cap size rs f) {m : Nat} (hm : m ≤ len) : Rs w ao m cap size (rs.take m) f := by
  obtain ⟨h1, h2, h3, h4⟩ := h
  refine ⟨by omega, h2, by simp; omega, fun h0 => ?_⟩
  obtain ⟨b, off, e, hb, hc⟩ := h4 (by omega)
  exact ⟨b, off, e, hb, fun i hi j v hj => hc i (by simp at hi; omega) j v (by rw [List.getElem_take] at hj; exact hj)⟩
end Go.Proofs.YtgkcnocfijckoaaGreat
namespace Go.Proofs.YtgkcnocfijckoaaGreat
open Go.RowKit
set_option linter.unusedVariables false
theorem flatLen {α : Type} (f : α → List Value) (size : Nat) (hf : ∀ x, (f x).length = size) (rs : List α) : (rs.flatMap f).length = rs.length * size := by
  induction rs with
  | nil => simp
  | cons x l ih => rw [List.flatMap_cons, List.length_append, ih, hf, List.length_cons, Nat.add_mul]; omega
theorem flatAt {α : Type} (f : α → List Value) (size : Nat) (hf : ∀ x, (f x).length = size) : ∀ (rs : List α) (i : Nat) (hi : i < rs.length) (j : Nat) (hj : j < size), (rs.flatMap f)[i * size + j]? = (f rs[i])[j]? := by
  intro rs
  induction rs with
  | nil => intro i hi; simp at hi
  | cons x l ih =>
    intro i hi j hj
    rw [List.flatMap_cons]
    cases i with
    | zero => rw [Nat.zero_mul, Nat.zero_add, List.getElem?_append_left (by rw [hf]; exact hj)]; rfl
    | succ i =>
      rw [List.getElem?_append_right (by rw [hf, Nat.add_mul]; omega), hf, show (i + 1) * size + j - size = i * size + j by rw [Nat.add_mul]; omega]
      exact ih i (by simpa using hi) j hj
theorem Rs.of_owns {α : Type} {f : α → List Value} {size : Nat} (hf : ∀ x, (f x).length = size) {w : World} {base n cap : Nat} {e : TypeId} {ao : Option Addr} {rs : List α} (hn : rs.length = n)
    (h : w.ownsRow base e size (.slice ao n cap) n (rs.flatMap f)) : Rs w ao n cap size rs f := by
  have h2 := h.2
  rcases h2 with ⟨h1, h0⟩ | ⟨g, cap', cur, h1, hb, hg, hnc, hcm, hcs, htk⟩
  · simp only [Value.slice.injEq] at h1
    obtain ⟨rfl, rfl, rfl⟩ := h1
    exact ⟨Nat.le_refl _, by decide, hn, fun h => absurd h (by omega)⟩
  · simp only [Value.slice.injEq, true_and] at h1
    obtain ⟨rfl, rfl⟩ := h1
    refine ⟨hnc, hcm, hn, fun _ => ⟨g, 0, rfl, (Array.getElem?_eq_some_iff.1 hg).1, fun i hi j v hj => ?_⟩⟩
    have hjs : j < size := by rw [← hf rs[i]]; exact (List.getElem?_eq_some_iff.1 hj).1
    have hb : i * size + j < n * size := by
      have : (i + 1) * size ≤ n * size := Nat.mul_le_mul_right _ (by omega)
      rw [Nat.add_mul] at this; omega
    have := h.cellAt (i * size + j) hb
    rw [flatAt f size hf rs i hi j hjs, hj] at this
    simpa using this
end Go.Proofs.YtgkcnocfijckoaaGreat
namespace Go.Proofs.YtgkcnocfijckoaaGreat
open Go.RowKit
set_option linter.unusedVariables false
set_option linter.unusedSimpArgs false
theorem Rs.next {α : Type} {w w' : World} {ao : Option Addr} {len cap size : Nat} {rs : List α} {f : α → List Value} (h : Rs w ao len cap size rs f) (hb : Below w.heap.size w w') : Rs w' ao len cap size rs f := h.below hb (Nat.le_refl _)
end Go.Proofs.YtgkcnocfijckoaaGreat
