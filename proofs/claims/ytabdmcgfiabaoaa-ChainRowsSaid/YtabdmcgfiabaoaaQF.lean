/- Deltas as arguments. Conditions: as named in each theorem. -/
import Derived.Test.YtabdmcgfiabaoaaChCompose
import Derived.Test.YtabdmcgfiabaoaaChTidy
namespace Go.Proofs.Ytabdmcgfiabaoaa
open Go.RowKit
set_option linter.unusedVariables false
theorem stepsB_len (bs : List By) : (stepsB bs).length ≤ bs.length := by
  have h := small_fold bs bs.length (Nat.le_refl _)
  rw [List.take_length] at h
  have h1 := h.1
  have h2 := chTexts_len (bs.foldl stepB ([], ByteArray.empty)).2
  unfold stepsB finB
  rw [List.length_append]
  omega
theorem CompR.len {a b : Dl} {E : Int} {D : Dl} (h : CompR a b E D) : D.steps.length ≤ 1000000 := by
  rcases h with ⟨h1, h2, rfl⟩ | ⟨h1, h2, h3, h4, rfl⟩ | ⟨h1, h2, h3, h4, h5, rfl⟩ | ⟨h1, h2, h3, h4, h5, rfl⟩
  · simp [zeroD]
  · simp [zeroD]
  · simp [zeroD]
  · have a1 := stepsB_len (compB a.steps b.steps)
    have a2 := compB_len a.steps b.steps
    rw [bytes_len_right h2.2.2.2.2.1] at a2
    have a3 := h2.2.2.2.1
    have a4 := h2.2.2.2.2.2
    simp only
    omega
end Go.Proofs.Ytabdmcgfiabaoaa
namespace Go.Proofs.Ytabdmcgfiabaoaa
open Go.RowKit
set_option linter.unusedVariables false
def FoldS (d : Dl) : List Dl → Int → Dl → Prop
  | [], E, D => E = 0 ∧ D = d
  | x :: l, E, D => ∃ E1 D1, CompR d x E1 D1 ∧ ((E1 ≠ 0 ∧ E = E1 ∧ D = zeroD) ∨ (E1 = 0 ∧ FoldS D1 l E D))
theorem FoldS.one : ∀ {l : List Dl} {d : Dl} {E E' : Int} {D D' : Dl}, FoldS d l E D → FoldS d l E' D' → E = E' ∧ D = D' := by
  intro l
  induction l with
  | nil => rintro d E E' D D' ⟨rfl, rfl⟩ ⟨rfl, rfl⟩; exact ⟨rfl, rfl⟩
  | cons x l ih =>
    rintro d E E' D D' ⟨E1, D1, h1, h2⟩ ⟨E2, D2, k1, k2⟩
    obtain ⟨rfl, rfl⟩ := h1.one k1
    rcases h2 with ⟨a, rfl, rfl⟩ | ⟨a, h3⟩
    · rcases k2 with ⟨b, rfl, rfl⟩ | ⟨b, k3⟩
      · exact ⟨rfl, rfl⟩
      · exact absurd b a
    · rcases k2 with ⟨b, rfl, rfl⟩ | ⟨b, k3⟩
      · exact absurd a b
      · exact ih h3 k3
def tidyD (d : Dl) : Dl := ⟨d.basis, d.mark, d.size, tidyL d.steps⟩
def FoldR : List Dl → Int → Dl → Prop
  | [], E, D => E = 1 ∧ D = zeroD
  | d :: l, E, D => (¬ RightP d ∧ E = 1 ∧ D = zeroD) ∨ (RightP d ∧ FoldS (tidyD d) l E D)
theorem FoldR.one {l : List Dl} {E E' : Int} {D D' : Dl} (h : FoldR l E D) (k : FoldR l E' D') : E = E' ∧ D = D' := by
  cases l with
  | nil => obtain ⟨rfl, rfl⟩ := h; obtain ⟨rfl, rfl⟩ := k; exact ⟨rfl, rfl⟩
  | cons d l =>
    rcases h with ⟨a, rfl, rfl⟩ | ⟨a, h2⟩
    · rcases k with ⟨b, rfl, rfl⟩ | ⟨b, k2⟩
      · exact ⟨rfl, rfl⟩
      · exact absurd b a
    · rcases k with ⟨b, rfl, rfl⟩ | ⟨b, k2⟩
      · exact absurd a b
      · exact h2.one k2
theorem drop_cons {α : Type} {l : List α} {k : Nat} (hk : k < l.length) : l.drop k = l[k] :: l.drop (k + 1) := List.drop_eq_getElem_cons hk
theorem texts_small (s : ByteArray) : ∀ x ∈ texts s, x.text.size ≤ 4096 := by
  intro x hx; unfold texts at hx; simp only [List.mem_map] at hx; obtain ⟨i, -, rfl⟩ := hx
  simp only [ByteArray.size_extract]; omega
theorem copyL_text {out : List St} (a n : Int) (h : ∀ x ∈ out, x.text.size ≤ 4096) : ∀ x ∈ copyL out a n, x.text.size ≤ 4096 := by
  have h0 : ByteArray.empty.size = 0 := rfl
  rcases List.eq_nil_or_concat out with rfl | ⟨o, x, rfl⟩
  · intro y hy; rw [copyL_nil] at hy; simp only [List.mem_singleton] at hy; rw [hy]; simp only; omega
  · rw [List.concat_eq_append] at h ⊢
    rw [copyL_snoc]
    have hx := h x (by simp)
    split
    · intro y hy
      rcases List.mem_append.1 hy with h1 | h1
      · exact h y (by simp [h1])
      · simp only [List.mem_singleton] at h1; rw [h1]; exact hx
    · intro y hy
      rcases List.mem_append.1 hy with h1 | h1
      · exact h y h1
      · simp only [List.mem_singleton] at h1; rw [h1]; simp only; omega
theorem fold_text (bs : List By) : ∀ s : Sm, (∀ x ∈ s.1, x.text.size ≤ 4096) → ∀ x ∈ (bs.foldl stepB s).1, x.text.size ≤ 4096 := by
  induction bs with
  | nil => intro s h; exact h
  | cons b bs ih =>
    intro s h
    rw [List.foldl_cons]
    refine ih _ ?_
    cases b with
    | told c => exact h
    | src a => exact copyL_text _ _ (fun x hx => (List.mem_append.1 hx).elim (h x) (texts_small _ x))
theorem stepsB_ok {bs : List By} (hw : Wf bs) (hl : bs.length ≤ 1000000) : ∀ x ∈ stepsB bs, x.ok := by
  intro x hx
  have h1 := (steps_fine bs hw x hx).2
  have hs := small_fold bs bs.length (Nat.le_refl _)
  rw [List.take_length] at hs
  have h2 : 0 ≤ x.len ∧ x.len ≤ (bs.length : Int) := texts_bd _ hs.2 (by omega) x hx
  have h3 : x.text.size ≤ 4096 := by
    unfold stepsB finB at hx
    rcases List.mem_append.1 hx with h | h
    · exact fold_text bs _ (by simp) x h
    · exact texts_small _ x h
  exact ⟨h1, WalkArith.wf_i64 (by omega), by unfold maxLen; omega⟩
theorem wf_compB (a b : List St) : Wf (compB a b) := by
  intro f hf
  unfold compB at hf
  rw [List.mem_flatMap] at hf
  obtain ⟨y, hy, h⟩ := hf
  cases y with
  | told c => simp [sub] at h
  | src g =>
    simp only [sub, Option.mem_toList] at h
    exact wf_bytes a f (List.mem_of_getElem? h)
theorem CompR.ok {a b : Dl} {E : Int} {D : Dl} (h : CompR a b E D) (ha : a.ok) (hb : b.ok) : D.ok := by
  have hz : zeroD.ok := ⟨by decide, by decide, by decide, by simp [zeroD]⟩
  rcases h with ⟨h1, h2, rfl⟩ | ⟨h1, h2, h3, h4, rfl⟩ | ⟨h1, h2, h3, h4, h5, rfl⟩ | ⟨h1, h2, h3, h4, h5, rfl⟩
  · exact hz
  · exact hz
  · exact hz
  · refine ⟨hb.1, ha.2.1, hb.2.2.1, stepsB_ok (wf_compB _ _) ?_⟩
    have a2 := compB_len a.steps b.steps
    rw [bytes_len_right h2.2.2.2.2.1] at a2
    have a3 := h2.2.2.2.1
    have a4 := h2.2.2.2.2.2
    omega
theorem right_weight {d : Dl} (h : RightP d) : weight d.steps ≤ 524288 ∧ d.steps.length ≤ 524288 := by
  have h1 := weight_right h.2.2.2.2.1
  have h2 := sum2_len h.2.2.2.2.1
  have h3 := h.2.2.2.1
  have h4 := h.2.2.2.2.2
  omega
theorem tidyD_ok {d : Dl} (h : RightP d) (ho : d.ok) : (tidyD d).ok ∧ (tidyL d.steps).length ≤ 524288 := by
  have hw := right_weight h
  have e := tidy_bytes d.steps (fun x hx => (ho.2.2.2 x hx).1)
  have hl := bytesL_len d.steps
  refine ⟨⟨ho.1, ho.2.1, ho.2.2.1, ?_⟩, ?_⟩
  · show ∀ x ∈ tidyL d.steps, x.ok
    rw [e]; exact stepsB_ok (wf_bytes _) (by omega)
  · rw [e]; have := stepsB_len (bytesL d.steps); omega
instance : Inhabited Dl := ⟨zeroD⟩
structure DV where
  d : Dl
  ao : Option Addr
  len : Nat
  cap : Nat
deriving Inhabited
def DV.c (x : DV) : List Value := [.string x.d.basis, .string x.d.mark, .int .i64 x.d.size, .slice x.ao x.len x.cap]
def DV.good (w : World) (x : DV) : Prop := Rs w x.ao x.len x.cap 3 x.d.steps St.c ∧ x.d.ok
theorem dv_len (x : DV) : x.c.length = 4 := rfl
theorem DV.good.below {w w' : World} {x : DV} (h : x.good w) (hb : Below w.heap.size w w') : x.good w' := ⟨h.1.below hb (Nat.le_refl _), h.2⟩
theorem rs_d {w : World} {ao : Option Addr} {len cap : Nat} {l : List DV} (h : Rs w ao len cap 4 l DV.c) (h0 : 0 < len) :
    ∃ b off, ao = some ⟨b, off, none⟩ ∧ b < w.heap.size ∧ ∀ k, (hk : k < l.length) → w.cell? ⟨b, off + k * 4, none⟩ = some (.string l[k].d.basis) ∧ w.cell? ⟨b, off + k * 4 + 1, none⟩ = some (.string l[k].d.mark) ∧ w.cell? ⟨b, off + k * 4 + 2, none⟩ = some (.int .i64 l[k].d.size) ∧ w.cell? ⟨b, off + k * 4 + 3, none⟩ = some (.slice l[k].ao l[k].len l[k].cap) := by
  obtain ⟨_, _, _, h4⟩ := h
  obtain ⟨b, off, e, hb, hc⟩ := h4 h0
  exact ⟨b, off, e, hb, fun k hk => ⟨by simpa using hc k hk 0 _ rfl, by simpa [Nat.add_assoc] using hc k hk 1 _ rfl, by simpa [Nat.add_assoc] using hc k hk 2 _ rfl, by simpa [Nat.add_assoc] using hc k hk 3 _ rfl⟩⟩
def dls (l : List DV) : List Dl := l.map DV.d
def FoldPost (l : List Dl) (w : World) (e : Ending) (w' : World) : Prop :=
  ∃ (E : Int) (D : Dl) (v : Value), e = .returned (.tuple #[.agg #[.string D.basis, .string D.mark, .int .i64 D.size, v], .int .i64 E]) ∧ FoldR l E D ∧ D.steps.length ≤ 1000000 ∧ Own w' w.heap.size v D.steps ∧ Below w.heap.size w w'
theorem FoldPost.fail {l : List Dl} {w w' : World} {E : Int} (h : FoldR l E zeroD) (hB : Below w.heap.size w w') : FoldPost l w (.returned (.tuple #[.agg #[.string ByteArray.empty, .string ByteArray.empty, .int .i64 0, .slice none 0 0], .int .i64 E])) w' :=
  ⟨E, zeroD, _, rfl, h, by simp [zeroD], Own.nil _ _, hB⟩
end Go.Proofs.Ytabdmcgfiabaoaa
