/- A store's generations: the plain law. No conditions. -/
import Derived.Test.YtgkcnocfijckoaaGreatQQ
import Derived.Test.YtgkcnocfijckoaaGreatQM
import Derived.Test.YtgkcnocfijckoaaGreatDlRead
import Derived.Test.YtgkcnocfijckoaaGreatDlRefBytes
import Derived.Test.YtgkcnocfijckoaaGreatDlCore
import Derived.BigQuiet
import Derived.Test.YtgkcnocfijckoaaGreatQI
import Derived.Deep.RegionHeld3
namespace Go.Proofs.YtgkcnocfijckoaaGreat
open Go.RowKit Sg
set_option linter.unusedVariables false
set_option linter.unusedSimpArgs false
/-- a generation that is kept -/
structure Gn where
  gen : Int
  basis : Int
  mark : ByteArray
  text : ByteArray
deriving Inhabited
def Gn.c (g : Gn) : List Value := [.int .i64 g.gen, .int .i64 g.basis, .string g.mark, .string g.text]
theorem gn_len (g : Gn) : g.c.length = 4 := rfl
theorem gn_one (g : Gn) : ∀ u ∈ g.c, u.oneCell' = true := by
  intro u hu
  simp only [Gn.c, List.mem_cons, List.not_mem_nil, or_false] at hu
  rcases hu with rfl | rfl | rfl | rfl <;> rfl
def Gn.g (g : Gn) : G := ⟨g.gen, g.basis, (g.text.size : Int), g.mark⟩
def gsG (l : List Gn) : List G := l.map Gn.g
theorem gsG_len (l : List Gn) : (gsG l).length = l.length := by simp [gsG]
theorem gl_gsG (l : List Gn) : gl (gsG l) = l.map Gn.gen := by unfold gl gsG; rw [List.map_map]; rfl
/-- where a generation lies, or belongs -/
def atN : List Gn → Int → Nat
  | [], _ => 0
  | g :: l, n => if g.gen < n then atN l n + 1 else 0
def hasN (l : List Gn) (n : Int) : Bool := match l[atN l n]? with | some g => g.gen == n | none => false
theorem atN_le (l : List Gn) (n : Int) : atN l n ≤ l.length := by
  induction l with
  | nil => exact Nat.le_refl _
  | cons g l ih => unfold atN; split <;> simp <;> omega
theorem atN_below {l : List Gn} {n : Int} : ∀ {i : Nat} {g : Gn}, i < atN l n → l[i]? = some g → g.gen < n := by
  induction l with
  | nil => intro i g h _; unfold atN at h; omega
  | cons x l ih =>
    intro i g h hg
    unfold atN at h
    split at h
    · cases i with
      | zero => simp at hg; rw [← hg]; assumption
      | succ i =>
        have h2 : l[i]? = some g := by simpa using hg
        exact ih (i := i) (by omega) h2
    · omega
theorem atN_at {l : List Gn} {n : Int} : ∀ {g : Gn}, l[atN l n]? = some g → ¬ g.gen < n := by
  induction l with
  | nil => intro g h; simp at h
  | cons x l ih =>
    intro g hg
    unfold atN at hg
    split at hg
    · exact ih (by simpa using hg)
    · simp at hg; rw [← hg]; assumption
theorem atN_succ {l : List Gn} {n : Int} {k : Nat} {g : Gn} (hk : k ≤ atN l n) (hg : l[k]? = some g) (h : g.gen < n) : k + 1 ≤ atN l n := by
  by_cases he : k = atN l n
  · subst he; exact absurd h (atN_at hg)
  · omega
theorem atN_stop {l : List Gn} {n : Int} {k : Nat} {g : Gn} (hk : k ≤ atN l n) (hg : l[k]? = some g) (h : ¬ g.gen < n) : k = atN l n := by
  by_cases he : k < atN l n
  · exact absurd (atN_below he hg) h
  · omega
theorem hasN_at {l : List Gn} {n : Int} (h : hasN l n = true) : ∃ g, l[atN l n]? = some g ∧ g.gen = n := by
  unfold hasN at h
  split at h
  · rename_i g hg; exact ⟨g, hg, by simpa using h⟩
  · cases h
/-- rising -/
def Ris (l : List Gn) : Prop := (l.map Gn.gen).Pairwise (· < ·)
theorem Ris.at {l : List Gn} (h : Ris l) {i : Nat} {g : Gn} (hg : l[i]? = some g) : atN l g.gen = i ∧ hasN l g.gen = true := by
  have h2 : ∀ j x, j < i → l[j]? = some x → x.gen < g.gen := fun j x hj hx => by
    unfold Ris at h
    rw [List.pairwise_iff_getElem] at h
    obtain ⟨h3, h4⟩ := List.getElem?_eq_some_iff.1 hx
    obtain ⟨h5, h6⟩ := List.getElem?_eq_some_iff.1 hg
    have := h j i (by simpa using h3) (by simpa using h5) hj
    simpa [h4, h6] using this
  have key : ∀ j, j ≤ i → j ≤ atN l g.gen := by
    intro j
    induction j with
    | zero => intro _; exact Nat.zero_le _
    | succ j ih =>
      intro hj
      have hjl : j < l.length := Nat.lt_of_lt_of_le hj (Nat.le_of_lt (List.getElem?_eq_some_iff.1 hg).1)
      exact atN_succ (ih (by omega)) (List.getElem?_eq_getElem hjl) (h2 j _ (by omega) (List.getElem?_eq_getElem hjl))
  have e := (atN_stop (key i (Nat.le_refl _)) hg (by omega)).symm
  exact ⟨e, by unfold hasN; rw [e, hg]; simp⟩
theorem Ris.has_iff {l : List Gn} (h : Ris l) (n : Int) : hasN l n = true ↔ ∃ g ∈ l, g.gen = n := by
  constructor
  · intro h1
    obtain ⟨g, h2, h3⟩ := hasN_at h1
    exact ⟨g, List.mem_of_getElem? h2, h3⟩
  · rintro ⟨g, hg, rfl⟩
    obtain ⟨i, hi⟩ := List.getElem?_of_mem hg
    exact (h.at hi).2
/-- does a generation hang on another one -/
def hangsN (l : List Gn) (n : Int) : Bool := l.any (fun g => g.basis == n && g.gen != n)
def setN (l : List Gn) (g : Gn) : List Gn := if hasN l g.gen then l.set (atN l g.gen) g else l.take (atN l g.gen) ++ g :: l.drop (atN l g.gen)
/-- a delta makes a text of a basis, under a book that knows both -/
def AppOk (S : Bk) (b : ByteArray) (d : Dl) (t : ByteArray) : Prop := RightP d ∧ d.basis = mkI S b ∧ runS b d.steps ByteArray.empty = (t, 0) ∧ d.mark = mkI S t
theorem mkI_ext {S S' : Bk} {t : ByteArray} (h : Ext S S') (ht : bytesOf t ∈ S) : mkI S' t = mkI S t := by unfold mkI; rw [h.idx ht]
theorem AppOk.ext {S S' : Bk} {b t : ByteArray} {d : Dl} (h : AppOk S b d t) (hE : Ext S S') (hb : bytesOf b ∈ S) (ht : bytesOf t ∈ S) : AppOk S' b d t :=
  ⟨h.1, by rw [mkI_ext hE hb]; exact h.2.1, h.2.2.1, by rw [mkI_ext hE ht]; exact h.2.2.2⟩
theorem AppOk.apply {S : Bk} {b t : ByteArray} {d : Dl} (h : AppOk S b d t) (hb : bytesOf b ∈ S) (ht : bytesOf t ∈ S) : applyI S b d = (t, 0) ∧ applyB S b d = S := by
  obtain ⟨h1, h2, h3, h4⟩ := h
  have e1 : addS S (bytesOf b) = S := addS_mem hb
  have := applyI_ok (S := S) (b := b) (d := d) (rightI_iff.2 h1) (by rw [h2]; simp) (by rw [h3]) (by rw [h3, e1, h4]; simp)
  rw [h3, e1] at this
  simp only at this
  rw [addS_mem ht] at this
  exact this
/-- what may stand in a store, each generation with its image -/
structure GOk (S : Bk) (l : List Gn) (im : Int → ByteArray) (g : Gn) : Prop where
  lo : 0 ≤ g.gen
  hi : g.gen ≤ 4611686018427387903
  blo : 0 ≤ g.basis
  len : g.text.size ≤ 524288
  ilen : (im g.gen).size ≤ 524288
  mem : bytesOf (im g.gen) ∈ S
  mark : g.mark = mkI S (im g.gen)
  way : (g.basis = g.gen ∧ g.text = im g.gen) ∨ (g.basis < g.gen ∧ (∃ h ∈ l, h.gen = g.basis) ∧ ∃ d, readD g.text.data.toList = (d, 0) ∧ AppOk S (im g.basis) d (im g.gen))
structure Inv (S : Bk) (l : List Gn) (im : Int → ByteArray) : Prop where
  up : Ris l
  each : ∀ g ∈ l, GOk S l im g
  len : l.length ≤ 4096
theorem Inv.nil (S : Bk) (im : Int → ByteArray) : Inv S [] im := ⟨List.Pairwise.nil, (fun g h => by cases h), by simp⟩
theorem GOk.ext {S S' : Bk} {l : List Gn} {im : Int → ByteArray} {g : Gn} (h : GOk S l im g) (hl : ∀ x ∈ l, bytesOf (im x.gen) ∈ S) (hE : Ext S S') : GOk S' l im g := by
  refine ⟨h.lo, h.hi, h.blo, h.len, h.ilen, hE.mem h.mem, by rw [mkI_ext hE h.mem]; exact h.mark, ?_⟩
  rcases h.way with h1 | ⟨h1, ⟨x, hx, hxg⟩, d, h3, h4⟩
  · exact .inl h1
  · exact .inr ⟨h1, ⟨x, hx, hxg⟩, d, h3, h4.ext hE (by rw [← hxg]; exact hl x hx) h.mem⟩
theorem Inv.ext {S S' : Bk} {l : List Gn} {im : Int → ByteArray} (h : Inv S l im) (hE : Ext S S') : Inv S' l im :=
  ⟨h.up, fun g hg => (h.each g hg).ext (fun x hx => (h.each x hx).mem) hE, h.len⟩
theorem Inv.ok {S : Bk} {l : List Gn} {im : Int → ByteArray} (h : Inv S l im) : Ok (gsG l) := by
  intro k hk
  have hk2 : k < l.length := by rw [gsG_len] at hk; exact hk
  have hg : (gsG l).getD k default = l[k].g := by
    rw [getD_g hk]; simp [gsG]
  have hG := h.each l[k] (List.getElem_mem hk2)
  have hup := h.up
  unfold Ris at hup
  rw [List.pairwise_iff_getElem] at hup
  unfold chkAt
  rw [hg]
  have e1 : ¬ (l[k].g.gen < 0 ∨ l[k].g.bytes < 0 ∨ 524288 < l[k].g.bytes) := by
    have := hG.lo; have := hG.len
    show ¬ (l[k].gen < 0 ∨ (l[k].text.size : Int) < 0 ∨ 524288 < (l[k].text.size : Int))
    omega
  rw [if_neg e1]
  have e2 : ¬ (0 < k ∧ l[k].g.gen ≤ ((gsG l).getD (k - 1) default).gen) := by
    rintro ⟨h0, h1⟩
    have h2 : (gsG l).getD (k - 1) default = (l[k - 1]'(by omega)).g := by
      rw [getD_g (by rw [gsG_len]; omega)]; simp [gsG]
    rw [h2] at h1
    have h3 := hup (k - 1) k (by simp; omega) (by simpa using hk2) (by omega)
    simp only [List.getElem_map] at h3
    have h4 : l[k].gen ≤ (l[k - 1]'(by omega)).gen := h1
    omega
  rw [if_neg e2]
  refine if_neg ?_
  rintro ⟨h1, h2⟩
  rcases hG.way with ⟨h3, _⟩ | ⟨h3, ⟨x, hx, hxg⟩, _⟩
  · exact h1 h3
  · apply h2
    obtain ⟨i, hi⟩ := List.getElem?_of_mem hx
    obtain ⟨hi1, hi2⟩ := List.getElem?_eq_some_iff.1 hi
    have hik : i < k := by
      rcases Nat.lt_trichotomy i k with h5 | h5 | h5
      · exact h5
      · subst h5
        have h6 := congrArg Gn.gen hi2
        have h7 : x.gen = l[i].basis := hxg
        omega
      · have := hup k i (by simpa using hk2) (by simpa using hi1) h5
        simp only [List.getElem_map, hi2] at this
        omega
    rw [List.mem_map]
    refine ⟨x.g, ?_, hxg⟩
    refine List.mem_of_getElem? (i := i) ?_
    rw [List.getElem?_take, if_pos hik]
    unfold gsG; rw [List.getElem?_map, hi]; rfl
/-- the road, step by step -/
theorem road_steps {gs : List G} (h : Ok gs) : ∀ (k : Nat) (n : Int), n ∈ gl gs → idx gs n ≤ k → ∃ r, roadL gs n = r ∧ r ≠ [] ∧ r.getLast? = some n ∧ (∀ x ∈ r, x ∈ gl gs) ∧ (∀ x, r[0]? = some x → basisOf gs x = x) ∧ (∀ i x y, r[i]? = some x → r[i + 1]? = some y → basisOf gs y = x ∧ basisOf gs y ≠ y) := by
  intro k
  induction k with
  | zero =>
    intro n hn hk
    rw [roadL_eq h hn]
    by_cases hb : basisOf gs n = n
    · rw [if_pos hb]
      refine ⟨[n], rfl, by simp, by simp, fun x hx => by simp at hx; rw [hx]; exact hn, fun x hx => by simp at hx; rw [← hx]; exact hb, fun i x y h1 h2 => by simp at h2⟩
    · have := (basis_in h hn hb).2; omega
  | succ k ih =>
    intro n hn hk
    rw [roadL_eq h hn]
    by_cases hb : basisOf gs n = n
    · rw [if_pos hb]
      refine ⟨[n], rfl, by simp, by simp, fun x hx => by simp at hx; rw [hx]; exact hn, fun x hx => by simp at hx; rw [← hx]; exact hb, fun i x y h1 h2 => by simp at h2⟩
    · rw [if_neg hb]
      obtain ⟨h1, h2⟩ := basis_in h hn hb
      obtain ⟨r, h3, h4, h5, h6, h7, h8⟩ := ih (basisOf gs n) h1 (by omega)
      refine ⟨roadL gs (basisOf gs n) ++ [n], rfl, by simp, by simp, ?_, ?_, ?_⟩
      · intro x hx
        rcases List.mem_append.1 hx with hx | hx
        · rw [h3] at hx; exact h6 x hx
        · simp at hx; rw [hx]; exact hn
      · intro x hx
        rw [h3] at hx
        have hl : 0 < r.length := List.length_pos_iff.2 h4
        rw [List.getElem?_append_left hl] at hx
        exact h7 x hx
      · intro i x y hx hy
        rw [h3] at hx hy
        by_cases hi : i + 1 < r.length
        · rw [List.getElem?_append_left (by omega)] at hx
          rw [List.getElem?_append_left hi] at hy
          exact h8 i x y hx hy
        · have hi2 : i + 1 = r.length := by
            have h9 := (List.getElem?_eq_some_iff.1 hy).1
            rw [List.length_append] at h9
            simp at h9; omega
          rw [List.getElem?_append_left (by omega)] at hx
          rw [List.getElem?_append_right (by omega), hi2] at hy
          simp at hy
          rw [List.getLast?_eq_getElem?, show r.length - 1 = i by omega, hx] at h5
          rw [← hy]
          exact ⟨(Option.some.inj h5).symm, hb⟩
end Go.Proofs.YtgkcnocfijckoaaGreat
namespace Go.Proofs.YtgkcnocfijckoaaGreat
open Go.RowKit Sg
set_option linter.unusedVariables false
set_option linter.unusedSimpArgs false
def takesI (S : Bk) (t mk : ByteArray) : Prop := bytesOf t ∈ S ∧ mk = mkI S t
/-- a generation by another mark, on which one hangs, stays -/
def blockN (l : List Gn) (n : Int) (mk : ByteArray) : Prop := ∃ g, l[atN l n]? = some g ∧ g.gen = n ∧ g.mark ≠ mk ∧ hangsN l n = true
def updI (im : Int → ByteArray) (n : Int) (t : ByteArray) : Int → ByteArray := fun k => if k = n then t else im k
theorem updI_same (im : Int → ByteArray) (n : Int) (t : ByteArray) : updI im n t n = t := if_pos rfl
theorem updI_other {im : Int → ByteArray} {n k : Int} {t : ByteArray} (h : k ≠ n) : updI im n t k = im k := if_neg h
abbrev DoT := Int × List Gn × (Int → ByteArray) × Bk
section
open Classical
noncomputable def doW (S : Bk) (l : List Gn) (im : Int → ByteArray) (z : RSt) : DoT :=
  let z1 := stNum z
  let z2 := stRaw 32 z1.2
  let z3 := stRaw z2.2.1.length z2.2
  if z3.2.2 ≠ 0 then (z3.2.2, l, im, S) else if 524288 < z3.1.length then (4, l, im, S) else if ¬ takesI S (mkB z3.1) (mkB z2.1) then (6, l, im, S)
  else if blockN l z1.1 (mkB z2.1) then (15, l, im, S) else (0, setN l ⟨z1.1, z1.1, mkB z2.1, mkB z3.1⟩, updI im z1.1 (mkB z3.1), S)
noncomputable def doD (S : Bk) (l : List Gn) (im : Int → ByteArray) (z : RSt) : DoT :=
  let z0 := stNum z
  let z1 := stNum z0.2
  let z2 := stRaw 32 z1.2
  let z3 := stRaw z2.2.1.length z2.2
  if z3.2.2 ≠ 0 then (z3.2.2, l, im, S) else if z0.1 ≤ z1.1 then (2, l, im, S)
  else if (readD z3.1).2 ≠ 0 then ((readD z3.1).2, l, im, S)
  else if hasN l z1.1 = false then (8, l, im, S)
  else if (applyI S (im z1.1) (readD z3.1).1).2 ≠ 0 then ((applyI S (im z1.1) (readD z3.1).1).2, l, im, applyB S (im z1.1) (readD z3.1).1)
  else if (readD z3.1).1.mark ≠ mkB z2.1 then (6, l, im, applyB S (im z1.1) (readD z3.1).1)
  else if blockN l z0.1 (mkB z2.1) then (15, l, im, applyB S (im z1.1) (readD z3.1).1)
  else (0, setN l ⟨z0.1, z1.1, mkB z2.1, mkB z3.1⟩, updI im z0.1 (applyI S (im z1.1) (readD z3.1).1).1, applyB S (im z1.1) (readD z3.1).1)
def staysN (f c : Int) (n : Int) : Bool := decide (f ≤ n) && decide (n < c)
noncomputable def doG (S : Bk) (l : List Gn) (im : Int → ByteArray) (z : RSt) : DoT :=
  let z0 := stNum z
  let z1 := stNum z0.2
  let z2 := stEnd z1.2
  if z2.2 ≠ 0 then (z2.2, l, im, S)
  else if (∃ g ∈ l, staysN z0.1 z1.1 g.gen = true ∧ staysN z0.1 z1.1 g.basis = false) then (13, l, im, S)
  else (0, l.filter (fun g => staysN z0.1 z1.1 g.gen), im, S)
noncomputable def doS (S : Bk) (l : List Gn) (im : Int → ByteArray) : List UInt8 → DoT
  | [] => (3, l, im, S)
  | c :: r => if c = 87 then doW S l im (r, 0) else if c = 68 then doD S l im (r, 0) else if c = 71 then doG S l im (r, 0) else (5, l, im, S)
end
theorem mem_setN {l : List Gn} {g x : Gn} (h : x ∈ setN l g) : x = g ∨ x ∈ l := by
  unfold setN at h
  split at h
  · rcases List.mem_or_eq_of_mem_set h with h | h
    · exact .inr h
    · exact .inl h
  · rcases List.mem_append.1 h with h | h
    · exact .inr (List.mem_of_mem_take h)
    · rcases List.mem_cons.1 h with h | h
      · exact .inl h
      · exact .inr (List.mem_of_mem_drop h)
theorem setN_mem_gen {l : List Gn} {g x : Gn} (h : x ∈ l) : ∃ y ∈ setN l g, y.gen = x.gen := by
  by_cases he : x.gen = g.gen
  · refine ⟨g, ?_, he.symm⟩
    unfold setN
    split
    · rename_i hh
      obtain ⟨y, hy, _⟩ := hasN_at hh
      exact List.mem_of_getElem? (i := atN l g.gen) (by rw [List.getElem?_set_self (List.getElem?_eq_some_iff.1 hy).1])
    · exact List.mem_append_right _ (List.mem_cons_self ..)
  · refine ⟨x, ?_, rfl⟩
    obtain ⟨i, hi⟩ := List.getElem?_of_mem h
    unfold setN
    split
    · rename_i hh
      obtain ⟨y, hy, hyg⟩ := hasN_at hh
      have hne : i ≠ atN l g.gen := by
        intro e; subst e; rw [hi] at hy; exact he (by rw [Option.some.inj hy]; exact hyg)
      exact List.mem_of_getElem? (i := i) (by rw [List.getElem?_set_ne (fun e => hne e.symm)]; exact hi)
    · have h2 : x ∈ l.take (atN l g.gen) ++ l.drop (atN l g.gen) := by rw [List.take_append_drop]; exact h
      rcases List.mem_append.1 h2 with h2 | h2
      · exact List.mem_append_left _ h2
      · exact List.mem_append_right _ (List.mem_cons_of_mem _ h2)
theorem self_setN (l : List Gn) (g : Gn) : g ∈ setN l g := by
  unfold setN
  split
  · rename_i hh
    obtain ⟨y, hy, _⟩ := hasN_at hh
    exact List.mem_of_getElem? (i := atN l g.gen) (by rw [List.getElem?_set_self (List.getElem?_eq_some_iff.1 hy).1])
  · exact List.mem_append_right _ (List.mem_cons_self ..)
theorem Ris.get {l : List Gn} (h : Ris l) {i j : Nat} {x y : Gn} (hx : l[i]? = some x) (hy : l[j]? = some y) (hij : i < j) : x.gen < y.gen := by
  unfold Ris at h
  rw [List.pairwise_iff_getElem] at h
  obtain ⟨a, b⟩ := List.getElem?_eq_some_iff.1 hx
  obtain ⟨c, d⟩ := List.getElem?_eq_some_iff.1 hy
  have := h i j (by simpa using a) (by simpa using c) hij
  simpa [b, d] using this
theorem ris_of {l : List Gn} (h : ∀ (i j : Nat) (x y : Gn), i < j → l[i]? = some x → l[j]? = some y → x.gen < y.gen) : Ris l := by
  unfold Ris
  rw [List.pairwise_iff_getElem]
  intro i j hi hj hij
  rw [List.length_map] at hi hj
  simp only [List.getElem_map]
  exact h i j _ _ hij (List.getElem?_eq_getElem hi) (List.getElem?_eq_getElem hj)
theorem Ris.set {l : List Gn} (h : Ris l) (g : Gn) : Ris (setN l g) := by
  have hbel : ∀ i x, i < atN l g.gen → l[i]? = some x → x.gen < g.gen := fun i x hi hx => atN_below hi hx
  unfold setN
  split
  · rename_i hh
    obtain ⟨y, hy, hyg⟩ := hasN_at hh
    have e : (l.set (atN l g.gen) g).map Gn.gen = l.map Gn.gen := by
      rw [List.map_set]
      apply List.ext_getElem?
      intro i
      by_cases hi : i = atN l g.gen
      · subst hi
        rw [List.getElem?_set_self (by rw [List.length_map]; exact (List.getElem?_eq_some_iff.1 hy).1), List.getElem?_map, hy, ← hyg]; rfl
      · rw [List.getElem?_set_ne (fun e => hi e.symm)]
    unfold Ris; rw [e]; exact h
  · rename_i hh
    have hab : ∀ i x, atN l g.gen ≤ i → l[i]? = some x → g.gen < x.gen := by
      intro i x hi hx
      obtain ⟨hl, _⟩ := List.getElem?_eq_some_iff.1 hx
      have h1 : l[atN l g.gen]? = some (l[atN l g.gen]'(by omega)) := List.getElem?_eq_getElem (by omega)
      have h2 := atN_at h1
      have h3 : (l[atN l g.gen]'(by omega)).gen ≠ g.gen := by
        intro e
        apply hh
        unfold hasN; rw [h1]; simp [e]
      by_cases he : i = atN l g.gen
      · subst he
        rw [h1] at hx
        rw [← Option.some.inj hx]; omega
      · have := h.get h1 hx (by omega); omega
    have hlt : (l.take (atN l g.gen)).length = atN l g.gen := by rw [List.length_take]; have := atN_le l g.gen; omega
    have key : ∀ i x, (l.take (atN l g.gen) ++ g :: l.drop (atN l g.gen))[i]? = some x → (i < atN l g.gen ∧ l[i]? = some x) ∨ (i = atN l g.gen ∧ x = g) ∨ (atN l g.gen < i ∧ l[i - 1]? = some x) := by
      intro i x hx
      by_cases h1 : i < atN l g.gen
      · left
        rw [List.getElem?_append_left (by omega), List.getElem?_take, if_pos h1] at hx
        exact ⟨h1, hx⟩
      · right
        rw [List.getElem?_append_right (by omega), hlt] at hx
        by_cases h2 : i = atN l g.gen
        · left
          rw [h2, Nat.sub_self] at hx
          exact ⟨h2, (Option.some.inj hx).symm⟩
        · right
          obtain ⟨k, hk⟩ : ∃ k, i - atN l g.gen = k + 1 := ⟨i - atN l g.gen - 1, by omega⟩
          rw [hk, List.getElem?_cons_succ, List.getElem?_drop] at hx
          refine ⟨by omega, ?_⟩
          rw [show i - 1 = atN l g.gen + k by omega]; exact hx
    refine ris_of (fun i j x y hij hx hy => ?_)
    rcases key i x hx with ⟨a1, a2⟩ | ⟨a1, a2⟩ | ⟨a1, a2⟩ <;> rcases key j y hy with ⟨b1, b2⟩ | ⟨b1, b2⟩ | ⟨b1, b2⟩
    · exact h.get a2 b2 hij
    · rw [b2]; exact hbel i x a1 a2
    · exact h.get a2 b2 (by omega)
    · omega
    · omega
    · rw [a2]; exact hab (j - 1) y (by omega) b2
    · omega
    · omega
    · exact h.get a2 b2 (by omega)
theorem setN_len (l : List Gn) (g : Gn) : (setN l g).length ≤ l.length + 1 := by
  unfold setN
  split
  · simp
  · simp; have := atN_le l g.gen; omega
theorem mkI_inj {S : Bk} {a b : ByteArray} (ha : bytesOf a ∈ S) (hb : bytesOf b ∈ S) (hS : S.length ≤ 100000000) (e : mkI S a = mkI S b) : a = b := by
  have h1 := List.idxOf_lt_length_of_mem ha
  have h2 := List.idxOf_lt_length_of_mem hb
  have h3 := numS_inj _ _ (by omega) (by omega) (congrArg (fun x : ByteArray => x.data.toList) e)
  have h4 := idx_inj ha hb (by omega)
  exact ByteArray.ext (Array.ext' h4)
/-- one put in its place: what stands stays right -/
theorem Inv.set {S : Bk} {l : List Gn} {im : Int → ByteArray} (h : Inv S l im) (hS : S.length ≤ 100000000) {n b : Int} {mk tx t : ByteArray} (h0 : 0 ≤ n) (h1 : n ≤ 4611686018427387903) (hb0 : 0 ≤ b) (htx : tx.size ≤ 524288) (ht : t.size ≤ 524288) (hm : bytesOf t ∈ S) (hmk : mk = mkI S t)
    (hway : (b = n ∧ tx = t) ∨ (b < n ∧ (∃ x ∈ l, x.gen = b) ∧ ∃ d, readD tx.data.toList = (d, 0) ∧ AppOk S (im b) d t)) (hbl : ¬ blockN l n mk) (hl : l.length < 4096) : Inv S (setN l ⟨n, b, mk, tx⟩) (updI im n t) := by
  have hsame : ∀ x ∈ l, x.basis = n → x.gen ≠ n → (∃ y ∈ l, y.gen = n) → im n = t := by
    intro x hx hxb hxg ⟨y, hy, hyg⟩
    obtain ⟨i, hi⟩ := List.getElem?_of_mem hy
    obtain ⟨e1, e2⟩ := h.up.at hi
    rw [hyg] at e1
    rw [← e1] at hi
    have hG := h.each y hy
    have hh : hangsN l n = true := by
      unfold hangsN
      rw [List.any_eq_true]
      exact ⟨x, hx, by simp [hxb, hxg]⟩
    have hme : y.mark = mk := Classical.byContradiction fun hne => hbl ⟨y, hi, hyg, hne, hh⟩
    have hGm := hG.mark
    have hGe := hG.mem
    rw [hyg] at hGm hGe
    rw [hme, hmk] at hGm
    exact (mkI_inj hm hGe hS hGm).symm
  refine ⟨h.up.set _, fun g hg => ?_, Nat.le_trans (setN_len _ _) hl⟩
  by_cases hgn : g.gen = n
  · -- the new one, or an elder one of the same number: that one is not there
    have hge : g = ⟨n, b, mk, tx⟩ := by
      rcases mem_setN hg with h2 | h2
      · exact h2
      · obtain ⟨i, hi⟩ := List.getElem?_of_mem hg
        obtain ⟨j, hj⟩ := List.getElem?_of_mem (self_setN l ⟨n, b, mk, tx⟩)
        have hr := h.up.set (⟨n, b, mk, tx⟩ : Gn)
        rcases Nat.lt_trichotomy i j with h3 | h3 | h3
        · have := hr.get hi hj h3; simp only at this; omega
        · subst h3; rw [hi] at hj; exact Option.some.inj hj
        · have := hr.get hj hi h3; simp only at this; omega
    subst hge
    refine ⟨h0, h1, hb0, htx, by rw [updI_same]; exact ht, by rw [updI_same]; exact hm, by rw [updI_same]; exact hmk, ?_⟩
    rcases hway with ⟨e1, e2⟩ | ⟨e1, ⟨x, hx, hxg⟩, d, e3, e4⟩
    · exact .inl ⟨e1, by rw [updI_same]; exact e2⟩
    · obtain ⟨y, hy, hyg⟩ := setN_mem_gen (g := ⟨n, b, mk, tx⟩) hx
      refine .inr ⟨e1, ⟨y, hy, by rw [hyg]; exact hxg⟩, d, e3, ?_⟩
      rw [updI_same, updI_other (by show b ≠ n; omega)]; exact e4
  · have hgl : g ∈ l := by
      rcases mem_setN hg with h2 | h2
      · exact absurd (by rw [h2]) hgn
      · exact h2
    have hG := h.each g hgl
    refine ⟨hG.lo, hG.hi, hG.blo, hG.len, by rw [updI_other hgn]; exact hG.ilen, by rw [updI_other hgn]; exact hG.mem, by rw [updI_other hgn]; exact hG.mark, ?_⟩
    rw [updI_other hgn]
    rcases hG.way with e1 | ⟨e1, ⟨x, hx, hxg⟩, d, e3, e4⟩
    · exact .inl e1
    · obtain ⟨y, hy, hyg⟩ := setN_mem_gen (g := ⟨n, b, mk, tx⟩) hx
      refine .inr ⟨e1, ⟨y, hy, by rw [hyg]; exact hxg⟩, d, e3, ?_⟩
      by_cases hbn : g.basis = n
      · rw [hbn, updI_same, ← hsame g hgl hbn hgn ⟨x, hx, by rw [hxg, hbn]⟩, ← hbn]; exact e4
      · rw [updI_other hbn]; exact e4
end Go.Proofs.YtgkcnocfijckoaaGreat
namespace Go.Proofs.YtgkcnocfijckoaaGreat
open Go.RowKit Sg
set_option linter.unusedVariables false
set_option linter.unusedSimpArgs false
/-- a store at ps over the book p, its generations in the slice v -/
def StB (w : World) (ps p base : Nat) (v : Value) (l : List Gn) : Prop := Blk w ps [.pointer (some ⟨p, 0, none⟩), v] 88 ∧ w.ownsRow base 92 4 v l.length (l.flatMap Gn.c)
theorem StB.lt {w : World} {ps p base : Nat} {v : Value} {l : List Gn} (h : StB w ps p base v l) : ps < w.heap.size := h.1.lt
theorem StB.next {w w' : World} {ps p base : Nat} {v : Value} {l : List Gn} (h : StB w ps p base v l) (hb : Below w.heap.size w w') : StB w' ps p base v l :=
  ⟨h.1.below hb h.1.lt, World.ownsRow.kept h.2 (below_grown hb none) (by cases v.ownBlock <;> simp)⟩
theorem StB.kept {w w' : World} {ps p base m : Nat} {v : Value} {l : List Gn} (h : StB w ps p base v l) (hk : Kept (fun k => some m = some k) w w') (hm : m < base) (hps : ps ≠ m) : StB w' ps p base v l := by
  refine ⟨?_, owns_block h.2 (fun k e => ?_)⟩
  · have := h.1.lt
    have h1 := h.1
    unfold Blk at h1 ⊢
    rw [hk.block ps this (fun e => by injection e with e; exact hps e.symm)]; exact h1
  · have := World.ownsRow.lt h.2 k e
    exact hk.block k this.2 (fun e2 => by injection e2 with e2; omega)
theorem StB.rs {w : World} {ps p base n cap : Nat} {ao : Option Addr} {l : List Gn} (h : StB w ps p base (.slice ao n cap) l) (hn : l.length = n) : Rs w ao n cap 4 l Gn.c := by
  subst hn; exact Rs.of_owns gn_len rfl h.2
theorem rs_gn {w : World} {ao : Option Addr} {len cap : Nat} {l : List Gn} (h : Rs w ao len cap 4 l Gn.c) (h0 : 0 < len) :
    ∃ b off, ao = some ⟨b, off, none⟩ ∧ b < w.heap.size ∧ ∀ k g, l[k]? = some g → w.cell? ⟨b, off + k * 4, none⟩ = some (.int .i64 g.gen) ∧ w.cell? ⟨b, off + k * 4 + 1, none⟩ = some (.int .i64 g.basis) ∧ w.cell? ⟨b, off + k * 4 + 2, none⟩ = some (.string g.mark) ∧ w.cell? ⟨b, off + k * 4 + 3, none⟩ = some (.string g.text) := by
  obtain ⟨_, _, _, h4⟩ := h
  obtain ⟨b, off, e, hb, hc⟩ := h4 h0
  refine ⟨b, off, e, hb, fun k g hg => ?_⟩
  obtain ⟨hk, rfl⟩ := List.getElem?_eq_some_iff.1 hg
  exact ⟨by simpa using hc k hk 0 _ rfl, by simpa [Nat.add_assoc] using hc k hk 1 _ rfl, by simpa [Nat.add_assoc] using hc k hk 2 _ rfl, by simpa [Nat.add_assoc] using hc k hk 3 _ rfl⟩
theorem gnZ_run (w : World) : (zeroValue 92).run Tryz.prog w = .ok (.agg #[.int .i64 0, .int .i64 0, .string ByteArray.empty, .string ByteArray.empty]) w := by kernel_rfl
theorem infoGn : (Tryz.prog.info? 92).map (fun i => (i.zero, i.size, i.bytes)) = some (some (.agg #[.int .i64 0, .int .i64 0, .string ByteArray.empty, .string ByteArray.empty]), 4, 48) := by kernel_rfl
theorem infoAG : (Tryz.prog.info? 48).map (fun i => (i.zero, i.size, i.bytes)) = some (some (.agg #[.int .i64 0, .int .i64 0, .int .i64 0, .string ByteArray.empty]), 4, 40) := by kernel_rfl
theorem none_any (w : World) (ps p base : Nat) (v : Value) (l : List Gn) (h : StB w ps p base v l) : Calls Tryz.prog 39 #[.pointer (some ⟨ps, 0, none⟩)] w fun e w' => e = .returned (.bool false) ∧ w = w' := by
  have c0 := h.1.cell (i := 0) rfl
  clear h
  go_enter Tryz.func39, Tryz.ntmps39
  go_wp2
  go_ret
  exact ⟨rfl, rfl⟩
theorem hasN_end {l : List Gn} {n : Int} {k : Nat} (h : k = atN l n) (hk : ¬ k < l.length) : hasN l n = false := by
  unfold hasN
  rw [← h, List.getElem?_eq_none (by omega)]
theorem hasN_cell {l : List Gn} {n : Int} {k : Nat} {g : Gn} (h : k = atN l n) (hg : l[k]? = some g) : hasN l n = (g.gen == n) := by
  unfold hasN
  rw [← h, hg]
set_option maxRecDepth 100000 in
set_option maxHeartbeats 1000000 in
theorem stPlace_any (w : World) (ps p base : Nat) (v : Value) (l : List Gn) (n : Int) (h : StB w ps p base v l) (hl : l.length ≤ 100000) :
    Calls Tryz.prog 47 #[.pointer (some ⟨ps, 0, none⟩), .int .i64 n] w fun e w' => e = .returned (.tuple #[.int .i64 (atN l n), .bool (hasN l n)]) ∧ ∃ m, w' = w.drewN m := by
  obtain ⟨ao, cp, rfl⟩ := owns_slice h.2
  have hR := h.rs rfl
  have c1 := h.1.cell (i := 1) rfl
  obtain ⟨N, hN⟩ : ∃ N, N = l.length := ⟨_, rfl⟩
  rw [← hN] at hR c1 hl
  have HN := Lib.hid hN
  clear h hN
  go_enter Tryz.func47, Tryz.ntmps47
  go_wp2_with fail
  go_loopw [6] (fun i wr => ∃ k : Nat, i = .int .i64 k ∧ k ≤ atN l n ∧ wr = w) (fun i _ => N - (intOf i).toNat)
  case atStart => exact ⟨0, by go_num, Nat.zero_le _, rfl⟩
  case round =>
    obtain ⟨k, rfl, hk, rfl⟩ := hrel
    have hkN : k ≤ N := by rw [HN.out]; exact Nat.le_trans hk (atN_le l n)
    by_cases hlt : k < N
    case pos =>
      obtain ⟨g, hg⟩ : ∃ g, l[k]? = some g := ⟨_, List.getElem?_eq_getElem (by rw [← HN.out]; exact hlt)⟩
      obtain ⟨b, off, rfl, hb, hc⟩ := rs_gn hR (by omega)
      have c2 := (hc k g hg).1
      have i1 : (k : Int) < (N : Int) := by omega
      have HG := Lib.hid (And.intro hk hg)
      clear hc hR hb hk hg
      by_cases hgn : g.gen < n
      case pos =>
        have d1 : decide (g.gen < n) = true := decide_eq_true hgn
        go_wp2
        go_roundw
        case rel => exact ⟨k + 1, by go_num, atN_succ HG.out.1 HG.out.2 hgn, by first | rfl | trivial⟩
        case measure => simp [intOf]; omega
      case neg =>
        have HE : Hid (k = atN l n) := Lib.hid (atN_stop HG.out.1 HG.out.2 hgn)
        have HH := Lib.hid (hasN_cell HE.out HG.out.2)
        have d1 : decide (g.gen < n) = false := decide_eq_false hgn
        obtain ⟨r, hr⟩ : ∃ r, r = (g.gen == n) := ⟨_, rfl⟩
        rw [← hr] at HH
        have hr2 := hr.symm
        clear hr
        go_wp2
        go_quiet (fail)
        go_wp2
        go_ret2
        exact ⟨by rw [HE.out, HH.out]; rfl, _, rfl⟩
    case neg =>
      have HE : Hid (k = atN l n) := Lib.hid (by
        have := atN_le l n
        have := HN.out
        omega)
      have HH := Lib.hid (hasN_end HE.out (by rw [← HN.out]; exact hlt))
      have i1 : ¬ (k : Int) < (N : Int) := by omega
      have d1 : decide ((k : Int) < (N : Int)) = false := decide_eq_false i1
      clear hk
      go_wp2
      go_quiet (fail)
      go_wp2
      go_ret2
      exact ⟨by rw [HE.out, HH.out]; rfl, _, rfl⟩
theorem gc_one (g : G) : ∀ u ∈ g.c, u.oneCell' = true := by
  intro u hu
  simp only [G.c, List.mem_cons, List.not_mem_nil, or_false] at hu
  rcases hu with rfl | rfl | rfl | rfl <;> rfl
def RowG (w : World) (base : Nat) (v : Value) (gs : List G) : Prop := w.ownsRow base 48 4 v gs.length (gs.flatMap G.c)
theorem RowG.snoc {w : World} {base : Nat} {v : Value} {gs : List G} {x : G} (h : w.ownsRow base 48 4 v (gs.length + 1) (gs.flatMap G.c ++ x.c)) : RowG w base v (gs ++ [x]) := by
  unfold RowG; simpa using h
theorem RowG.rs {w : World} {base n cap : Nat} {ao : Option Addr} {gs : List G} (h : RowG w base (.slice ao n cap) gs) (hn : gs.length = n) : Rs w ao n cap 4 gs G.c := by
  subst hn; exact Rs.of_owns (f := G.c) (fun _ => rfl) rfl (show w.ownsRow base 48 4 _ gs.length (gs.flatMap G.c) from h)
set_option maxRecDepth 100000 in
set_option maxHeartbeats 2000000 in
theorem stGens_any (w : World) (ps p base : Nat) (v : Value) (l : List Gn) (h : StB w ps p base v l) (hl : l.length ≤ 100000) (hs : ∀ g ∈ l, g.text.size ≤ 1000000000) :
    Calls Tryz.prog 21 #[.pointer (some ⟨ps, 0, none⟩)] w fun e w' => ∃ v', e = .returned v' ∧ RowG w' w.heap.size v' (gsG l) ∧ Below w.heap.size w w' := by
  obtain ⟨i1, hj, hy0, hy1, hy2⟩ := info_parts infoAG
  have hgz := gnZ_run
  have HNO := Lib.hid (none_any w ps p base v l h)
  obtain ⟨ao, cp, rfl⟩ := owns_slice h.2
  have HR := Lib.hid (h.rs rfl)
  have c1 := h.1.cell (i := 1) rfl
  obtain ⟨N, hN⟩ : ∃ N, N = l.length := ⟨_, rfl⟩
  rw [← hN] at HR c1 hl
  have HN := Lib.hid hN
  have HS := Lib.hid hs
  clear h hN hs
  go_enter Tryz.func21, Tryz.ntmps21
  go_wp2_with fail
  refine HNO.out.mono ?_
  rintro e w' ⟨rfl, rfl⟩
  go_wp2_with fail
  go_loopw [3, 13] (fun u i wr => ∃ k : Nat, i = .int .i64 k ∧ k ≤ N ∧ RowG wr w.heap.size u (gsG (l.take k)) ∧ Below w.heap.size w wr) (fun _ i _ => N - (intOf i).toNat)
  case atStart => exact ⟨0, by go_num, Nat.zero_le _, World.ownsRow_nil _ _ _ _, Below.refl _ _⟩
  case round =>
    obtain ⟨k, rfl, hk, hO, hB⟩ := hrel
    have hS := hB.size
    by_cases hlt : k < N
    case pos =>
      obtain ⟨g, hg⟩ : ∃ g, l[k]? = some g := ⟨_, List.getElem?_eq_getElem (by rw [← HN.out]; exact hlt)⟩
      obtain ⟨b, off, rfl, hb, hc⟩ := rs_gn (HR.out.below hB (Nat.le_refl _)) (by omega)
      obtain ⟨d0, d1, d2, d3⟩ := hc k g hg
      have hsz := HS.out g (List.mem_of_getElem? hg)
      have HSU : Hid (gsG (l.take (k + 1)) = gsG (l.take k) ++ [g.g]) := Lib.hid (by unfold gsG; rw [List.take_add_one, hg, List.map_append]; rfl)
      have hll : (gsG (l.take k)).length = k := by rw [gsG_len, List.length_take, ← HN.out]; omega
      obtain ⟨L, hL⟩ : ∃ L, L = gsG (l.take k) := ⟨_, rfl⟩
      rw [← hL] at hO hll HSU
      have HLL := Lib.hid hll
      obtain ⟨au, ku, rfl⟩ := owns_slice hO
      obtain ⟨⟨gg, gb, gm, gt⟩, rfl⟩ : ∃ x, x = g := ⟨_, rfl⟩
      simp only at d0 d1 d2 d3 hsz
      have jk : (k : Int) < (N : Int) := by omega
      obtain ⟨V, hV⟩ : ∃ V, V = wr.alloc (Obj.cells #[.int .i64 gg, .int .i64 gb, .string gm, .string gt] 92) := ⟨_, rfl⟩
      have hG : Blk V wr.heap.size [.int .i64 gg, .int .i64 gb, .string gm, .string gt] 92 := by rw [hV]; exact Blk.new _ _ _
      have hOV : RowG V w.heap.size (.slice au L.length ku) L := by rw [hV]; exact World.ownsRow.alloc hO _
      have hBV : Below w.heap.size w V := by rw [hV]; exact hB.alloc hS _
      have q0 := hG.cell (i := 0) rfl
      have q1 := hG.cell (i := 1) rfl
      have q2 := hG.cell (i := 2) rfl
      have q3 := hG.cell (i := 3) rfl
      have HV := Lib.hid hV
      have HX := Lib.hid hBV
      have hO2 : V.ownsRow w.heap.size 48 4 (.slice au L.length ku) L.length (L.flatMap G.c) := hOV
      have hwV : w.heap.size ≤ V.heap.size := hBV.size
      clear hO hL hll hg hc hb hG hOV hBV hV hB
      go_upto_region 7 with fail
      rw [← HV.out]
      go_wp2_with (at_builtin; refine wpList_append_own _ rfl _ _ 45 rfl w.heap.size 48 i1 (.agg #[.int .i64 0, .int .i64 0, .int .i64 0, .string ByteArray.empty]) 4 40 Tryz.underlying45 hj hy0 hy1 hy2 rfl (by decide) _ _ _ rfl (hO2.alloc _) ⟨V.heap.size, 0, none⟩ 1 1 [.int .i64 gg, .int .i64 gb, .int .i64 gt.size, .string gm] rfl rfl (cells_new V _ _) (gc_one ⟨gg, gb, (gt.size : Int), gm⟩) (by unfold maxLen; have := HLL.out; omega) (by have := HLL.out; omega) (by simp; omega) ?_)
      intro v' w6 hO6 hg6 _
      have hO7 : RowG w6 w.heap.size v' (gsG (l.take (k + 1))) := by rw [HSU.out]; exact RowG.snoc (x := ⟨gg, gb, (gt.size : Int), gm⟩) hO6
      have hB7 : Below w.heap.size w w6 := (HX.out.alloc HX.out.size _).grown hg6 (by simp; omega) (fun j hj => (World.ownsRow.lt hO2 j hj).1)
      clear hO6 hg6 hO2 q0 q1 q2 q3 d0 d1 d2 d3
      go_wp2
      go_roundw
      case rel => exact ⟨k + 1, by go_num, by omega, hO7, hB7⟩
      case measure => simp [intOf]; omega
    case neg =>
      have HE : Hid (gsG (l.take k) = gsG l) := Lib.hid (by rw [List.take_of_length_le (by rw [← HN.out]; omega)])
      rw [HE.out] at hO
      have jk : ¬ (k : Int) < (N : Int) := by omega
      have HO := Lib.hid hO
      clear hO
      go_wp2
      go_ret
      exact ⟨_, rfl, HO.out, hB⟩
/-- the mark of a generation -/
def markN (l : List Gn) (n : Int) : ByteArray := match l[atN l n]? with | some g => if g.gen == n then g.mark else ByteArray.empty | none => ByteArray.empty
set_option maxRecDepth 100000 in
set_option maxHeartbeats 1000000 in
theorem stMark_any (w : World) (ps p base : Nat) (v : Value) (l : List Gn) (n : Int) (h : StB w ps p base v l) (hl : l.length ≤ 100000) :
    Calls Tryz.prog 26 #[.pointer (some ⟨ps, 0, none⟩), .int .i64 n] w fun e w' => e = .returned (.tuple #[.string (markN l n), .bool (hasN l n)]) ∧ ∃ m, w' = w.drewN m := by
  have HNO := Lib.hid (none_any w ps p base v l h)
  have HPL := Lib.hid (stPlace_any w ps p base v l n h hl)
  obtain ⟨ao, cp, rfl⟩ := owns_slice h.2
  have HR := Lib.hid (h.rs rfl)
  have c1 := h.1.cell (i := 1) rfl
  obtain ⟨N, hN⟩ : ∃ N, N = l.length := ⟨_, rfl⟩
  rw [← hN] at HR c1
  have HN := Lib.hid hN
  obtain ⟨R, hRr⟩ : ∃ R, R = hasN l n := ⟨_, rfl⟩
  have HRr := Lib.hid hRr
  rw [← hRr] at HPL ⊢
  obtain ⟨k, hk⟩ : ∃ k, k = atN l n := ⟨_, rfl⟩
  have HK := Lib.hid hk
  rw [← hk] at HPL
  clear h hN hRr hk
  go_enter Tryz.func26, Tryz.ntmps26
  go_wp2_with fail
  refine HNO.out.mono ?_
  rintro e w' ⟨rfl, rfl⟩
  go_wp2_with fail
  refine HPL.out.mono ?_
  rintro e w2 ⟨rfl, m, rfl⟩
  cases R
  case false =>
    have HE : Hid (markN l n = ByteArray.empty) := Lib.hid (by
      have h1 := HRr.out
      unfold markN
      unfold hasN at h1
      split at h1
      · rename_i g hg
        (try rw [hg]); (try simp only); rw [← h1]; rfl
      · rename_i hg
        first | rw [hg] | rfl)
    go_wp2
    go_ret2
    exact ⟨by rw [HE.out]; rfl, _, rfl⟩
  case true =>
    obtain ⟨g, hg, hgn⟩ := hasN_at HRr.out.symm
    have HE : Hid (markN l n = g.mark) := Lib.hid (by unfold markN; rw [hg]; simp [hgn])
    rw [← HK.out] at hg
    have hkl : k < N := by rw [HN.out]; exact (List.getElem?_eq_some_iff.1 hg).1
    obtain ⟨b, off, rfl, hb, hc⟩ := rs_gn HR.out (by omega)
    have d2 := (hc k g hg).2.2.1
    have i1 : (k : Int) < (N : Int) := by omega
    clear hc hb hg hgn
    go_wp2
    go_ret2
    exact ⟨by rw [HE.out]; rfl, _, rfl⟩
end Go.Proofs.YtgkcnocfijckoaaGreat
namespace Go.Proofs.YtgkcnocfijckoaaGreat
open Go.RowKit Sg
set_option linter.unusedVariables false
set_option linter.unusedSimpArgs false
theorem idx_at {l : List Gn} (h : Ris l) {g : Gn} (hg : g ∈ l) : idx (gsG l) g.gen = atN l g.gen := by
  obtain ⟨i, hi⟩ := List.getElem?_of_mem hg
  rw [(h.at hi).1]
  unfold idx
  rw [gl_gsG]
  obtain ⟨hl, hgi⟩ := List.getElem?_eq_some_iff.1 hi
  refine idx_first (by simpa using hl) (by simp [hgi]) ?_
  intro hm
  rw [← List.map_take, List.mem_map] at hm
  obtain ⟨x, hx, hxg⟩ := hm
  obtain ⟨j, hj⟩ := List.getElem?_of_mem hx
  rw [List.getElem?_take] at hj
  split at hj
  · rename_i hji
    have := h.get hj hi hji
    omega
  · cases hj
theorem basis_at {l : List Gn} (h : Ris l) {g : Gn} (hg : g ∈ l) : basisOf (gsG l) g.gen = g.basis := by
  unfold basisOf
  rw [idx_at h hg]
  obtain ⟨i, hi⟩ := List.getElem?_of_mem hg
  rw [(h.at hi).1]
  unfold gsG
  rw [List.getD_eq_getElem?_getD, List.getElem?_map, hi]; rfl
theorem at_of {l : List Gn} (h : Ris l) {g : Gn} (hg : g ∈ l) : l[atN l g.gen]? = some g := by
  obtain ⟨i, hi⟩ := List.getElem?_of_mem hg
  rw [(h.at hi).1]; exact hi
theorem gl_mem {l : List Gn} {n : Int} : n ∈ gl (gsG l) ↔ ∃ g ∈ l, g.gen = n := by rw [gl_gsG, List.mem_map]
/-- what is made when k of the road's generations are through -/
def imP (im : Int → ByteArray) (r : List Int) (k : Nat) : ByteArray := if k = 0 then ByteArray.empty else im (r.getD (k - 1) 0)
theorem imP_succ {im : Int → ByteArray} {r : List Int} {k : Nat} {x : Int} (h : r[k]? = some x) : imP im r (k + 1) = im x := by
  unfold imP
  rw [if_neg (by omega), Nat.add_sub_cancel, List.getD_eq_getElem?_getD, h]; rfl
theorem row_below {w w' : World} {base : Nat} {e : TypeId} {size n : Nat} {v : Value} {xs : List Value} (h : w.ownsRow base e size v n xs) (hb : Below w.heap.size w w') : w'.ownsRow base e size v n xs :=
  h.kept (below_grown hb none) (by cases v.ownBlock <;> simp)
theorem row_kept {w w' : World} {base m : Nat} {e : TypeId} {size n : Nat} {v : Value} {xs : List Value} (h : w.ownsRow base e size v n xs) (hk : Kept (fun k => some m = some k) w w') (hm : m < base) : w'.ownsRow base e size v n xs :=
  owns_block h (fun k e => by
    have := World.ownsRow.lt h k e
    exact hk.block k this.2 (fun e2 => by injection e2 with e2; omega))
theorem kept_bel {T : Nat → Prop} {w a b : World} (h : Kept T w a) (hb : Below a.heap.size a b) : Kept T w b := h.trans (Kept.of_below T hb) (fun _ _ h => h)
theorem kept_drewN {T : Nat → Prop} {w a : World} (h : Kept T w a) (n : Nat) : Kept T w (a.drewN n) := ⟨h.os, h.tape, h.output, h.size, h.block⟩
theorem stPlace_b (w : World) (ps p base : Nat) (v : Value) (l : List Gn) (n : Int) (h : StB w ps p base v l) (hl : l.length ≤ 100000) :
    Calls Tryz.prog 47 #[.pointer (some ⟨ps, 0, none⟩), .int .i64 n] w fun e w' => e = .returned (.tuple #[.int .i64 (atN l n), .bool (hasN l n)]) ∧ Below w.heap.size w w' :=
  (stPlace_any w ps p base v l n h hl).mono (fun e w' ⟨h1, m, h2⟩ => ⟨h1, by rw [h2]; exact below_drewN' (Below.refl _ _) m⟩)
theorem kept_eq {m : Nat} {w w' : World} (h : Kept (fun k => some m = some k) w w') : Kept (fun k => m = k) w w' := h.mono (fun k _ e => by injection e)
set_option maxRecDepth 100000 in
set_option maxHeartbeats 4000000 in
theorem made_any (w : World) (ps p m base : Nat) (v : Value) (S : Bk) (l : List Gn) (im : Int → ByteArray) (h : StB w ps p base v l) (hI : BookI w p m S) (hinv : Inv S l im) (hS : S.length ≤ 90000000) (hm : m < base) (hbw : base ≤ w.heap.size) (hps : ps ≠ m) (n : Int) :
    Calls Tryz.prog 49 #[.pointer (some ⟨ps, 0, none⟩), .int .i64 n] w fun e w' => e = .returned (.tuple #[.string (if hasN l n = true then im n else ByteArray.empty), .int .i64 (if hasN l n = true then 0 else 8)]) ∧ BookI w' p m S ∧ Kept (fun k => some m = some k) w w' := by
  have hgz := gnZ_run
  have hdz := dlZ_run
  have hl := hinv.len
  have HGE := Lib.hid (stGens_any w ps p base v l h (by omega) (fun g hg => Nat.le_trans (hinv.each g hg).len (by decide)))
  have HST := Lib.hid h
  have HI := Lib.hid hI
  have HINV := Lib.hid hinv
  have HUP := Lib.hid hinv.up
  obtain ⟨RN, hRN⟩ : ∃ R, R = hasN l n := ⟨_, rfl⟩
  rw [← hRN]
  have HRN := Lib.hid hRN
  obtain ⟨tn, htn⟩ : ∃ t, t = im n := ⟨_, rfl⟩
  rw [← htn]
  have HTN := Lib.hid htn
  clear h hI hinv hRN htn
  go_enter Tryz.func49, Tryz.ntmps49
  go_wp2_with fail
  refine HGE.out.mono ?_
  rintro e w1 ⟨v1, rfl, hO1, hb1⟩
  obtain ⟨a1, k1, rfl⟩ := owns_slice hO1
  have hgl := gsG_len l
  obtain ⟨N, hN⟩ : ∃ N, N = (gsG l).length := ⟨_, rfl⟩
  have HRO := Lib.hid (road_any w1 a1 N k1 (gsG l) n (RowG.rs (by rw [hN]; exact hO1) hN.symm) (by omega))
  rw [← hN]
  have HB1 := Lib.hid hb1
  have hw1 : w.heap.size ≤ w1.heap.size := hb1.size
  clear hO1 hb1 hN hgl HGE
  go_wp2_with fail
  refine HRO.out.mono ?_
  rintro e w2 ⟨v2, rfl, hO2, hb2⟩
  have hok := HINV.out.ok
  have hchk := ok_chk hok
  have hK2 : Kept (fun k => some m = some k) w w2 := kept_bel (Kept.of_below _ HB1.out) hb2
  have hI2 := (HI.out.next HB1.out).next hb2
  by_cases hn : n ∈ gl (gsG l)
  case neg =>
    have he : roadE (gsG l) n = 8 := by unfold roadE; rw [if_neg (by rw [hchk]; simp), if_pos hn]
    have hh : hasN l n = false := by
      cases hc : hasN l n with
      | false => rfl
      | true => exact absurd (gl_mem.2 ((HUP.out.has_iff n).1 hc)) hn
    rw [he]
    have HF := Lib.hid (And.intro hI2 hK2)
    obtain rfl : RN = false := HRN.out.trans hh
    clear hO2 hb2 hok hchk hI2 hK2 he hh HRO
    go_wp2
    go_ret2
    exact ⟨rfl, HF.out.1, by first | exact HF.out.2 | exact kept_eq HF.out.2⟩
  case pos =>
    have he : roadE (gsG l) n = 0 := by unfold roadE; rw [if_neg (by rw [hchk]; simp), if_neg (by simpa using hn)]
    have hr : roadR (gsG l) n = roadL (gsG l) n := by unfold roadR; rw [if_pos ⟨hchk, hn⟩]
    have hh : hasN l n = true := (HUP.out.has_iff n).2 (gl_mem.1 hn)
    obtain ⟨r, hr2, hrne, hlast, hmem, h0, hstep⟩ := road_steps hok _ n hn (Nat.le_refl _)
    rw [hr, hr2] at hO2
    rw [he]
    obtain rfl : RN = true := HRN.out.trans hh
    obtain ⟨a2, k2, hv2⟩ := owns_slice hO2
    obtain ⟨R, hR⟩ : ∃ R, R = r.length := ⟨_, rfl⟩
    rw [← hR] at hv2
    subst hv2
    have hRl : R ≤ 4096 := by
      have h1 := roadL_len hok hn
      rw [hr2, ← hR] at h1
      have h2 := idx_lt hn
      rw [gsG_len] at h2
      omega
    have hR0 : 0 < R := by rw [hR]; exact List.length_pos_iff.2 hrne
    have HRD := Lib.hid (And.intro hlast (And.intro hmem (And.intro h0 (And.intro hstep hR))))
    have HO2 := Lib.hid hO2
    have hmw1 : m < w1.heap.size := by omega
    have HW12 : Hid (w1.heap.size ≤ w2.heap.size) := Lib.hid hb2.size
    have HK2 := Lib.hid (And.intro hI2 hK2)
    clear hO2 hb2 hok hchk hI2 hK2 he hr hr2 hrne hlast hmem h0 hstep hh HRO hR
    go_wp2_with fail
    go_loopw [8, 30] (fun t i wr => ∃ k : Nat, i = .int .i64 k ∧ k ≤ R ∧ t = .string (imP im r k) ∧ BookI wr p m S ∧ Kept (fun k => some m = some k) w2 wr) (fun _ i _ => R - (intOf i).toNat)
    case atStart => exact ⟨0, by go_num, Nat.zero_le _, rfl, HK2.out.1, Kept.refl _ _⟩
    case round =>
      obtain ⟨k, rfl, hk, rfl, hI, hK⟩ := hrel
      have hSt : StB wr ps p base v l := (HST.out.kept HK2.out.2 hm hps).kept hK hm hps
      have hwr : w2.heap.size ≤ wr.heap.size := hK.size
      have hw12 : w1.heap.size ≤ w2.heap.size := Nat.le_trans (Nat.le_refl _) HW12.out
      have hRI : RowI wr w1.heap.size (.slice a2 R k2) r := row_kept HO2.out hK hmw1
      have hRrs := RowI.rs hRI HRD.out.2.2.2.2.symm
      obtain ⟨ao, cp, hvv⟩ := owns_slice hSt.2
      have hst2 : StB wr ps p base (.slice ao l.length cp) l := hvv ▸ hSt
      obtain ⟨NL, hNL⟩ : ∃ N, N = l.length := ⟨_, rfl⟩
      have hRg : Rs wr ao NL cp 4 l Gn.c := by rw [hNL]; exact hst2.rs rfl
      have s0 := hst2.1.cell (i := 0) rfl
      have s1 := hst2.1.cell (i := 1) rfl
      rw [← hNL] at s1
      have HNL := Lib.hid hNL
      have HSt := Lib.hid hst2
      have HKK := Lib.hid (And.intro hI hK)
      clear hSt hvv hst2 hNL hRI hI hK
      by_cases hlt : k < R
      case pos =>
        obtain ⟨x, hx⟩ : ∃ x, r[k]? = some x := ⟨_, List.getElem?_eq_getElem (by rw [← HRD.out.2.2.2.2]; exact hlt)⟩
        obtain ⟨b2, off2, rfl, hb2, hc2⟩ := hRrs.cell1 (by omega)
        have cx : wr.cell? ⟨b2, off2 + k, none⟩ = some (.int .i64 x) := hc2 k (by rw [← HRD.out.2.2.2.2]; exact hlt) _ (by rw [(List.getElem?_eq_some_iff.1 hx).2])
        obtain ⟨g, hg, hgx⟩ := gl_mem.1 (HRD.out.2.1 x (List.mem_of_getElem? hx))
        have hat := at_of HUP.out hg
        rw [hgx] at hat
        have HPL := Lib.hid (stPlace_b wr ps p base _ l x HSt.out (by omega))
        obtain ⟨K, hKe⟩ : ∃ K, K = atN l x := ⟨_, rfl⟩
        obtain ⟨RH, hRH⟩ : ∃ R, R = hasN l x := ⟨_, rfl⟩
        rw [← hKe, ← hRH] at HPL
        rw [← hKe] at hat
        have hKN : K < NL := by rw [HNL.out]; exact (List.getElem?_eq_some_iff.1 hat).1
        obtain ⟨bg, og, rfl, hbg, hcg⟩ := rs_gn hRg (by omega)
        obtain ⟨g0, g1, g2, g3⟩ := hcg K g hat
        have hG := HINV.out.each g hg
        have hbas := basis_at HUP.out hg
        rw [hgx] at hbas
        have HX := Lib.hid (And.intro hx (And.intro hG (And.intro hbas (And.intro hg hgx))))
        obtain ⟨⟨gg, gb, gm, gt⟩, rfl⟩ : ∃ y, y = g := ⟨_, rfl⟩
        simp only at g0 g1 g2 g3
        have i1 : (k : Int) < (R : Int) := by omega
        have i2 : (K : Int) < (NL : Int) := by omega
        clear hc2 hx hg hgx hat hKe hRH hcg hG hbas hRrs hRg
        go_wp2_with fail
        refine HPL.out.mono ?_
        rintro e w4 ⟨rfl, hb4⟩
        replace g0 := (hb4.cell (p := ⟨bg, og + K * 4, none⟩) (by exact hbg)).trans g0
        replace g1 := (hb4.cell (p := ⟨bg, og + K * 4 + 1, none⟩) (by exact hbg)).trans g1
        replace g2 := (hb4.cell (p := ⟨bg, og + K * 4 + 2, none⟩) (by exact hbg)).trans g2
        replace g3 := (hb4.cell (p := ⟨bg, og + K * 4 + 3, none⟩) (by exact hbg)).trans g3
        replace s1 := (hb4.cell (p := ⟨ps, 1, none⟩) (by exact HSt.out.lt)).trans s1
        obtain ⟨V, hV⟩ : ∃ V, V = w4.alloc (Obj.cells #[.int .i64 gg, .int .i64 gb, .string gm, .string gt] 92) := ⟨_, rfl⟩
        obtain ⟨q, hq⟩ : ∃ q, q = w4.heap.size := ⟨_, rfl⟩
        have hQ : Blk V q [.int .i64 gg, .int .i64 gb, .string gm, .string gt] 92 := by rw [hV, hq]; exact Blk.new _ _ _
        have hbV : Below wr.heap.size wr V := by rw [hV]; exact bl_nx hb4 (below_alloc _ _)
        have q3 := hQ.cell (i := 3) rfl
        have HV := Lib.hid (And.intro hV hq)
        have HBV := Lib.hid hbV
        have HFR : Hid (∀ w', Kept (fun k => some m = some k) V w' → BookI w' p m S → BookI w' p m S ∧ Kept (fun k => some m = some k) w2 w') := Lib.hid (fun w' hk hi => ⟨hi, (kept_bel HKK.out.2 hbV).trans hk (fun _ _ h => h)⟩)
        have HIV := Lib.hid (HKK.out.1.next hbV)
        have HStV := Lib.hid (HSt.out.next hbV)
        clear hV hq hbV HPL hQ
        go_upto_region 10 with fail
        rw [← HV.out.1, ← HV.out.2]
        clear g0 g1 g2 g3 s0 s1 cx hb4
        by_cases hk0 : k = 0
        case pos =>
          have HT : Hid (imP im r (k + 1) = gt) := Lib.hid (by
            rw [imP_succ HX.out.1]
            have h1 := HRD.out.2.2.1 x (by rw [← hk0]; exact HX.out.1)
            rcases HX.out.2.1.way with ⟨_, h2⟩ | ⟨h2, _⟩
            · have h4 := HX.out.2.2.2.2
              simp only at h2 h4
              rw [h2, h4]
            · have h3 := HX.out.2.2.1
              have h4 := HX.out.2.2.2.2
              simp only at h2 h3 h4
              omega)
          have hkz : ((k : Int) == 0) = true := by simp [hk0]
          go_wp2
          go_roundw
          case rel => exact ⟨k + 1, by go_num, by omega, by rw [HT.out], (HFR.out V (Kept.refl _ _) HIV.out).1, (HFR.out V (Kept.refl _ _) HIV.out).2⟩
          case measure => simp [intOf]; omega
        case neg =>
          have hkz : ((k : Int) == 0) = false := by simp [hk0]
          obtain ⟨j, hj⟩ : ∃ j, k = j + 1 := ⟨k - 1, by omega⟩
          obtain ⟨y, hy⟩ : ∃ y, r[j]? = some y := ⟨_, List.getElem?_eq_getElem (by have := (List.getElem?_eq_some_iff.1 HX.out.1).1; omega)⟩
          have hst := HRD.out.2.2.2.1 j y x hy (by rw [← hj]; exact HX.out.1)
          have hgbY : gb = y ∧ gb ≠ x := by
            have h3 := HX.out.2.2.1
            rw [h3] at hst
            exact hst
          have htx : imP im r k = im y := by rw [hj]; exact imP_succ hy
          have hway := HX.out.2.1.way
          have hxg := HX.out.2.2.2.2
          simp only at hway hxg
          have hD : ∃ d, readD gt.data.toList = (d, 0) ∧ AppOk S (im y) d (im x) := by
            rcases hway with ⟨h1, _⟩ | ⟨_, _, d, h1, h2⟩
            · exact absurd h1 (by rw [hxg]; exact hgbY.2)
            · rw [hgbY.1, hxg] at h2; exact ⟨d, h1, h2⟩
          obtain ⟨d, hd, hao⟩ := hD
          have hgy : ∃ h ∈ l, h.gen = y := gl_mem.1 (HRD.out.2.1 y (List.mem_of_getElem? hy))
          obtain ⟨gy, hgy1, hgy2⟩ := hgy
          have hGy := HINV.out.each gy hgy1
          have hmy : bytesOf (im y) ∈ S := by rw [← hgy2]; exact hGy.mem
          have hly : (im y).size ≤ 524288 := by rw [← hgy2]; exact hGy.ilen
          have hap := hao.apply hmy (by have := HX.out.2.1.mem; simp only at this; rw [← hxg]; exact this)
          have HRDD := Lib.hid (read_d V gt (Nat.le_trans (by have := HX.out.2.1.len; exact this) (by decide)))
          rw [hd] at HRDD
          have HAO := Lib.hid (And.intro hao (And.intro hap hly))
          rw [htx]
          have HTX : Hid (imP im r (k + 1) = im x) := Lib.hid (imP_succ HX.out.1)
          obtain ⟨ty, hty⟩ : ∃ t, t = im y := ⟨_, rfl⟩
          rw [← hty] at HAO ⊢
          clear hj hy hst hgbY htx hway hxg hd hao hgy1 hgy2 hGy hap hty hmy hly
          go_wp2_with fail
          refine HRDD.out.mono ?_
          rintro e w5 ⟨v5, rfl, hO5, hb5⟩
          simp only at hO5
          have HB5 := Lib.hid hb5
          obtain ⟨a5, k5, rfl⟩ := owns_slice hO5
          obtain ⟨⟨db, dm, ds, dl⟩, rfl⟩ : ∃ z, z = d := ⟨_, rfl⟩
          simp only at hO5
          simp only
          obtain ⟨U, hU⟩ : ∃ U, U = w5.alloc (Obj.cells #[.string db, .string dm, .int .i64 ds, .slice a5 dl.length k5] 55) := ⟨_, rfl⟩
          obtain ⟨qd, hqd⟩ : ∃ q, q = w5.heap.size := ⟨_, rfl⟩
          have hD : Blk U qd [.string db, .string dm, .int .i64 ds, .slice a5 dl.length k5] 55 := by rw [hU, hqd]; exact Blk.new _ _ _
          have hbU : Below V.heap.size V U := by rw [hU]; exact bl_nx hb5 (below_alloc _ _)
          have hOU : Own U V.heap.size (.slice a5 dl.length k5) dl := by rw [hU]; exact hO5.alloc _
          have hIU := HIV.out.next hbU
          have hSU := HStV.out.next hbU
          have t0 := hSU.1.cell (i := 0) rfl
          have x0 := hD.cell (i := 0) rfl
          have x1 := hD.cell (i := 1) rfl
          have x2 := hD.cell (i := 2) rfl
          have x3 := hD.cell (i := 3) rfl
          have hRP := HAO.out.1.1
          have hmV : m < V.heap.size := HIV.out.2.2.2.2.1.2
          have hdl1 := sum2_len hRP.2.2.2.2.1
          have hdl2 := hRP.2.2.2.2.2
          have hdl3 := hRP.2.2.2.1
          simp only at hdl1 hdl2 hdl3
          have HAP := Lib.hid (apply_i U.drew p m S (hIU.next (bl_drew (Below.refl _ U))) (by omega) ty db dm ds a5 dl.length k5 dl (wfI _ (by have := hRP.2.2.1; simp only at this; omega) (by omega)) (by have := hRP.1; simp only at this; rw [this]; decide) (by have := hRP.2.1; simp only at this; rw [this]; decide) (Own.rs rfl (hOU.below (bl_drew (Below.refl _ U)))) (fun z hz => by
            obtain ⟨r1, r2, r3, r4, r5⟩ := rightS_pos (hRP.2.2.2.2.1 z hz)
            exact ⟨wfI _ (by omega) (by omega), wfI _ (by omega) (by omega), by unfold maxLen; omega⟩) (by omega) HAO.out.2.2 (fun W hW => Own.rs rfl (row_kept (hOU.below (bl_drew (Below.refl _ U))) hW hmV)))
          rw [HAO.out.2.1.1, HAO.out.2.1.2] at HAP
          simp only at HAP
          have hqm : ¬ (some m = some qd) := fun e => by injection e with e; have := HIV.out.2.2.2.2.1.2; have h2 : V.heap.size ≤ qd := by rw [hqd]; exact HB5.out.size
                                                         omega
          have hpsm : ¬ (some m = some ps) := fun e => by injection e with e; exact hps e.symm
          have HCL : Hid (∀ w', Kept (fun k => some m = some k) U.drew w' → w'.cell? ⟨ps, 0, none⟩ = some (.pointer (some ⟨p, 0, none⟩)) ∧ w'.cell? ⟨qd, 0, none⟩ = some (.string db) ∧ w'.cell? ⟨qd, 1, none⟩ = some (.string dm) ∧ w'.cell? ⟨qd, 2, none⟩ = some (.int .i64 ds) ∧ w'.cell? ⟨qd, 3, none⟩ = some (.slice a5 dl.length k5)) := Lib.hid (fun w' hk => ⟨(hk.cell (i := 0) hSU.1.lt hpsm).trans t0, (hk.cell (i := 0) hD.lt hqm).trans x0, (hk.cell (i := 1) hD.lt hqm).trans x1, (hk.cell (i := 2) hD.lt hqm).trans x2, (hk.cell (i := 3) hD.lt hqm).trans x3⟩)
          have HU := Lib.hid (And.intro hU hqd)
          have HBU := Lib.hid hbU
          clear hU hqd hD hbU hOU hIU hSU hO5 hb5 hRP hmV hdl1 hdl2 hdl3 q3 HRDD
          go_upto_region 15 with fail
          rw [← HU.out.1, ← HU.out.2]
          go_region_held3 (fun w' => w'.cell? ⟨ps, 0, none⟩ = some (.pointer (some ⟨p, 0, none⟩)) ∧ w'.cell? ⟨qd, 0, none⟩ = some (.string db) ∧ w'.cell? ⟨qd, 1, none⟩ = some (.string dm) ∧ w'.cell? ⟨qd, 2, none⟩ = some (.int .i64 ds) ∧ w'.cell? ⟨qd, 3, none⟩ = some (.slice a5 dl.length k5))
            (first | exact ⟨t0, x0, x1, x2, x3⟩ | exact HH)
            (first | (go_at_call 72; refine HAP.out.mono ?_; rintro e w6 ⟨rfl, hI6, hk6⟩; have HH := HCL.out w6 hk6))
          have hK6 : Kept (fun k => some m = some k) V w6 := (kept_bel (Kept.of_below _ HBU.out) (bl_drew (Below.refl _ U))).trans hk6 (fun _ _ h => h)
          have HF6 := Lib.hid (HFR.out w6 hK6 hI6)
          clear hK6 hI6 hk6 HH t0 x0 x1 x2 x3 HAP
          go_wp2
          go_roundw
          case rel => exact ⟨k + 1, by go_num, by omega, by rw [HTX.out], HF6.out.1, HF6.out.2⟩
          case measure => simp [intOf]; omega
      case neg =>
        obtain rfl : k = R := by omega
        have HL : Hid (imP im r k = im n) := Lib.hid (by
          obtain ⟨j, hj⟩ : ∃ j, k = j + 1 := ⟨k - 1, by omega⟩
          have h1 := HRD.out.1
          rw [List.getLast?_eq_getElem?, ← HRD.out.2.2.2.2, hj, Nat.add_sub_cancel] at h1
          rw [hj]
          exact imP_succ h1)
        obtain ⟨g, hg, hgn⟩ := gl_mem.1 hn
        have hat := at_of HUP.out hg
        rw [hgn] at hat
        have HPL := Lib.hid (stPlace_b wr ps p base _ l n HSt.out (by omega))
        obtain ⟨K, hKe⟩ : ∃ K, K = atN l n := ⟨_, rfl⟩
        obtain ⟨RH, hRH⟩ : ∃ R, R = hasN l n := ⟨_, rfl⟩
        rw [← hKe, ← hRH] at HPL
        rw [← hKe] at hat
        have hKN : K < NL := by rw [HNL.out]; exact (List.getElem?_eq_some_iff.1 hat).1
        obtain ⟨bg, og, rfl, hbg, hcg⟩ := rs_gn hRg (by omega)
        obtain ⟨g0, g1, g2, g3⟩ := hcg K g hat
        have hG := HINV.out.each g hg
        have hmem : bytesOf (im n) ∈ S := by rw [← hgn]; exact hG.mem
        have hmark : g.mark = mkI S (im n) := by rw [← hgn]; exact hG.mark
        have hil : (im n).size ≤ 524288 := by rw [← hgn]; exact hG.ilen
        have htn := HTN.out
        obtain ⟨gm, hgm⟩ : ∃ t, t = g.mark := ⟨_, rfl⟩
        rw [← htn] at HL hmem hmark hil
        rw [← hgm] at hmark g2
        have HIS : Hid (∀ W, Below wr.heap.size wr W → Calls Tryz.prog 63 #[.pointer (some ⟨p, 0, none⟩), .string tn, .string gm] W fun e w' => e = .returned (.bool true) ∧ Below W.heap.size W w') := Lib.hid (fun W hW => by
          have h1 := is_ideal W p m S tn gm (HKK.out.1.next hW) (by unfold maxLen; omega) (by omega)
          rw [decide_eq_true (show tn.data.toList ∈ S ∧ gm.data.toList = numB (S.idxOf tn.data.toList + 1) from ⟨hmem, by rw [hmark]; rfl⟩)] at h1
          exact h1)
        have i2 : (K : Int) < (NL : Int) := by omega
        clear hat hKe hRH hcg hG hRrs hRg hg hgn hmem hmark hil htn hgm g0 g1 g3 hn
        rw [HL.out]
        go_wp2_with fail
        refine HPL.out.mono ?_
        rintro e w4 ⟨rfl, hb4⟩
        replace g2 := (hb4.cell (p := ⟨bg, og + K * 4 + 2, none⟩) (by exact hbg)).trans g2
        replace s0 := (hb4.cell (p := ⟨ps, 0, none⟩) (by exact HSt.out.lt)).trans s0
        replace s1 := (hb4.cell (p := ⟨ps, 1, none⟩) (by exact HSt.out.lt)).trans s1
        have HB4 := Lib.hid hb4
        have HIW := Lib.hid (HIS.out w4.drew (bl_nx hb4 (bl_drew (Below.refl _ w4))))
        have hlt1 : bg < w4.heap.size := Nat.lt_of_lt_of_le hbg hb4.size
        have hlt2 : ps < w4.heap.size := Nat.lt_of_lt_of_le HSt.out.lt hb4.size
        clear hb4 HPL HIS
        go_upto_region 20 with fail
        go_region_held3 (fun w' => w'.cell? ⟨ps, 0, none⟩ = some (.pointer (some ⟨p, 0, none⟩)) ∧ w'.cell? ⟨ps, 1, none⟩ = some (.slice (some ⟨bg, og, none⟩) NL cp) ∧ w'.cell? ⟨bg, og + K * 4 + 2, none⟩ = some (.string gm))
          (first | exact ⟨s0, s1, g2⟩)
          (first | (go_at_call 63; refine HIW.out.mono ?_; rintro e w6 ⟨rfl, hb6⟩; replace s0 := (hb6.cell (p := ⟨ps, 0, none⟩) (by exact hlt2)).trans s0; replace s1 := (hb6.cell (p := ⟨ps, 1, none⟩) (by exact hlt2)).trans s1; replace g2 := (hb6.cell (p := ⟨bg, og + K * 4 + 2, none⟩) (by exact hlt1)).trans g2))
        all_goals
          have hb46 := bl_nx (bl_nx HB4.out (bl_drew (Below.refl _ w4))) hb6
          have HF := Lib.hid (And.intro (HKK.out.1.next hb46) ((HK2.out.2.trans HKK.out.2 (fun _ _ h => h)).trans (Kept.of_below (fun k => some m = some k) hb46) (fun _ _ h => h)))
          clear hb46 hb6 s0 s1 g2 HIW
          go_wp2
          go_ret2
          exact ⟨rfl, HF.out.1, by first | exact HF.out.2 | exact kept_eq HF.out.2⟩
end Go.Proofs.YtgkcnocfijckoaaGreat
