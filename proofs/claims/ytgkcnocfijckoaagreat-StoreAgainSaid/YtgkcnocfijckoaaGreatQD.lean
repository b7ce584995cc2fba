/- Tidy steps and the bytes that they stand for: the plain law. Conditions: as named in each theorem. -/
import Derived.Test.YtgkcnocfijckoaaGreatQA
import Derived.Test.YtgkcnocfijckoaaGreatChecked
import Derived.Test.YtgkcnocfijckoaaGreatQC
import Derived.Deep.LoopGhost
import Derived.OpenShut
import Derived.BigQuiet
namespace Go.Proofs.YtgkcnocfijckoaaGreat
open Go.RowKit
set_option linter.unusedVariables false
structure St where
  pos : Int
  len : Int
  text : ByteArray
deriving Inhabited
inductive By where
  | told (c : UInt8)
  | src (a : Int)
def w64 (x : Int) : Int := IntKind.i64.wrap x
theorem w64_spec (x : Int) : -9223372036854775808 ≤ w64 x ∧ w64 x ≤ 9223372036854775807 ∧ ∃ q : Int, w64 x = x + 18446744073709551616 * q := by
  have h0 : w64 x = if x % 18446744073709551616 ≥ 9223372036854775808 then x % 18446744073709551616 - 18446744073709551616 else x % 18446744073709551616 := by
    unfold w64; simp [IntKind.wrap, IntKind.bits, IntKind.signed]
  rw [h0]
  have h1 := Int.emod_nonneg x (show (18446744073709551616 : Int) ≠ 0 by omega)
  have h2 := Int.emod_lt_of_pos x (show (0 : Int) < 18446744073709551616 by omega)
  have h3 := Int.emod_def x 18446744073709551616
  split
  · exact ⟨by omega, by omega, -(x / 18446744073709551616) - 1, by omega⟩
  · exact ⟨by omega, by omega, -(x / 18446744073709551616), by omega⟩
theorem w64_one {x y q : Int} (h1 : -9223372036854775808 ≤ y) (h2 : y ≤ 9223372036854775807) (h : y = x + 18446744073709551616 * q) : w64 x = y := by
  obtain ⟨a, b, r, c⟩ := w64_spec x
  omega
theorem w64_add (x y : Int) : w64 (w64 x + y) = w64 (x + y) := by
  obtain ⟨_, _, q, h⟩ := w64_spec x
  obtain ⟨a, b, r, c⟩ := w64_spec (x + y)
  exact w64_one a b (q := r - q) (by omega)
theorem w64_in {x : Int} (h : (Lit.int .i64 x).wf = true) : w64 x = x := by
  have h' : -9223372036854775808 ≤ x ∧ x ≤ 9223372036854775807 := by
    simp only [Lit.wf, Bool.and_eq_true, decide_eq_true_eq] at h
    exact h
  exact w64_one h'.1 h'.2 (q := 0) (by omega)
theorem w64_wf (x : Int) : (Lit.int .i64 (w64 x)).wf = true := by
  obtain ⟨a, b, -⟩ := w64_spec x
  exact WalkArith.wf_i64 ⟨a, b⟩
def toldL (s : ByteArray) : List By := s.data.toList.map By.told
def srcL (a : Int) (n : Nat) : List By := (List.range n).map fun k => By.src (w64 (a + (k : Nat)))
def bytes1 (x : St) : List By := if x.text.size ≠ 0 then toldL x.text else srcL x.pos x.len.toNat
def bytesL (l : List St) : List By := l.flatMap bytes1
def texts (s : ByteArray) : List St := (List.range ((s.size + 4095) / 4096)).map fun i => ⟨0, 0, s.extract (4096 * i) (4096 * (i + 1))⟩
def fits (out : List St) (a : Int) : Bool :=
  match out.getLast? with
  | some x => decide (x.text.size = 0) && decide (w64 (x.pos + x.len) = a)
  | none => false
def copyL (out : List St) (a n : Int) : List St :=
  match out.getLast? with
  | some x => if x.text.size = 0 ∧ w64 (x.pos + x.len) = a then out.dropLast ++ [⟨x.pos, x.len + n, x.text⟩] else out ++ [⟨a, n, ByteArray.empty⟩]
  | none => [⟨a, n, ByteArray.empty⟩]
abbrev Sm := List St × ByteArray
def stepB (s : Sm) : By → Sm
  | .told c => (s.1, s.2.push c)
  | .src a => (copyL (s.1 ++ texts s.2) a 1, ByteArray.empty)
def finB (s : Sm) : List St := s.1 ++ texts s.2
def stepsB (bs : List By) : List St := finB (bs.foldl stepB ([], ByteArray.empty))
def stepT (s : Sm) (x : St) : Sm :=
  if x.text.size ≠ 0 then (s.1, s.2 ++ x.text)
  else if x.len ≤ 0 then s
  else (copyL (s.1 ++ texts s.2) x.pos x.len, ByteArray.empty)
def tidyL (l : List St) : List St := finB (l.foldl stepT ([], ByteArray.empty))
theorem texts_nil : texts ByteArray.empty = [] := rfl
theorem copyL_nil (a n : Int) : copyL [] a n = [⟨a, n, ByteArray.empty⟩] := rfl
theorem copyL_snoc (out : List St) (x : St) (a n : Int) : copyL (out ++ [x]) a n = if x.text.size = 0 ∧ w64 (x.pos + x.len) = a then out ++ [⟨x.pos, x.len + n, x.text⟩] else out ++ [x] ++ [⟨a, n, ByteArray.empty⟩] := by
  unfold copyL; simp
/-- a copy, and one byte more -/
theorem copyL_more (out : List St) (a n : Int) : copyL (copyL out a n) (w64 (a + n)) 1 = copyL out a (n + 1) := by
  rcases List.eq_nil_or_concat out with rfl | ⟨o, x, rfl⟩
  · rw [copyL_nil, copyL_nil, show ([⟨a, n, ByteArray.empty⟩] : List St) = [] ++ [⟨a, n, ByteArray.empty⟩] from rfl, copyL_snoc, if_pos ⟨rfl, rfl⟩]; rfl
  · rw [List.concat_eq_append, copyL_snoc, copyL_snoc]
    by_cases h : x.text.size = 0 ∧ w64 (x.pos + x.len) = a
    · rw [if_pos h, if_pos h, copyL_snoc, if_pos ⟨h.1, by rw [← h.2, w64_add, Int.add_assoc]⟩]
      simp [Int.add_assoc]
    · rw [if_neg h, if_neg h, copyL_snoc, if_pos ⟨rfl, rfl⟩]
theorem srcL_succ (a : Int) (n : Nat) : srcL a (n + 1) = srcL a n ++ [By.src (w64 (a + (n : Nat)))] := by
  unfold srcL; rw [List.range_succ, List.map_append]; rfl
theorem fold_told (out : List St) (t : ByteArray) (s : ByteArray) : (toldL s).foldl stepB (out, t) = (out, t ++ s) := by
  unfold toldL
  have h : ∀ (l : List UInt8) (t : ByteArray), (l.map By.told).foldl stepB (out, t) = (out, ⟨t.data ++ l.toArray⟩) := by
    intro l
    induction l with
    | nil => intro t; simp
    | cons c l ih =>
      intro t
      rw [List.map_cons, List.foldl_cons]
      show (l.map By.told).foldl stepB (out, t.push c) = _
      rw [ih]
      congr 2
      show (t.data.push c) ++ l.toArray = _
      simp
  rw [h]
  congr 1
  apply ByteArray.ext
  rw [ByteArray.data_append]
theorem fold_src (out : List St) (t : ByteArray) (a : Int) (ha : (Lit.int .i64 a).wf = true) (n : Nat) : (srcL a (n + 1)).foldl stepB (out, t) = (copyL (out ++ texts t) a ((n : Int) + 1), ByteArray.empty) := by
  induction n with
  | zero => simp [srcL, stepB, w64_in ha]
  | succ n ih =>
    rw [srcL_succ, List.foldl_append, ih]
    show (copyL (copyL (out ++ texts t) a ((n : Int) + 1) ++ texts ByteArray.empty) (w64 (a + ((n + 1 : Nat) : Int))) 1, ByteArray.empty) = _
    rw [texts_nil, List.append_nil, show ((n + 1 : Nat) : Int) = (n : Int) + 1 by omega, copyL_more]
theorem fold_bytes (l : List St) (hl : ∀ x ∈ l, (Lit.int .i64 x.pos).wf = true) : ∀ s : Sm, (bytesL l).foldl stepB s = l.foldl stepT s := by
  induction l with
  | nil => intro s; rfl
  | cons x l ih =>
    intro s
    rw [show bytesL (x :: l) = bytes1 x ++ bytesL l from rfl, List.foldl_append, List.foldl_cons, ih (fun y hy => hl y (by simp [hy]))]
    congr 1
    unfold bytes1 stepT
    by_cases ht : x.text.size ≠ 0
    · rw [if_pos ht, if_pos ht]; exact fold_told _ _ _
    · rw [if_neg ht, if_neg ht]
      by_cases hn : x.len ≤ 0
      · rw [if_pos hn, show x.len.toNat = 0 by omega]; rfl
      · rw [if_neg hn]
        obtain ⟨n, hn2⟩ : ∃ n : Nat, x.len = n + 1 := ⟨(x.len - 1).toNat, by omega⟩
        rw [hn2, show ((n : Int) + 1).toNat = n + 1 by omega]
        exact fold_src _ _ _ (hl x (by simp)) _
/-- tidy steps are the tidy steps of the bytes -/
theorem tidy_bytes (l : List St) (hl : ∀ x ∈ l, (Lit.int .i64 x.pos).wf = true) : tidyL l = stepsB (bytesL l) := by
  unfold tidyL stepsB; rw [fold_bytes l hl]
/-- what the bytes of a tidy list are -/
theorem bytesL_append (a b : List St) : bytesL (a ++ b) = bytesL a ++ bytesL b := by unfold bytesL; rw [List.flatMap_append]
theorem toldL_append (a b : ByteArray) : toldL (a ++ b) = toldL a ++ toldL b := by unfold toldL; rw [ByteArray.data_append]; simp
theorem texts_cut (s : ByteArray) : ∀ n, n ≤ (s.size + 4095) / 4096 → bytesL ((List.range n).map fun i => (⟨0, 0, s.extract (4096 * i) (4096 * (i + 1))⟩ : St)) = toldL (s.extract 0 (4096 * n)) := by
  intro n
  induction n with
  | zero => intro _; simp [bytesL, toldL]
  | succ n ih =>
    intro hn
    rw [List.range_succ, List.map_append, bytesL_append, ih (by omega)]
    have h1 : (s.extract (4096 * n) (4096 * (n + 1))).size ≠ 0 := by rw [ByteArray.size_extract]; omega
    rw [show bytesL ([n].map fun i => (⟨0, 0, s.extract (4096 * i) (4096 * (i + 1))⟩ : St)) = toldL (s.extract (4096 * n) (4096 * (n + 1))) by simp only [List.map_cons, List.map_nil, bytesL, List.flatMap_cons, List.flatMap_nil, List.append_nil, bytes1]; rw [if_pos h1], ← toldL_append,
      ← ByteArray.extract_eq_extract_append_extract (4096 * n) (by omega) (by omega)]
theorem bytes_texts (s : ByteArray) : bytesL (texts s) = toldL s := by
  unfold texts
  rw [texts_cut s _ (Nat.le_refl _)]
  congr 1
  apply ByteArray.ext
  rw [ByteArray.data_extract]
  have : s.data.size = s.size := rfl
  apply Array.ext
  · simp; omega
  · intro i h1 h2; simp
/-- the shape that lists of tidy steps have -/
def Fine (x : St) : Prop := (x.text.size = 0 → 0 ≤ x.len) ∧ (Lit.int .i64 x.pos).wf = true
theorem bytes_copy (out : List St) (a : Int) (ha : (Lit.int .i64 a).wf = true) (hf : ∀ x ∈ out, Fine x) : bytesL (copyL out a 1) = bytesL out ++ [By.src a] := by
  rcases List.eq_nil_or_concat out with rfl | ⟨o, x, rfl⟩
  · simp [copyL_nil, bytesL, bytes1, srcL, w64_in ha]
  · rw [List.concat_eq_append, copyL_snoc]
    by_cases h : x.text.size = 0 ∧ w64 (x.pos + x.len) = a
    · rw [if_pos h, bytesL_append, bytesL_append, List.append_assoc]
      congr 1
      have h0 := (hf x (by simp)).1 h.1
      simp only [bytesL, List.flatMap_cons, List.flatMap_nil, List.append_nil, bytes1, h.1]
      simp only [ne_eq, not_true_eq_false, if_false]
      rw [show (x.len + 1).toNat = x.len.toNat + 1 by omega, srcL_succ, show ((x.len.toNat : Nat) : Int) = x.len by omega, h.2]
    · rw [if_neg h, bytesL_append]
      congr 1
      simp [bytesL, bytes1, srcL, w64_in ha]
theorem fine_copy (out : List St) (a : Int) (ha : (Lit.int .i64 a).wf = true) (hf : ∀ x ∈ out, Fine x) : ∀ x ∈ copyL out a 1, Fine x := by
  have hnew : Fine ⟨a, 1, ByteArray.empty⟩ := ⟨fun _ => by simp, ha⟩
  rcases List.eq_nil_or_concat out with rfl | ⟨o, x, rfl⟩
  · intro y hy; rw [copyL_nil] at hy; simp only [List.mem_singleton] at hy; rw [hy]; exact hnew
  · rw [List.concat_eq_append] at hf ⊢
    rw [copyL_snoc]
    have hx := hf x (by simp)
    split
    · intro y hy
      rcases List.mem_append.1 hy with h | h
      · exact hf y (by simp [h])
      · simp only [List.mem_singleton] at h; rw [h]
        exact ⟨fun h0 => by have := hx.1 h0; simp only; omega, hx.2⟩
    · intro y hy
      rcases List.mem_append.1 hy with h | h
      · exact hf y h
      · simp only [List.mem_singleton] at h; rw [h]; exact hnew
theorem fine_texts (s : ByteArray) : ∀ x ∈ texts s, Fine x := by
  intro x hx
  unfold texts at hx
  simp only [List.mem_map] at hx
  obtain ⟨i, hi, rfl⟩ := hx
  exact ⟨fun _ => by simp, rfl⟩
def Wf (bs : List By) : Prop := ∀ a, By.src a ∈ bs → (Lit.int .i64 a).wf = true
theorem fold_back (bs : List By) (hw : Wf bs) : ∀ s : Sm, (∀ x ∈ s.1, Fine x) →
    (∀ x ∈ (bs.foldl stepB s).1, Fine x) ∧ bytesL (finB (bs.foldl stepB s)) = bytesL (finB s) ++ bs := by
  induction bs with
  | nil => intro s hs; exact ⟨hs, by simp⟩
  | cons b bs ih =>
    intro s hs
    have hw2 : Wf bs := fun a h => hw a (by simp [h])
    rw [List.foldl_cons]
    cases b with
    | told c =>
      obtain ⟨h1, h2⟩ := ih hw2 (stepB s (.told c)) hs
      refine ⟨h1, ?_⟩
      rw [h2]
      show bytesL (s.1 ++ texts (s.2.push c)) ++ bs = bytesL (s.1 ++ texts s.2) ++ By.told c :: bs
      rw [bytesL_append, bytesL_append, bytes_texts, bytes_texts]
      unfold toldL
      simp [ByteArray.push]
    | src a =>
      have ha := hw a (by simp)
      have hf : ∀ x ∈ s.1 ++ texts s.2, Fine x := fun x hx => (List.mem_append.1 hx).elim (hs x) (fine_texts _ x)
      obtain ⟨h1, h2⟩ := ih hw2 (stepB s (.src a)) (fine_copy _ _ ha hf)
      refine ⟨h1, ?_⟩
      rw [h2]
      show bytesL (copyL (s.1 ++ texts s.2) a 1 ++ texts ByteArray.empty) ++ bs = bytesL (s.1 ++ texts s.2) ++ By.src a :: bs
      rw [texts_nil, List.append_nil, bytes_copy _ _ ha hf]
      simp
theorem bytes_steps (bs : List By) (hw : Wf bs) : bytesL (stepsB bs) = bs := by
  have := (fold_back bs hw ([], ByteArray.empty) (by simp)).2
  unfold stepsB
  rw [this]; rfl
theorem steps_fine (bs : List By) (hw : Wf bs) : ∀ x ∈ stepsB bs, Fine x := by
  intro x hx
  unfold stepsB finB at hx
  rcases List.mem_append.1 hx with h | h
  · exact (fold_back bs hw ([], ByteArray.empty) (by simp)).1 x h
  · exact fine_texts _ x h
theorem wf_bytes (l : List St) : Wf (bytesL l) := by
  intro a ha
  unfold bytesL at ha
  rw [List.mem_flatMap] at ha
  obtain ⟨x, hx, h⟩ := ha
  unfold bytes1 at h
  split at h
  · simp [toldL] at h
  · simp only [srcL, List.mem_map] at h
    obtain ⟨k, -, h⟩ := h
    injection h with h
    rw [← h]; exact w64_wf _
/-- tidy is tidy -/
theorem tidy_twice (l : List St) (hl : ∀ x ∈ l, (Lit.int .i64 x.pos).wf = true) : tidyL (tidyL l) = tidyL l := by
  rw [tidy_bytes l hl, tidy_bytes _ (fun x hx => (steps_fine _ (wf_bytes l) x hx).2), bytes_steps _ (wf_bytes l)]
end Go.Proofs.YtgkcnocfijckoaaGreat
namespace Go.Proofs.YtgkcnocfijckoaaGreat
open Go.RowKit
set_option linter.unusedVariables false
def St.c (x : St) : List Value := [.int .i64 x.pos, .int .i64 x.len, .string x.text]
def St.ok (x : St) : Prop := (Lit.int .i64 x.pos).wf = true ∧ (Lit.int .i64 x.len).wf = true ∧ x.text.size ≤ maxLen
theorem stepZ_run (w : World) : (zeroValue 107).run Tryz.prog w = .ok (.agg #[.int .i64 0, .int .i64 0, .string ByteArray.empty]) w := by kernel_rfl
theorem infoStep : (Tryz.prog.info? 107).map (fun i => (i.zero, i.size, i.bytes)) = some (some (.agg #[.int .i64 0, .int .i64 0, .string ByteArray.empty]), 3, 32) := by kernel_rfl
theorem cells_new (w : World) (l : List Value) (e : TypeId) : ∀ j u, l[j]? = some u → (w.alloc (.cells l.toArray e)).cell? ((⟨w.heap.size, 0, none⟩ : Addr).add j) = some u := by
  intro j u hj
  have := (Blk.new w l e).cell hj
  have hadd : (⟨w.heap.size, 0, none⟩ : Addr).add j = ⟨w.heap.size, j, none⟩ := by unfold Addr.add; split <;> simp_all
  rw [hadd]; exact this
theorem sc_one (x : St) : ∀ u ∈ x.c, u.oneCell' = true := by
  intro u hu
  simp only [St.c, List.mem_cons, List.not_mem_nil, or_false] at hu
  rcases hu with rfl | rfl | rfl <;> rfl
/-- a list of steps that the walk owns -/
def Own (w : World) (base : Nat) (v : Value) (l : List St) : Prop := w.ownsRow base 107 3 v l.length (l.flatMap St.c)
theorem Own.nil (w : World) (base : Nat) : Own w base (.slice none 0 0) [] := World.ownsRow_nil _ _ _ _
theorem Own.alloc {w : World} {base : Nat} {v : Value} {l : List St} (h : Own w base v l) (o : Obj) : Own (w.alloc o) base v l := World.ownsRow.alloc h o
theorem Own.snoc {w : World} {base : Nat} {v : Value} {l : List St} {x : St} (h : w.ownsRow base 107 3 v (l.length + 1) (l.flatMap St.c ++ x.c)) : Own w base v (l ++ [x]) := by
  unfold Own; simpa using h
theorem Own.row_ge {w : World} {base : Nat} {v : Value} {l : List St} (h : Own w base v l) : ∀ j, v.ownBlock = some j → base ≤ j := fun j hj => (World.ownsRow.lt h j hj).1
theorem below_via {a w w' : World} {B : Nat} (h : Below B a w) (h2 : Below w.heap.size w w') (hB : B ≤ w.heap.size) : Below B a w' := h.trans (h2.mono hB)
theorem strNe {t : ByteArray} (h : t.size ≠ 0) : (t.toList == []) = false := by
  rw [ByteArray.toList_eq]
  cases ht : t.data.toList with
  | nil =>
    exfalso; apply h
    have : t.data.toList.length = 0 := by rw [ht]; rfl
    simpa using this
  | cons a l => rfl
theorem strEmpty {t : ByteArray} (h : t.size = 0) : t = ByteArray.empty := by
  apply ByteArray.ext; apply Array.eq_empty_of_size_eq_zero; exact h
def szOf : Value → Nat
  | .string s => s.size
  | _ => 0
def textsN (s : ByteArray) (n : Nat) : List St := (List.range n).map fun i => ⟨0, 0, s.extract (4096 * i) (4096 * (i + 1))⟩
theorem textsN_succ (s : ByteArray) (n : Nat) : textsN s (n + 1) = textsN s n ++ [⟨0, 0, s.extract (4096 * n) (4096 * (n + 1))⟩] := by
  unfold textsN; rw [List.range_succ, List.map_append]; rfl
theorem textsN_len (s : ByteArray) (n : Nat) : (textsN s n).length = n := by simp [textsN]
theorem texts_eq (s : ByteArray) (n : Nat) (h : n = (s.size + 4095) / 4096) : texts s = textsN s n := by rw [h]; rfl
theorem cut_self (s : ByteArray) : s.extract 0 s.size = s := ByteArray.extract_zero_size
theorem cut_cut (s : ByteArray) (n i j : Nat) (hj : n + j ≤ s.size) : (s.extract n s.size).extract i j = s.extract (n + i) (n + j) := by
  rw [ByteArray.extract_extract, Nat.min_eq_left hj]
theorem cut_over (s : ByteArray) (i j : Nat) (hj : s.size ≤ j) : s.extract i s.size = s.extract i j := by
  apply ByteArray.ext
  rw [ByteArray.data_extract, ByteArray.data_extract]
  apply Array.ext
  · simp only [Array.size_extract]; have : s.data.size = s.size := rfl; omega
  · intro k h1 h2; simp
end Go.Proofs.YtgkcnocfijckoaaGreat
namespace Go.Proofs.YtgkcnocfijckoaaGreat
open Go.RowKit
set_option linter.unusedVariables false
theorem flat_len (l : List St) : (l.flatMap St.c).length = l.length * 3 := by
  induction l with
  | nil => rfl
  | cons x l ih => rw [List.flatMap_cons, List.length_append, ih, List.length_cons, show x.c.length = 3 from rfl]; omega
theorem flat_last (o : List St) (x : St) (i : Nat) (hi : i < 3) : ((o ++ [x]).flatMap St.c)[o.length * 3 + i]? = x.c[i]? := by
  rw [List.flatMap_append, List.getElem?_append_right (by rw [flat_len]; omega), flat_len, show o.length * 3 + i - o.length * 3 = i by omega]
  simp
theorem flat_setLen (o : List St) (x : St) (n : Int) : ((o ++ [x]).flatMap St.c).set (o.length * 3 + 1) (.int .i64 n) = (o ++ [(⟨x.pos, n, x.text⟩ : St)]).flatMap St.c := by
  rw [List.flatMap_append, List.set_append_right _ _ (by rw [flat_len]; omega), flat_len, show o.length * 3 + 1 - o.length * 3 = 1 by omega, List.flatMap_append]
  congr 1
/-- the last step of a list that the walk owns -/
theorem Own.last {w : World} {base : Nat} {v : Value} {o : List St} {x : St} (h : Own w base v (o ++ [x])) :
    ∃ g cap, v = .slice (some ⟨g, 0, none⟩) (o.length + 1) cap ∧ o.length + 1 ≤ cap ∧ base ≤ g ∧ g < w.heap.size ∧
      w.cell? ⟨g, o.length * 3, none⟩ = some (.int .i64 x.pos) ∧ w.cell? ⟨g, o.length * 3 + 1, none⟩ = some (.int .i64 x.len) ∧ w.cell? ⟨g, o.length * 3 + 2, none⟩ = some (.string x.text) ∧ w.frozen? ⟨g, o.length * 3 + 1, none⟩ = false ∧
      ∀ n : Int, Own (w.setCell ⟨g, o.length * 3 + 1, none⟩ (.int .i64 n)) base v (o ++ [⟨x.pos, n, x.text⟩]) ∧ w.grownBy (w.setCell ⟨g, o.length * 3 + 1, none⟩ (.int .i64 n)) (some g) := by
  have h0 := h
  have hlt := World.ownsRow.lt h
  unfold Own at h
  have hl : (o ++ [x]).length = o.length + 1 := by simp
  rw [hl] at h
  rcases h.2 with ⟨h', hz⟩ | ⟨g, cap, cur, rfl, hb, hg, hnc, hcm, hcs, htake⟩
  · simp at hz
  · have hc := fun i (hi : i < 3) => (h.cellAt (o.length * 3 + i) (by omega)).trans (flat_last o x i hi)
    refine ⟨g, cap, rfl, hnc, hb, (hlt g rfl).2, hc 0 (by omega), hc 1 (by omega), hc 2 (by omega), h.frozenAt _, fun n => ?_⟩
    obtain ⟨s1, s2⟩ := h.stored (o.length * 3 + 1) (.int .i64 n)
    refine ⟨?_, s2⟩
    rw [flat_setLen] at s1
    unfold Own
    simpa using s1
/-- lengths that stay small -/
def Bd (l : List St) : Prop := ∀ x ∈ l, 0 ≤ x.len ∧ x.len ≤ 1000000000
end Go.Proofs.YtgkcnocfijckoaaGreat
