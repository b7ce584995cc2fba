/- Tidy steps and the bytes that they stand for: the plain law. Conditions: as named in each theorem. -/
import Derived.Test.YtgemhgllifhckaaQA
import Derived.Test.YtgemhgllifhckaaChecked
import Derived.Test.YtgemhgllifhckaaQC
import Derived.Deep.LoopGhost
import Derived.OpenShut
import Derived.BigQuiet
namespace Go.Proofs.Ytgemhgllifhckaa
open Go.RowKit
set_option linter.unusedVariables false
structure St where
  pos : Int
  len : Int
  text : ByteArray
deriving Inhabited
def w64 (x : Int) : Int := IntKind.i64.wrap x
theorem w64_spec (x : Int) : -9223372036854775808 ≤ w64 x ∧ w64 x ≤ 9223372036854775807 ∧ ∃ q : Int, w64 x = x + 18446744073709551616 * q := by
  have h0 : w64 x = if x % 18446744073709551616 ≥ 9223372036854775808 then x % 18446744073709551616 - 18446744073709551616 else x % 18446744073709551616 := by
    unfold w64; simp [IntKind.wrap, IntKind.bits, IntKind.signed]
  rw [h0]
  have h1 := Int.emod_nonneg x (show (18446744073709551616 : Int) ≠ 0 by omega)
  have h2 := Int.emod_lt_of_pos x (show (0 : Int) < 18446744073709551616 by omega)
  have h3 := Int.emod_def x 18446744073709551616
  split
  · exact ⟨by omega, by omega, -(x / 18446744073709551616) - 1, by omega⟩
  · exact ⟨by omega, by omega, -(x / 18446744073709551616), by omega⟩
theorem w64_one {x y q : Int} (h1 : -9223372036854775808 ≤ y) (h2 : y ≤ 9223372036854775807) (h : y = x + 18446744073709551616 * q) : w64 x = y := by
  obtain ⟨a, b, r, c⟩ := w64_spec x
  omega
theorem w64_in {x : Int} (h : (Lit.int .i64 x).wf = true) : w64 x = x := by
  have h' : -9223372036854775808 ≤ x ∧ x ≤ 9223372036854775807 := by
    simp only [Lit.wf, Bool.and_eq_true, decide_eq_true_eq] at h
    exact h
  exact w64_one h'.1 h'.2 (q := 0) (by omega)
def texts (s : ByteArray) : List St := (List.range ((s.size + 4095) / 4096)).map fun i => ⟨0, 0, s.extract (4096 * i) (4096 * (i + 1))⟩
def copyL (out : List St) (a n : Int) : List St :=
  match out.getLast? with
  | some x => if x.text.size = 0 ∧ w64 (x.pos + x.len) = a then out.dropLast ++ [⟨x.pos, x.len + n, x.text⟩] else out ++ [⟨a, n, ByteArray.empty⟩]
  | none => [⟨a, n, ByteArray.empty⟩]
theorem texts_nil : texts ByteArray.empty = [] := rfl
theorem copyL_nil (a n : Int) : copyL [] a n = [⟨a, n, ByteArray.empty⟩] := rfl
theorem copyL_snoc (out : List St) (x : St) (a n : Int) : copyL (out ++ [x]) a n = if x.text.size = 0 ∧ w64 (x.pos + x.len) = a then out ++ [⟨x.pos, x.len + n, x.text⟩] else out ++ [x] ++ [⟨a, n, ByteArray.empty⟩] := by
  unfold copyL; simp
end Go.Proofs.Ytgemhgllifhckaa
namespace Go.Proofs.Ytgemhgllifhckaa
open Go.RowKit
set_option linter.unusedVariables false
def St.c (x : St) : List Value := [.int .i64 x.pos, .int .i64 x.len, .string x.text]
def St.ok (x : St) : Prop := (Lit.int .i64 x.pos).wf = true ∧ (Lit.int .i64 x.len).wf = true ∧ x.text.size ≤ maxLen
theorem stepZ_run (w : World) : (zeroValue 76).run Try.prog w = .ok (.agg #[.int .i64 0, .int .i64 0, .string ByteArray.empty]) w := by kernel_rfl
theorem infoStep : (Try.prog.info? 76).map (fun i => (i.zero, i.size, i.bytes)) = some (some (.agg #[.int .i64 0, .int .i64 0, .string ByteArray.empty]), 3, 32) := by kernel_rfl
theorem cells_new (w : World) (l : List Value) (e : TypeId) : ∀ j u, l[j]? = some u → (w.alloc (.cells l.toArray e)).cell? ((⟨w.heap.size, 0, none⟩ : Addr).add j) = some u := by
  intro j u hj
  have := (Blk.new w l e).cell hj
  have hadd : (⟨w.heap.size, 0, none⟩ : Addr).add j = ⟨w.heap.size, j, none⟩ := by unfold Addr.add; split <;> simp_all
  rw [hadd]; exact this
theorem sc_one (x : St) : ∀ u ∈ x.c, u.oneCell' = true := by
  intro u hu
  simp only [St.c, List.mem_cons, List.not_mem_nil, or_false] at hu
  rcases hu with rfl | rfl | rfl <;> rfl
/-- a list of steps that the walk owns -/
def Own (w : World) (base : Nat) (v : Value) (l : List St) : Prop := w.ownsRow base 76 3 v l.length (l.flatMap St.c)
theorem Own.nil (w : World) (base : Nat) : Own w base (.slice none 0 0) [] := World.ownsRow_nil _ _ _ _
theorem Own.alloc {w : World} {base : Nat} {v : Value} {l : List St} (h : Own w base v l) (o : Obj) : Own (w.alloc o) base v l := World.ownsRow.alloc h o
theorem Own.snoc {w : World} {base : Nat} {v : Value} {l : List St} {x : St} (h : w.ownsRow base 76 3 v (l.length + 1) (l.flatMap St.c ++ x.c)) : Own w base v (l ++ [x]) := by
  unfold Own; simpa using h
theorem strNe {t : ByteArray} (h : t.size ≠ 0) : (t.toList == []) = false := by
  rw [ByteArray.toList_eq]
  cases ht : t.data.toList with
  | nil =>
    exfalso; apply h
    have : t.data.toList.length = 0 := by rw [ht]; rfl
    simpa using this
  | cons a l => rfl
theorem strEmpty {t : ByteArray} (h : t.size = 0) : t = ByteArray.empty := by
  apply ByteArray.ext; apply Array.eq_empty_of_size_eq_zero; exact h
def textsN (s : ByteArray) (n : Nat) : List St := (List.range n).map fun i => ⟨0, 0, s.extract (4096 * i) (4096 * (i + 1))⟩
theorem textsN_succ (s : ByteArray) (n : Nat) : textsN s (n + 1) = textsN s n ++ [⟨0, 0, s.extract (4096 * n) (4096 * (n + 1))⟩] := by
  unfold textsN; rw [List.range_succ, List.map_append]; rfl
theorem textsN_len (s : ByteArray) (n : Nat) : (textsN s n).length = n := by simp [textsN]
theorem texts_eq (s : ByteArray) (n : Nat) (h : n = (s.size + 4095) / 4096) : texts s = textsN s n := by rw [h]; rfl
theorem cut_cut (s : ByteArray) (n i j : Nat) (hj : n + j ≤ s.size) : (s.extract n s.size).extract i j = s.extract (n + i) (n + j) := by
  rw [ByteArray.extract_extract, Nat.min_eq_left hj]
end Go.Proofs.Ytgemhgllifhckaa
namespace Go.Proofs.Ytgemhgllifhckaa
open Go.RowKit
set_option linter.unusedVariables false
theorem flat_len (l : List St) : (l.flatMap St.c).length = l.length * 3 := by
  induction l with
  | nil => rfl
  | cons x l ih => rw [List.flatMap_cons, List.length_append, ih, List.length_cons, show x.c.length = 3 from rfl]; omega
theorem flat_last (o : List St) (x : St) (i : Nat) (hi : i < 3) : ((o ++ [x]).flatMap St.c)[o.length * 3 + i]? = x.c[i]? := by
  rw [List.flatMap_append, List.getElem?_append_right (by rw [flat_len]; omega), flat_len, show o.length * 3 + i - o.length * 3 = i by omega]
  simp
theorem flat_setLen (o : List St) (x : St) (n : Int) : ((o ++ [x]).flatMap St.c).set (o.length * 3 + 1) (.int .i64 n) = (o ++ [(⟨x.pos, n, x.text⟩ : St)]).flatMap St.c := by
  rw [List.flatMap_append, List.set_append_right _ _ (by rw [flat_len]; omega), flat_len, show o.length * 3 + 1 - o.length * 3 = 1 by omega, List.flatMap_append]
  congr 1
/-- the last step of a list that the walk owns -/
theorem Own.last {w : World} {base : Nat} {v : Value} {o : List St} {x : St} (h : Own w base v (o ++ [x])) :
    ∃ g cap, v = .slice (some ⟨g, 0, none⟩) (o.length + 1) cap ∧ o.length + 1 ≤ cap ∧ base ≤ g ∧ g < w.heap.size ∧
      w.cell? ⟨g, o.length * 3, none⟩ = some (.int .i64 x.pos) ∧ w.cell? ⟨g, o.length * 3 + 1, none⟩ = some (.int .i64 x.len) ∧ w.cell? ⟨g, o.length * 3 + 2, none⟩ = some (.string x.text) ∧ w.frozen? ⟨g, o.length * 3 + 1, none⟩ = false ∧
      ∀ n : Int, Own (w.setCell ⟨g, o.length * 3 + 1, none⟩ (.int .i64 n)) base v (o ++ [⟨x.pos, n, x.text⟩]) ∧ w.grownBy (w.setCell ⟨g, o.length * 3 + 1, none⟩ (.int .i64 n)) (some g) := by
  have h0 := h
  have hlt := World.ownsRow.lt h
  unfold Own at h
  have hl : (o ++ [x]).length = o.length + 1 := by simp
  rw [hl] at h
  rcases h.2 with ⟨h', hz⟩ | ⟨g, cap, cur, rfl, hb, hg, hnc, hcm, hcs, htake⟩
  · simp at hz
  · have hc := fun i (hi : i < 3) => (h.cellAt (o.length * 3 + i) (by omega)).trans (flat_last o x i hi)
    refine ⟨g, cap, rfl, hnc, hb, (hlt g rfl).2, hc 0 (by omega), hc 1 (by omega), hc 2 (by omega), h.frozenAt _, fun n => ?_⟩
    obtain ⟨s1, s2⟩ := h.stored (o.length * 3 + 1) (.int .i64 n)
    refine ⟨?_, s2⟩
    rw [flat_setLen] at s1
    unfold Own
    simpa using s1
end Go.Proofs.Ytgemhgllifhckaa
