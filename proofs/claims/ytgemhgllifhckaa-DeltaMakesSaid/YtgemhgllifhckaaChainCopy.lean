/- The reference's Copy. Conditions: as named in each theorem. -/
import Derived.Test.YtgemhgllifhckaaChainBase
import Derived.BigQuiet
namespace Go.Proofs.Ytgemhgllifhckaa
open Go.RowKit
set_option linter.unusedVariables false

theorem flat_len (l : List St) : (l.flatMap St.c).length = l.length * 3 := by
  induction l with
  | nil => rfl
  | cons x l ih => rw [List.flatMap_cons, List.length_append, ih, List.length_cons, show x.c.length = 3 from rfl]; omega
theorem flat_last (o : List St) (x : St) (i : Nat) (hi : i < 3) : ((o ++ [x]).flatMap St.c)[o.length * 3 + i]? = x.c[i]? := by
  rw [List.flatMap_append, List.getElem?_append_right (by rw [flat_len]; omega), flat_len, show o.length * 3 + i - o.length * 3 = i by omega]
  simp
theorem flat_setLen (o : List St) (x : St) (n : Int) : ((o ++ [x]).flatMap St.c).set (o.length * 3 + 1) (.int .i64 n) = (o ++ [(⟨x.pos, n, x.text⟩ : St)]).flatMap St.c := by
  rw [List.flatMap_append, List.set_append_right _ _ (by rw [flat_len]; omega), flat_len, show o.length * 3 + 1 - o.length * 3 = 1 by omega, List.flatMap_append]
  congr 1
/-- the last step of a list that the walk owns -/
theorem Own.last {w : World} {base : Nat} {v : Value} {o : List St} {x : St} (h : Own w base v (o ++ [x])) :
    ∃ g cap, v = .slice (some ⟨g, 0, none⟩) (o.length + 1) cap ∧ o.length + 1 ≤ cap ∧ base ≤ g ∧ g < w.heap.size ∧
      w.cell? ⟨g, o.length * 3, none⟩ = some (.int .i64 x.pos) ∧ w.cell? ⟨g, o.length * 3 + 1, none⟩ = some (.int .i64 x.len) ∧ w.cell? ⟨g, o.length * 3 + 2, none⟩ = some (.string x.text) ∧ w.frozen? ⟨g, o.length * 3 + 1, none⟩ = false ∧
      ∀ n : Int, Own (w.setCell ⟨g, o.length * 3 + 1, none⟩ (.int .i64 n)) base v (o ++ [⟨x.pos, n, x.text⟩]) ∧ w.grownBy (w.setCell ⟨g, o.length * 3 + 1, none⟩ (.int .i64 n)) (some g) := by
  have h0 := h
  have hlt := World.ownsRow.lt h
  unfold Own at h
  have hl : (o ++ [x]).length = o.length + 1 := by simp
  rw [hl] at h
  rcases h.2 with ⟨h', hz⟩ | ⟨g, cap, cur, rfl, hb, hg, hnc, hcm, hcs, htake⟩
  · simp at hz
  · have hc := fun i (hi : i < 3) => (h.cellAt (o.length * 3 + i) (by omega)).trans (flat_last o x i hi)
    refine ⟨g, cap, rfl, hnc, hb, (hlt g rfl).2, hc 0 (by omega), hc 1 (by omega), hc 2 (by omega), h.frozenAt _, fun n => ?_⟩
    obtain ⟨s1, s2⟩ := h.stored (o.length * 3 + 1) (.int .i64 n)
    refine ⟨?_, s2⟩
    rw [flat_setLen] at s1
    unfold Own
    simpa using s1

/-- lengths that stay small -/
def Bd (l : List St) : Prop := ∀ x ∈ l, 0 ≤ x.len ∧ x.len ≤ 1000000000

set_option maxRecDepth 100000 in
set_option maxHeartbeats 2000000 in
theorem refCopy_any (base : Nat) (w : World) (v : Value) (out : List St) (a n : Int) (hO : Own w base v out) (hb : base ≤ w.heap.size) (hn : out.length ≤ 300000000) (hbd : Bd out) (hn0 : 0 ≤ n) (hn1 : n ≤ 1000000000) :
    Calls Try.prog 68 #[v, .int .i64 a, .int .i64 n] w fun e w' => ∃ v', e = .returned v' ∧ Own w' base v' (copyL out a n) ∧ Below base w w' := by
  obtain ⟨i0, hi, hz0, hz1, hz2⟩ := info_parts infoStep
  have hgz := stepZ_run
  rcases List.eq_nil_or_concat out with rfl | ⟨o, x, rfl⟩
  · rw [copyL_nil]
    have hv : ∃ ao cap, v = .slice ao 0 cap := by
      rcases hO.2 with ⟨h1, -⟩ | ⟨g, cap, cur, h1, -⟩
      · exact ⟨none, 0, h1⟩
      · exact ⟨_, cap, h1⟩
    obtain ⟨ao, cap, rfl⟩ := hv
    go_enter Try.func68, Try.ntmps68
    go_wp2_with fail
    go_quiet (fail)
    go_wp2_with (at_builtin; refine wpList_append_own _ rfl _ _ 23 rfl base 76 i0 (.agg #[.int .i64 0, .int .i64 0, .string ByteArray.empty]) 3 32 Try.underlying23 hi hz0 hz1 hz2 rfl (by decide) _ _ _ rfl (World.ownsRow.alloc (w := w.drewN nq) hO _) ⟨(w.drewN nq).heap.size, 0, none⟩ 1 1 [.int .i64 a, .int .i64 n, .string ByteArray.empty] rfl rfl (cells_new (w.drewN nq) _ _) (sc_one ⟨a, n, ByteArray.empty⟩) (by unfold maxLen; omega) (by omega) (by simp; omega) ?_; intro v' w5 hO5 hg5 _)
    have hO6 : Own w5 base v' [⟨a, n, ByteArray.empty⟩] := hO5
    have hB6 : Below base w w5 := ((below_drewN' (Below.refl base w) nq).alloc (by simp; omega) _).grown hg5 (by simp; omega) hO.row_ge
    clear hO5 hg5
    go_wp2
    go_ret
    exact ⟨_, rfl, hO6, hB6⟩
  · rw [List.concat_eq_append] at hO hn hbd ⊢
    obtain ⟨R, hR⟩ : ∃ R, R = copyL (o ++ [x]) a n := ⟨_, rfl⟩
    rw [← hR]
    rw [copyL_snoc] at hR
    obtain ⟨hx0, hx1⟩ := hbd x (by simp)
    obtain ⟨g, cap, rfl, hcap, hbg, hgw, c0, c1, c2, f1, hset⟩ := hO.last
    have HSET := Lib.hid hset
    have hq0 : o.length ≤ 300000000 := by simp at hn; omega
    obtain ⟨q, hq⟩ : ∃ q, q = o.length := ⟨_, rfl⟩
    rw [← hq] at hO
    have HO := Lib.hid hO
    rw [← hq] at c0 c1 c2 f1 HSET hq0 hcap
    rw [← hq]
    have HQ := Lib.hid hq
    clear hset hO hbd hn hq
    obtain ⟨p, l, t⟩ := x
    simp only at c0 c1 c2 hx0 hx1
    have qs : ((q : Int) + 1) - 1 = q := by omega
    have i1 : (q : Int) < (q : Int) + 1 := by omega
    have i2 : (q : Int) + 1 ≤ (cap : Int) := by omega
    obtain ⟨z, hz⟩ : ∃ z, z = w64 (p + l) := ⟨_, rfl⟩
    have hzw : IntKind.i64.wrap (p + l) = z := hz.symm
    have HZ := Lib.hid hz
    clear hz
    have HQL : Hid (q + 1 = (o ++ [(⟨p, l, t⟩ : St)]).length) := Lib.hid (by simp; exact HQ.out)
    by_cases ht : t.size = 0
    · obtain rfl := strEmpty ht
      by_cases hza : z = a
      · have hzb : (z == a) = true := by simpa using hza
        have hl1 : (Lit.int .i64 (l + n)).wf = true := WalkArith.wf_i64 (by omega)
        rw [if_pos ⟨rfl, HZ.out.symm.trans hza⟩] at hR
        have HR := Lib.hid hR
        clear ht hza hR
        go_enter Try.func68, Try.ntmps68
        go_wp2_with fail
        go_quiet (fail)
        go_wp2
        obtain ⟨s1, s2⟩ := HSET.out (l + n)
        have hB : Below base w (w.setCell ⟨g, q * 3 + 1, none⟩ (.int .i64 (l + n))) := (Below.refl base w).grown s2 hb (by intro j hj; injection hj with hj; omega)
        go_ret
        exact ⟨_, rfl, by rw [HR.out]; exact s1, below_drewN' hB nq⟩
      · have hzb : (z == a) = false := by simpa using hza
        rw [if_neg (fun h => hza (HZ.out.trans h.2))] at hR
        have HR := Lib.hid hR
        clear ht hza hR
        go_enter Try.func68, Try.ntmps68
        go_wp2_with fail
        go_quiet (fail)
        go_wp2_with (at_builtin; refine wpList_append_own _ rfl _ _ 23 rfl base 76 i0 (.agg #[.int .i64 0, .int .i64 0, .string ByteArray.empty]) 3 32 Try.underlying23 hi hz0 hz1 hz2 rfl (by decide) _ _ _ rfl (World.ownsRow.alloc (w := w.drewN nq) HO.out _) ⟨(w.drewN nq).heap.size, 0, none⟩ 1 1 [.int .i64 a, .int .i64 n, .string ByteArray.empty] rfl rfl (cells_new (w.drewN nq) _ _) (sc_one ⟨a, n, ByteArray.empty⟩) (by rw [← HQL.out]; unfold maxLen; omega) (by rw [← HQL.out]; omega) (by simp; omega) ?_; intro v' w5 hO5 hg5 _)
        have hO6 : Own w5 base v' R := by rw [HR.out]; exact Own.snoc hO5
        have hB6 : Below base w w5 := ((below_drewN' (Below.refl base w) nq).alloc (by simp; omega) _).grown hg5 (by simp; omega) HO.out.row_ge
        clear hO5 hg5
        go_wp2
        go_ret
        exact ⟨_, rfl, hO6, hB6⟩
    · have hne := strNe ht
      rw [if_neg (fun h => ht h.1)] at hR
      have HR := Lib.hid hR
      clear hR
      go_enter Try.func68, Try.ntmps68
      go_wp2_with fail
      go_quiet (fail)
      go_wp2_with (at_builtin; refine wpList_append_own _ rfl _ _ 23 rfl base 76 i0 (.agg #[.int .i64 0, .int .i64 0, .string ByteArray.empty]) 3 32 Try.underlying23 hi hz0 hz1 hz2 rfl (by decide) _ _ _ rfl (World.ownsRow.alloc (w := w.drewN nq) HO.out _) ⟨(w.drewN nq).heap.size, 0, none⟩ 1 1 [.int .i64 a, .int .i64 n, .string ByteArray.empty] rfl rfl (cells_new (w.drewN nq) _ _) (sc_one ⟨a, n, ByteArray.empty⟩) (by rw [← HQL.out]; unfold maxLen; omega) (by rw [← HQL.out]; omega) (by simp; omega) ?_; intro v' w5 hO5 hg5 _)
      have hO6 : Own w5 base v' R := by rw [HR.out]; exact Own.snoc hO5
      have hB6 : Below base w w5 := ((below_drewN' (Below.refl base w) nq).alloc (by simp; omega) _).grown hg5 (by simp; omega) HO.out.row_ge
      clear hO5 hg5
      go_wp2
      go_ret
      exact ⟨_, rfl, hO6, hB6⟩
end Go.Proofs.Ytgemhgllifhckaa
