/- delta's maker: copy. Conditions: as named in each theorem. -/
import Derived.Test.YtgkcnocfijckoaaGreatQO
namespace Go.Proofs.YtgkcnocfijckoaaGreat
open Go.RowKit
set_option linter.unusedVariables false
set_option linter.unusedSimpArgs false
/-- the steps that a maker makes -/
def okS (x : St) : Prop := (x.text.size ≠ 0 ∧ x.pos = 0 ∧ x.len = 0 ∧ x.text.size ≤ 4096) ∨ (x.text.size = 0 ∧ 0 < x.len ∧ 0 ≤ x.pos ∧ x.pos + x.len ≤ 524288)
def ShL (L : List St) : Prop := ∀ x ∈ L, okS x
theorem ShL.append {L M : List St} (h : ShL L) (k : ShL M) : ShL (L ++ M) := by
  intro x hx
  rw [List.mem_append] at hx
  exact hx.elim (h x) (k x)
theorem ShL.texts (s : ByteArray) : ShL (texts s) := by
  intro x hx
  unfold Go.Proofs.YtgkcnocfijckoaaGreat.texts at hx
  rw [List.mem_map] at hx
  obtain ⟨i, hi, rfl⟩ := hx
  rw [List.mem_range] at hi
  refine .inl ⟨?_, rfl, rfl, ?_⟩
  · show (s.extract (4096 * i) (4096 * (i + 1))).size ≠ 0
    rw [ByteArray.size_extract]; omega
  · show (s.extract (4096 * i) (4096 * (i + 1))).size ≤ 4096
    rw [ByteArray.size_extract]; omega
theorem ShL.copy {L : List St} (h : ShL L) {a n : Int} (ha : 0 ≤ a) (hn : 0 < n) (hb : a + n ≤ 524288) : ShL (copyL L a n) := by
  rcases List.eq_nil_or_concat L with rfl | ⟨o, x, rfl⟩
  · intro y hy
    rw [copyL_nil] at hy
    simp only [List.mem_cons, List.not_mem_nil, or_false] at hy
    subst hy
    exact .inr ⟨rfl, hn, ha, hb⟩
  · rw [List.concat_eq_append] at h ⊢
    rw [copyL_snoc]
    have hx := h x (by simp)
    split
    · rename_i h1
      intro y hy
      rw [List.mem_append] at hy
      rcases hy with hy | hy
      · exact h y (by simp [hy])
      · simp only [List.mem_cons, List.not_mem_nil, or_false] at hy
        subst hy
        rcases hx with ⟨h2, -⟩ | ⟨h2, h3, h4, h5⟩
        · exact absurd h1.1 h2
        · have e : w64 (x.pos + x.len) = x.pos + x.len := w64_in (WalkArith.wf_i64 (by omega))
          rw [e] at h1
          exact .inr ⟨h2, by show 0 < x.len + n; omega, h4, by show x.pos + (x.len + n) ≤ 524288; omega⟩
    · intro y hy
      rw [List.mem_append] at hy
      rcases hy with hy | hy
      · exact h y hy
      · simp only [List.mem_cons, List.not_mem_nil, or_false] at hy
        subst hy
        exact .inr ⟨rfl, hn, ha, hb⟩
theorem copyL_len (L : List St) (a n : Int) : (copyL L a n).length ≤ L.length + 1 := by
  rcases List.eq_nil_or_concat L with rfl | ⟨o, x, rfl⟩
  · simp [copyL_nil]
  · rw [List.concat_eq_append, copyL_snoc]
    split <;> simp
theorem texts_len (s : ByteArray) : (texts s).length = (s.size + 4095) / 4096 := by simp [texts]
/-- the steps' row turned in place -/
theorem Mk.inplace {w w' : World} {pk B : Nat} {L L' : List St} {t : List UInt8} {sv tv : Value} (h : Mk w pk B L t sv tv) (ho : Own w' B sv L') (hg : w.grownBy w' sv.ownBlock) : Mk w' pk B L' t sv tv ∧ Kept (MkT pk B) w w' := by
  have h1 := h.pB
  have far : ∀ k, sv.ownBlock = some k → B ≤ k := fun k hk => (World.ownsRow.lt h.s k hk).1
  refine ⟨⟨h.b.grown hg (fun e => by have := far pk e.symm; omega), ho, h.t.grown hg (fun k hk => h.ap k hk), h.ap, h1, Nat.le_trans h.hB hg.size⟩, hg.os, hg.tape, hg.output, hg.size, fun k hk hn => ?_⟩
  exact hg.block k hk (fun e => hn (.inr (far k e.symm)))
def CopyP (w : World) (pk B : Nat) (L : List St) (e : Ending) (w' : World) : Prop := ∃ sv tv, e = .returned (.tuple #[]) ∧ Mk w' pk B L [] sv tv ∧ Kept (MkT pk B) w w'
set_option maxRecDepth 100000 in
set_option maxHeartbeats 4000000 in
theorem mcopy_any (w : World) (pk B : Nat) (L : List St) (t : List UInt8) (sv tv : Value) (h : Mk w pk B L t sv tv) (hL : L.length ≤ 10000000) (ht : t.length ≤ 10000000) (hsh : ShL L) (a n : Int) (ha : 0 ≤ a) (hn : 0 < n) (hb : a + n ≤ 524288) :
    Calls Tryz.prog 112 #[.pointer (some ⟨pk, 0, none⟩), .int .i64 a, .int .i64 n] w (CopyP w pk B (copyL (L ++ texts (toS t)) a n)) := by
  obtain ⟨i0, hi, hz0, hz1, hz2⟩ := info_parts infoStep
  have hgz := stepZ_run
  have HFL := Lib.hid (flush_any w pk B L t sv tv h hL ht)
  obtain ⟨L1, hL1⟩ : ∃ L1, L1 = L ++ texts (toS t) := ⟨_, rfl⟩
  have hlen : L1.length ≤ 20000000 := by rw [hL1, List.length_append, texts_len, toS_size]; omega
  have hsh1 : ShL L1 := by rw [hL1]; exact hsh.append (ShL.texts _)
  have HL1 := Lib.hid hL1
  rw [← hL1]
  clear h hL1 hsh
  go_enter Tryz.func112, Tryz.ntmps112
  go_wp2_with fail
  refine HFL.out.mono ?_
  rintro e w1 ⟨s1, t1, rfl, hM, hK⟩
  rw [← HL1.out] at hM
  have HK := Lib.hid hK
  clear hK HFL
  rcases List.eq_nil_or_concat L1 with rfl | ⟨o, x, hox⟩
  case inl =>
    obtain ⟨ao, cap, rfl⟩ : ∃ ao cap, s1 = .slice ao 0 cap := owns_slice hM.s
    have x0 := hM.b.cell (i := 0) rfl
    have HM := Lib.hid hM
    have HR : Hid (copyL [] a n = [] ++ [⟨a, n, ByteArray.empty⟩]) := Lib.hid rfl
    have HOWN : Hid (w1.ownsRow B 107 3 (.slice ao 0 cap) 0 (([] : List St).flatMap St.c)) := Lib.hid hM.s
    have hBw := hM.hB
    clear hM hlen hsh1
    go_wp2_with fail
    go_quiet (fail)

    have hMd := HM.out.next (below_drewN' (Below.refl w1.heap.size w1) nq)
    have hMb := hMd.next (below_alloc (w1.drewN nq) (Obj.cells #[.int .i64 a, .int .i64 n, .string ByteArray.empty] 107))
    have HMB := Lib.hid hMb
    clear hMd hMb
    go_wp2_with (at_builtin; refine wpList_append_own_at _ rfl _ _ 53 rfl B 107 i0 (.agg #[.int .i64 0, .int .i64 0, .string ByteArray.empty]) 3 32 Tryz.underlying53 hi hz0 hz1 hz2 rfl (by decide) _ _ _ rfl (World.ownsRow.alloc (w := w1.drewN nq) HOWN.out _) ⟨(w1.drewN nq).heap.size, 0, none⟩ 1 1 [.int .i64 a, .int .i64 n, .string ByteArray.empty] rfl rfl (cells_new (w1.drewN nq) _ _) (sc_one ⟨a, n, ByteArray.empty⟩) (by unfold maxLen; omega) (by omega) (by simp; omega) ?_)
    intro v5 w5 hO5 hg5 _ hrb
    obtain ⟨a5, k5, rfl⟩ := owns_slice hO5
    have hst := Mk.steps (x := ⟨a, n, ByteArray.empty⟩) HMB.out hO5 hg5 (hrb.imp id (fun e => ⟨_, e, by simp⟩))
    have z0 := hst.2.2.1
    have z1 := hst.2.2.2
    have HF := Lib.hid (And.intro hst.1 hst.2.1)
    clear hO5 hg5 hrb hst
    go_wp2
    go_end0
    exact ⟨_, _, rfl, by rw [HR.out]; exact HF.out.1, HK.out.trans ((Kept.of_below (MkT pk B) (below_then (below_drewN' (Below.refl _ _) nq) (below_alloc _ _))).trans HF.out.2 (fun _ _ h => h)) (fun _ _ h => h)⟩
  case inr =>
    rw [List.concat_eq_append] at hox
    subst hox
    have hx := hsh1 x (by simp)
    obtain ⟨g, cap, rfl, hcap, hbg, hgw, c0, c1, c2, f1, hset⟩ := hM.s.last
    obtain ⟨q, hq⟩ : ∃ q, q = o.length := ⟨_, rfl⟩
    have hq0 : q ≤ 20000000 := by rw [List.length_append] at hlen; omega
    rw [← hq] at hM c0 c1 c2 f1 hset hcap
    have x0 := hM.b.cell (i := 0) rfl
    have HM := Lib.hid hM
    have HSET := Lib.hid hset
    have HQ : Hid (q + 1 = (o ++ [x]).length) := Lib.hid (by rw [List.length_append, hq]; rfl)
    obtain ⟨XS, hXS⟩ : ∃ X, X = (o ++ [x]).flatMap St.c := ⟨_, rfl⟩
    have HXS := Lib.hid hXS
    clear hXS
    have HOWN : Hid (w1.ownsRow B 107 3 (.slice (some ⟨g, 0, none⟩) (q + 1) cap) (q + 1) XS) := Lib.hid (by rw [HXS.out, HQ.out]; have h := hM.s; rw [HQ.out] at h; exact h)
    have hBw := hM.hB
    have qs : ((q : Int) + 1) - 1 = q := by omega
    have i1 : (q : Int) < (q : Int) + 1 := by omega
    have i2 : (q : Int) + 1 ≤ (cap : Int) := by omega
    obtain ⟨p, l, tx⟩ := x
    simp only [okS] at hx c0 c1 c2
    have HSH : Hid (copyL (o ++ [⟨p, l, tx⟩]) a n = if tx.size = 0 ∧ w64 (p + l) = a then o ++ [⟨p, l + n, tx⟩] else o ++ [⟨p, l, tx⟩] ++ [⟨a, n, ByteArray.empty⟩]) := Lib.hid (copyL_snoc o ⟨p, l, tx⟩ a n)
    clear hM hset hq hlen hsh1
    rcases hx with ⟨h1, h2, h3, h4⟩ | ⟨h1, h2, h3, h4⟩
    case inl =>
      have HR : Hid (copyL (o ++ [⟨p, l, tx⟩]) a n = o ++ [⟨p, l, tx⟩] ++ [⟨a, n, ByteArray.empty⟩]) := Lib.hid (by rw [HSH.out, if_neg (fun h => h1 h.1)])
      have d1 : decide (0 < l) = false := decide_eq_false (by omega)
      have d2 : ¬ 0 < l := by omega
      clear h1 h2 h3 h4 HSH
      go_wp2_with fail
      go_quiet (fail)
      have hMd := HM.out.next (below_drewN' (Below.refl w1.heap.size w1) nq)
      have hMb := hMd.next (below_alloc (w1.drewN nq) (Obj.cells #[.int .i64 a, .int .i64 n, .string ByteArray.empty] 107))
      have HMB := Lib.hid hMb
      clear hMd hMb
      go_wp2_with (at_builtin; refine wpList_append_own_at _ rfl _ _ 53 rfl B 107 i0 (.agg #[.int .i64 0, .int .i64 0, .string ByteArray.empty]) 3 32 Tryz.underlying53 hi hz0 hz1 hz2 rfl (by decide) _ _ _ rfl (World.ownsRow.alloc (w := w1.drewN nq) HOWN.out _) ⟨(w1.drewN nq).heap.size, 0, none⟩ 1 1 [.int .i64 a, .int .i64 n, .string ByteArray.empty] rfl rfl (cells_new (w1.drewN nq) _ _) (sc_one ⟨a, n, ByteArray.empty⟩) (by unfold maxLen; omega) (by omega) (by simp; omega) ?_)
      intro v5 w5 hO5 hg5 _ hrb
      obtain ⟨a5, k5, rfl⟩ := owns_slice hO5
      have hst := Mk.steps (x := ⟨a, n, ByteArray.empty⟩) HMB.out (by rw [← HQ.out, ← HXS.out]; exact hO5) hg5 (hrb.imp id (fun e => ⟨_, e, by simp⟩))
      have z0 := hst.2.2.1
      have z1 := hst.2.2.2
      have HF := Lib.hid (And.intro hst.1 hst.2.1)
      clear hO5 hg5 hrb hst
      go_wp2
      go_end0
      exact ⟨_, _, rfl, by rw [HR.out]; exact HF.out.1, HK.out.trans ((Kept.of_below (MkT pk B) (below_then (below_drewN' (Below.refl _ _) nq) (below_alloc _ _))).trans HF.out.2 (fun _ _ h => h)) (fun _ _ h => h)⟩
    case inr =>
      have hwp : w64 (p + l) = p + l := w64_in (WalkArith.wf_i64 (by omega))
      have hwp2 : IntKind.i64.wrap (p + l) = p + l := hwp
      have d1 : decide (0 < l) = true := decide_eq_true h2
      by_cases hpa : p + l = a
      case neg =>
        have HR : Hid (copyL (o ++ [⟨p, l, tx⟩]) a n = o ++ [⟨p, l, tx⟩] ++ [⟨a, n, ByteArray.empty⟩]) := Lib.hid (by rw [HSH.out, if_neg (fun h => hpa (hwp.symm.trans h.2))])
        have d2 : (p + l == a) = false := by simpa using hpa
        clear h1 hpa hwp HSH
        go_wp2_with fail
        go_quiet (fail)
        have hMd := HM.out.next (below_drewN' (Below.refl w1.heap.size w1) nq)
        have hMb := hMd.next (below_alloc (w1.drewN nq) (Obj.cells #[.int .i64 a, .int .i64 n, .string ByteArray.empty] 107))
        have HMB := Lib.hid hMb
        clear hMd hMb
        go_wp2_with (at_builtin; refine wpList_append_own_at _ rfl _ _ 53 rfl B 107 i0 (.agg #[.int .i64 0, .int .i64 0, .string ByteArray.empty]) 3 32 Tryz.underlying53 hi hz0 hz1 hz2 rfl (by decide) _ _ _ rfl (World.ownsRow.alloc (w := w1.drewN nq) HOWN.out _) ⟨(w1.drewN nq).heap.size, 0, none⟩ 1 1 [.int .i64 a, .int .i64 n, .string ByteArray.empty] rfl rfl (cells_new (w1.drewN nq) _ _) (sc_one ⟨a, n, ByteArray.empty⟩) (by unfold maxLen; omega) (by omega) (by simp; omega) ?_)
        intro v5 w5 hO5 hg5 _ hrb
        obtain ⟨a5, k5, rfl⟩ := owns_slice hO5
        have hst := Mk.steps (x := ⟨a, n, ByteArray.empty⟩) HMB.out (by rw [← HQ.out, ← HXS.out]; exact hO5) hg5 (hrb.imp id (fun e => ⟨_, e, by simp⟩))
        have z0 := hst.2.2.1
        have z1 := hst.2.2.2
        have HF := Lib.hid (And.intro hst.1 hst.2.1)
        clear hO5 hg5 hrb hst
        go_wp2
        go_end0
        exact ⟨_, _, rfl, by rw [HR.out]; exact HF.out.1, HK.out.trans ((Kept.of_below (MkT pk B) (below_then (below_drewN' (Below.refl _ _) nq) (below_alloc _ _))).trans HF.out.2 (fun _ _ h => h)) (fun _ _ h => h)⟩
      case pos =>
        have HR : Hid (copyL (o ++ [⟨p, l, tx⟩]) a n = o ++ [⟨p, l + n, tx⟩]) := Lib.hid (by rw [HSH.out, if_pos ⟨h1, hwp.trans hpa⟩])
        have d2 : (p + l == a) = true := by simpa using hpa
        have hln : (Lit.int .i64 (l + n)).wf = true := WalkArith.wf_i64 (by omega)
        have HST := Lib.hid (HSET.out (l + n))
        have hlb : l + n ≤ 1000000 := by omega
        clear h1 hpa hwp HSH
        go_wp2_with fail
        go_quiet (fail)
        go_wp2
        go_end0
        have hf := HM.out.inplace HST.out.1 HST.out.2
        exact ⟨_, _, rfl, by rw [HR.out]; exact hf.1.next (below_drewN' (Below.refl _ _) nq), HK.out.trans (hf.2.trans (Kept.of_below (MkT pk B) (below_drewN' (Below.refl _ _) nq)) (fun _ _ h => h)) (fun _ _ h => h)⟩
end Go.Proofs.YtgkcnocfijckoaaGreat
