/- The document's Texts and Copy: which block alone turns. Conditions: as named in each theorem. -/
import Derived.Test.YtgemhgllifhckaaDlCore
namespace Go.Proofs.Ytgemhgllifhckaa
open Go.RowKit
set_option linter.unusedVariables false
set_option linter.unusedSimpArgs false

theorem keptN' {T : Nat → Prop} {w w' : World} (h : Kept T w w') (n : Nat) : Kept T w (w'.drewN n) := ⟨h.os, h.tape, h.output, h.size, h.block⟩
theorem kept_app {T : Nat → Prop} {w wr w5 : World} {o : Obj} {r : Option Nat} (hK : Kept T w wr) (hF : ∀ k, r = some k → T k ∨ w.heap.size ≤ k) (hg : (wr.alloc o).grownBy w5 r) : Kept T w w5 :=
  hK.trans (U := fun k => r = some k) ((Kept.of_below (fun k => r = some k) ((Below.refl _ _).alloc (Nat.le_refl _) o)).trans (Kept.of_grown hg) (fun _ _ h => h)) (fun i hi h => (hF i h).elim id (fun h2 => by omega))
theorem fresh_app {T : Nat → Prop} {w wr : World} {o : Obj} {r : Option Nat} {v' : Value} (hs : w.heap.size ≤ wr.heap.size) (hF : ∀ k, r = some k → T k ∨ w.heap.size ≤ k) (hrb : v'.ownBlock = r ∨ v'.ownBlock = some (wr.alloc o).heap.size) : ∀ k, v'.ownBlock = some k → T k ∨ w.heap.size ≤ k := fun k h => by
  rcases hrb with e | e
  · exact hF k (by rw [← e]; exact h)
  · rw [e] at h
    injection h with h
    rw [World.size_alloc] at h
    exact .inr (by omega)
theorem kept_appN {w w5 : World} {o : Obj} {r : Option Nat} (n : Nat) (hg : ((w.drewN n).alloc o).grownBy w5 r) : Kept (fun k => r = some k) w w5 :=
  kept_app (T := fun k => r = some k) (wr := w.drewN n) (keptN' (Kept.refl _ w) n) (fun k h => .inl h) hg
theorem fresh_appN {w : World} {o : Obj} {r : Option Nat} {v' : Value} (n : Nat) (hrb : v'.ownBlock = r ∨ v'.ownBlock = some ((w.drewN n).alloc o).heap.size) : ∀ k, v'.ownBlock = some k → r = some k ∨ w.heap.size ≤ k :=
  fresh_app (T := fun k => r = some k) (wr := w.drewN n) (Nat.le_refl _) (fun k h => .inl h) hrb

set_option maxRecDepth 100000 in
set_option maxHeartbeats 2000000 in
theorem refTextsK_any (base : Nat) (w : World) (v : Value) (out : List St) (s : ByteArray) (hO : Own w base v out) (hb : base ≤ w.heap.size) (hs : s.size ≤ 100000000) (hn : out.length ≤ 100000000) :
    Calls Try.prog 67 #[v, .string s] w fun e w' => ∃ v', e = .returned v' ∧ Own w' base v' (out ++ texts s) ∧ Below base w w' ∧ Kept (fun k => v.ownBlock = some k) w w' ∧ (∀ k, v'.ownBlock = some k → v.ownBlock = some k ∨ w.heap.size ≤ k) := by
  obtain ⟨i0, hi, hz0, hz1, hz2⟩ := info_parts infoStep
  have hgz := stepZ_run
  go_enter Try.func67, Try.ntmps67
  go_wp2
  go_loopw [0, 1] (fun a b wr => ∃ (j : Nat) (t : ByteArray), 4096 * j ≤ s.size ∧ b = .string t ∧ t = s.extract (4096 * j) s.size ∧ Own wr base a (out ++ textsN s j) ∧ Below base w wr ∧ Kept (fun k => v.ownBlock = some k) w wr ∧ (∀ k, a.ownBlock = some k → v.ownBlock = some k ∨ w.heap.size ≤ k)) (fun a b _ => szOf b)
  case atStart => exact ⟨0, s, by omega, rfl, by rw [Nat.mul_zero, cut_self], by simpa [textsN] using hO, Below.refl _ _, Kept.refl _ _, fun k h => .inl h⟩
  case round =>
    clear hO
    obtain ⟨j, t, hj, rfl, ht, hO, hB, hK, hF⟩ := hrel
    have hsz : t.size = s.size - 4096 * j := by rw [ht, ByteArray.size_extract]; omega
    have hb2 := Nat.le_trans hb hB.size
    have HS := Lib.hid hsz
    have hts : t.size ≤ 100000000 := by omega
    have hjs : j ≤ 100000000 := by omega
    have hlen : (out ++ textsN s j).length ≤ 200000000 := by rw [List.length_append, textsN_len]; omega
    obtain ⟨L, hL⟩ : ∃ L, L = out ++ textsN s j := ⟨_, rfl⟩
    rw [← hL] at hO hlen
    have HL := Lib.hid hL
    have HT := Lib.hid ht
    clear ht hsz hL
    by_cases hlt : 4096 < t.size
    · have hsz := HS.out
      have hx : t.extract 0 4096 = s.extract (4096 * j) (4096 * (j + 1)) := by rw [HT.out, cut_cut _ _ _ _ (by omega)]; rfl
      have hr : t.extract 4096 t.size = s.extract (4096 * (j + 1)) s.size := by rw [hsz, HT.out, cut_cut _ _ _ _ (by omega)]; congr 1; omega
      have hrs : (t.extract 4096 t.size).size < t.size := by rw [ByteArray.size_extract]; omega
      have HR := Lib.hid hr
      have HRS := Lib.hid hrs
      have HJ : Hid (4096 * (j + 1) ≤ s.size) := Lib.hid (by omega)
      have hsu : out ++ textsN s (j + 1) = L ++ [⟨0, 0, t.extract 0 4096⟩] := by rw [textsN_succ, hx, HL.out, List.append_assoc]
      have HSU := Lib.hid hsu
      clear hx hr hrs hsu hsz hj
      go_wp2_with (at_builtin; refine wpList_append_own_at _ rfl _ _ 23 rfl base 76 i0 (.agg #[.int .i64 0, .int .i64 0, .string ByteArray.empty]) 3 32 Try.underlying23 hi hz0 hz1 hz2 rfl (by decide) _ _ _ rfl (hO.alloc _) ⟨wr.heap.size, 0, none⟩ 1 1 [.int .i64 0, .int .i64 0, .string (t.extract 0 4096)] rfl rfl (cells_new wr _ _) (sc_one ⟨0, 0, t.extract 0 4096⟩) (by unfold maxLen; omega) (by omega) (by simp; omega) ?_; intro v' w5 hO5 hg5 _ hrb)
      have hO6 : Own w5 base v' (out ++ textsN s (j + 1)) := by rw [HSU.out]; exact Own.snoc hO5
      have hB6 : Below base w w5 := (hB.alloc hb2 _).grown hg5 (by simp; omega) hO.row_ge
      have hK6 := kept_app hK hF hg5
      have hF6 := fresh_app hK.size hF hrb
      clear hO5 hg5 hrb
      go_wp2
      go_roundw
      case rel => exact ⟨j + 1, _, HJ.out, rfl, HR.out, hO6, hB6, hK6, hF6⟩
      case measure => exact HRS.out
    · by_cases h0 : t.size = 0
      · have hte : t = ByteArray.empty := by
          apply ByteArray.ext; apply Array.eq_empty_of_size_eq_zero; exact h0
        have hfin : out ++ texts s = L := by rw [HL.out, texts_eq s j (by have := HS.out; omega)]
        have HFN := Lib.hid hfin
        subst hte
        clear hfin h0
        go_wp2
        go_ret
        exact ⟨_, rfl, by rw [HFN.out]; exact hO, hB, hK, hF⟩
      · have hne := strNe h0
        have hfin : out ++ texts s = L ++ [⟨0, 0, t⟩] := by
          have := HS.out
          rw [HL.out, texts_eq s (j + 1) (by omega), textsN_succ, List.append_assoc, HT.out, cut_over s _ (4096 * (j + 1)) (by omega)]
        have HFN := Lib.hid hfin
        clear hfin
        go_wp2_with (at_builtin; refine wpList_append_own_at _ rfl _ _ 23 rfl base 76 i0 (.agg #[.int .i64 0, .int .i64 0, .string ByteArray.empty]) 3 32 Try.underlying23 hi hz0 hz1 hz2 rfl (by decide) _ _ _ rfl (hO.alloc _) ⟨wr.heap.size, 0, none⟩ 1 1 [.int .i64 0, .int .i64 0, .string t] rfl rfl (cells_new wr _ _) (sc_one ⟨0, 0, t⟩) (by unfold maxLen; omega) (by omega) (by simp; omega) ?_; intro v' w5 hO5 hg5 _ hrb)
        have hO6 : Own w5 base v' (out ++ texts s) := by rw [HFN.out]; exact Own.snoc hO5
        have hB6 : Below base w w5 := (hB.alloc hb2 _).grown hg5 (by simp; omega) hO.row_ge
        have hK6 := kept_app hK hF hg5
        have hF6 := fresh_app hK.size hF hrb
        clear hO5 hg5 hrb
        go_wp2
        go_ret
        exact ⟨_, rfl, hO6, hB6, hK6, hF6⟩

set_option maxRecDepth 100000 in
set_option maxHeartbeats 2000000 in
theorem refCopyK_any (base : Nat) (w : World) (v : Value) (out : List St) (a n : Int) (hO : Own w base v out) (hb : base ≤ w.heap.size) (hn : out.length ≤ 300000000) (hbd : Bd out) (hn0 : 0 ≤ n) (hn1 : n ≤ 1000000000) :
    Calls Try.prog 68 #[v, .int .i64 a, .int .i64 n] w fun e w' => ∃ v', e = .returned v' ∧ Own w' base v' (copyL out a n) ∧ Below base w w' ∧ Kept (fun k => v.ownBlock = some k) w w' ∧ (∀ k, v'.ownBlock = some k → v.ownBlock = some k ∨ w.heap.size ≤ k) := by
  obtain ⟨i0, hi, hz0, hz1, hz2⟩ := info_parts infoStep
  have hgz := stepZ_run
  rcases List.eq_nil_or_concat out with rfl | ⟨o, x, rfl⟩
  · rw [copyL_nil]
    have hv : ∃ ao cap, v = .slice ao 0 cap := by
      rcases hO.2 with ⟨h1, -⟩ | ⟨g, cap, cur, h1, -⟩
      · exact ⟨none, 0, h1⟩
      · exact ⟨_, cap, h1⟩
    obtain ⟨ao, cap, rfl⟩ := hv
    go_enter Try.func68, Try.ntmps68
    go_wp2_with fail
    go_quiet (fail)
    go_wp2_with (at_builtin; refine wpList_append_own_at _ rfl _ _ 23 rfl base 76 i0 (.agg #[.int .i64 0, .int .i64 0, .string ByteArray.empty]) 3 32 Try.underlying23 hi hz0 hz1 hz2 rfl (by decide) _ _ _ rfl (World.ownsRow.alloc (w := w.drewN nq) hO _) ⟨(w.drewN nq).heap.size, 0, none⟩ 1 1 [.int .i64 a, .int .i64 n, .string ByteArray.empty] rfl rfl (cells_new (w.drewN nq) _ _) (sc_one ⟨a, n, ByteArray.empty⟩) (by unfold maxLen; omega) (by omega) (by simp; omega) ?_; intro v' w5 hO5 hg5 _ hrb)
    have hO6 : Own w5 base v' [⟨a, n, ByteArray.empty⟩] := hO5
    have hB6 : Below base w w5 := ((below_drewN' (Below.refl base w) nq).alloc (by simp; omega) _).grown hg5 (by simp; omega) hO.row_ge
    have hK6 := kept_appN nq hg5
    have hF6 := fresh_appN nq hrb
    clear hO5 hg5 hrb
    go_wp2
    go_ret
    exact ⟨_, rfl, hO6, hB6, hK6, hF6⟩
  · rw [List.concat_eq_append] at hO hn hbd ⊢
    obtain ⟨R, hR⟩ : ∃ R, R = copyL (o ++ [x]) a n := ⟨_, rfl⟩
    rw [← hR]
    rw [copyL_snoc] at hR
    obtain ⟨hx0, hx1⟩ := hbd x (by simp)
    obtain ⟨g, cap, rfl, hcap, hbg, hgw, c0, c1, c2, f1, hset⟩ := hO.last
    have HSET := Lib.hid hset
    have hq0 : o.length ≤ 300000000 := by simp at hn; omega
    obtain ⟨q, hq⟩ : ∃ q, q = o.length := ⟨_, rfl⟩
    rw [← hq] at hO
    have HO := Lib.hid hO
    rw [← hq] at c0 c1 c2 f1 HSET hq0 hcap
    rw [← hq]
    have HQ := Lib.hid hq
    clear hset hO hbd hn hq
    obtain ⟨p, l, t⟩ := x
    simp only at c0 c1 c2 hx0 hx1
    have qs : ((q : Int) + 1) - 1 = q := by omega
    have i1 : (q : Int) < (q : Int) + 1 := by omega
    have i2 : (q : Int) + 1 ≤ (cap : Int) := by omega
    obtain ⟨z, hz⟩ : ∃ z, z = w64 (p + l) := ⟨_, rfl⟩
    have hzw : IntKind.i64.wrap (p + l) = z := hz.symm
    have HZ := Lib.hid hz
    clear hz
    have HQL : Hid (q + 1 = (o ++ [(⟨p, l, t⟩ : St)]).length) := Lib.hid (by simp; exact HQ.out)
    by_cases ht : t.size = 0
    · obtain rfl := strEmpty ht
      by_cases hza : z = a
      · have hzb : (z == a) = true := by simpa using hza
        have hl1 : (Lit.int .i64 (l + n)).wf = true := WalkArith.wf_i64 (by omega)
        rw [if_pos ⟨rfl, HZ.out.symm.trans hza⟩] at hR
        have HR := Lib.hid hR
        clear ht hza hR
        go_enter Try.func68, Try.ntmps68
        go_wp2_with fail
        go_quiet (fail)
        go_wp2
        obtain ⟨s1, s2⟩ := HSET.out (l + n)
        have hB : Below base w (w.setCell ⟨g, q * 3 + 1, none⟩ (.int .i64 (l + n))) := (Below.refl base w).grown s2 hb (by intro j hj; injection hj with hj; omega)
        go_ret
        exact ⟨_, rfl, by rw [HR.out]; exact s1, below_drewN' hB nq, keptN' ((Kept.of_grown s2).mono (fun k _ h => by simp only [Option.some.injEq] at h; simp [Value.ownBlock, h])) nq, fun k h => .inl h⟩
      · have hzb : (z == a) = false := by simpa using hza
        rw [if_neg (fun h => hza (HZ.out.trans h.2))] at hR
        have HR := Lib.hid hR
        clear ht hza hR
        go_enter Try.func68, Try.ntmps68
        go_wp2_with fail
        go_quiet (fail)
        go_wp2_with (at_builtin; refine wpList_append_own_at _ rfl _ _ 23 rfl base 76 i0 (.agg #[.int .i64 0, .int .i64 0, .string ByteArray.empty]) 3 32 Try.underlying23 hi hz0 hz1 hz2 rfl (by decide) _ _ _ rfl (World.ownsRow.alloc (w := w.drewN nq) HO.out _) ⟨(w.drewN nq).heap.size, 0, none⟩ 1 1 [.int .i64 a, .int .i64 n, .string ByteArray.empty] rfl rfl (cells_new (w.drewN nq) _ _) (sc_one ⟨a, n, ByteArray.empty⟩) (by rw [← HQL.out]; unfold maxLen; omega) (by rw [← HQL.out]; omega) (by simp; omega) ?_; intro v' w5 hO5 hg5 _ hrb)
        have hO6 : Own w5 base v' R := by rw [HR.out]; exact Own.snoc hO5
        have hB6 : Below base w w5 := ((below_drewN' (Below.refl base w) nq).alloc (by simp; omega) _).grown hg5 (by simp; omega) HO.out.row_ge
        have hK6 := kept_appN nq hg5
        have hF6 := fresh_appN nq hrb
        clear hO5 hg5 hrb
        go_wp2
        go_ret
        exact ⟨_, rfl, hO6, hB6, hK6, hF6⟩
    · have hne := strNe ht
      rw [if_neg (fun h => ht h.1)] at hR
      have HR := Lib.hid hR
      clear hR
      go_enter Try.func68, Try.ntmps68
      go_wp2_with fail
      go_quiet (fail)
      go_wp2_with (at_builtin; refine wpList_append_own_at _ rfl _ _ 23 rfl base 76 i0 (.agg #[.int .i64 0, .int .i64 0, .string ByteArray.empty]) 3 32 Try.underlying23 hi hz0 hz1 hz2 rfl (by decide) _ _ _ rfl (World.ownsRow.alloc (w := w.drewN nq) HO.out _) ⟨(w.drewN nq).heap.size, 0, none⟩ 1 1 [.int .i64 a, .int .i64 n, .string ByteArray.empty] rfl rfl (cells_new (w.drewN nq) _ _) (sc_one ⟨a, n, ByteArray.empty⟩) (by rw [← HQL.out]; unfold maxLen; omega) (by rw [← HQL.out]; omega) (by simp; omega) ?_; intro v' w5 hO5 hg5 _ hrb)
      have hO6 : Own w5 base v' R := by rw [HR.out]; exact Own.snoc hO5
      have hB6 : Below base w w5 := ((below_drewN' (Below.refl base w) nq).alloc (by simp; omega) _).grown hg5 (by simp; omega) HO.out.row_ge
      have hK6 := kept_appN nq hg5
      have hF6 := fresh_appN nq hrb
      clear hO5 hg5 hrb
      go_wp2
      go_ret
      exact ⟨_, rfl, hO6, hB6, hK6, hF6⟩
end Go.Proofs.Ytgemhgllifhckaa
