/- Tidy. Conditions: as named in each theorem. -/
import Derived.Test.YtabdmcgfiabaoaaChFlush
namespace Go.Proofs.Ytabdmcgfiabaoaa
open Go.RowKit
set_option linter.unusedVariables false
theorem Small.tidy {n : Nat} {s : Sm} (h : Small n s) (x : St) : Small (n + weight1 x) (stepT s x) := by
  obtain ⟨h1, h2⟩ := h
  unfold stepT weight1
  by_cases ht : x.text.size ≠ 0
  · rw [if_pos ht, if_pos ht]
    refine ⟨?_, fun y hy => ?_⟩
    · simp only [ByteArray.size_append]; omega
    · have := h2 y hy; omega
  · rw [if_neg ht, if_neg ht]
    by_cases hn : x.len ≤ 0
    · rw [if_pos hn]
      refine ⟨by omega, fun y hy => ?_⟩
      have := h2 y hy; omega
    · rw [if_neg hn]
      have htl := chTexts_len s.2
      refine ⟨?_, fun y hy => ?_⟩
      · have := chCopyL_len (s.1 ++ texts s.2) x.pos x.len
        rw [List.length_append] at this
        have : ByteArray.empty.size = 0 := rfl
        simp only; omega
      · have := copyL_bd (s.1 ++ texts s.2) x.pos x.len n (by omega) (texts_bd s.2 h2 (by omega)) (by omega) y hy
        omega
theorem smallT_fold (l : List St) : ∀ k, k ≤ l.length → Small (weight (l.take k)) ((l.take k).foldl stepT ([], ByteArray.empty)) := by
  intro k
  induction k with
  | zero => intro _; exact ⟨by simp, by simp⟩
  | succ k ih =>
    intro hk
    rw [weight_succ l k (by omega), List.take_succ_eq_append_getElem (show k < l.length by omega), List.foldl_append]
    exact (ih (by omega)).tidy _
theorem foldT_succ (l : List St) (k : Nat) (hk : k < l.length) : (l.take (k + 1)).foldl stepT ([], ByteArray.empty) = stepT ((l.take k).foldl stepT ([], ByteArray.empty)) l[k] := by
  rw [List.take_succ_eq_append_getElem hk, List.foldl_append]; rfl
theorem Own.weaken {w : World} {base base' : Nat} {v : Value} {l : List St} (h : Own w base v l) (hb : base' ≤ base) : Own w base' v l := by
  refine ⟨h.1, ?_⟩
  rcases h.2 with h1 | ⟨g, cap, cur, h1, h2, h3⟩
  · exact .inl h1
  · exact .inr ⟨g, cap, cur, h1, Nat.le_trans hb h2, h3⟩
set_option maxRecDepth 100000 in
set_option maxHeartbeats 1000000 in
theorem tidy_any (w : World) (ao : Option Addr) (len cap : Nat) (l : List St) (hR : Rs w ao len cap 3 l St.c) (hn : len ≤ 100000000) (hw : weight l ≤ 100000000) :
    Calls Try.prog 13 #[.slice ao len cap] w fun e w' => ∃ v', e = .returned v' ∧ Own w' w.heap.size v' (tidyL l) ∧ Below w.heap.size w w' := by
  obtain ⟨i0, hi, hz0, hz1, hz2⟩ := info_parts infoStep
  have hgz := stepZ_run
  have hmf : ∀ (fn : Fn) (first cap : Array Value) (w : World), (Instr.makeFunc fn first cap).run Try.prog w = .ok (.func fn first cap) w := fun _ _ _ _ => rfl
  have HLEN := Lib.hid hR.2.2.1
  obtain ⟨W0, hW0⟩ : ∃ W0, W0 = (w.alloc (Obj.cells #[.slice none 0 0] 22)).alloc (Obj.cells #[.string ⟨#[]⟩] 9) := ⟨_, rfl⟩
  obtain ⟨pH, hpH⟩ : ∃ pH, pH = w.heap.size + 1 := ⟨_, rfl⟩
  obtain ⟨pO, hpO⟩ : ∃ pO, pO = w.heap.size := ⟨_, rfl⟩
  obtain ⟨base, hbase⟩ : ∃ b, b = w.heap.size + 2 := ⟨_, rfl⟩
  have hP0 : Blk W0 pO [.slice none 0 0] 22 := by rw [hW0, hpO]; exact (Blk.new w [.slice none 0 0] 22).alloc _
  have hH0 : Blk W0 pH [.string ByteArray.empty] 9 := by
    rw [hW0, hpH]
    have := Blk.new (w.alloc (Obj.cells #[.slice none 0 0] 22)) [.string ByteArray.empty] 9
    rw [World.size_alloc] at this
    exact this
  have hB0 : Below w.heap.size w W0 := by rw [hW0]; exact ((Below.refl _ _).alloc (Nat.le_refl _) _).alloc (by simp) _
  have hS0 : base ≤ W0.heap.size := by rw [hW0, hbase]; simp
  have hpq : pH ≠ pO := by omega
  have hpb : pH < base := by omega
  have hqb : pO < base := by omega
  have hwp : w.heap.size ≤ pH := by omega
  have hwq : w.heap.size ≤ pO := by omega
  have HW0 := Lib.hid hW0
  have HPH := Lib.hid hpH
  have HPO := Lib.hid hpO
  have HBS : Hid (w.heap.size ≤ base) := Lib.hid (by omega)
  clear hW0 hpH hpO hbase
  go_enter Try.func13, Try.ntmps13
  go_wp2
  rw [← HPH.out, ← HPO.out, ← HW0.out]
  go_loopw [12] (fun i wr => ∃ (k : Nat) (h : ByteArray) (u : Value) (out : List St), i = .int .i64 k ∧ k ≤ len ∧ (out, h) = (l.take k).foldl stepT ([], ByteArray.empty) ∧ Blk wr pH [.string h] 9 ∧ Blk wr pO [u] 22 ∧ Own wr base u out ∧ Below w.heap.size w wr ∧ base ≤ wr.heap.size) (fun i _ => len - (intOf i).toNat)
  case atStart => exact ⟨0, ByteArray.empty, _, [], rfl, by omega, rfl, hH0, hP0, Own.nil _ _, hB0, hS0⟩
  case round =>
    clear hH0 hP0 hB0 hS0
    obtain ⟨k, h, u, out, rfl, hk, hst, hH, hP, hO, hB, hS⟩ := hrel
    have hsm := smallT_fold l k (by rw [HLEN.out]; exact hk)
    rw [← hst] at hsm
    obtain ⟨hs1, hs2⟩ := hsm
    simp only at hs1
    by_cases hlt : k < len
    · obtain ⟨b, off, rfl, hbw, hc⟩ := hR.2.2.2 (by omega)
      have hkl : k < l.length := by rw [HLEN.out]; exact hlt
      have hcc := hc k hkl
      have hsu := foldT_succ l k hkl
      have hwt := weight_succ l k hkl
      have hwa := weight_take l (k + 1)
      rw [← hst] at hsu
      obtain ⟨x, hx⟩ : ∃ x, x = l[k] := ⟨_, rfl⟩
      rw [← hx] at hcc hsu hwt
      obtain ⟨p, n, t⟩ := x
      have i1 : (k : Int) < (len : Int) := by omega
      have d0 : wr.cell? ⟨b, off + k * 3, none⟩ = some (.int .i64 p) := (hB.cell (p := ⟨b, off + k * 3, none⟩) hbw).trans (hcc 0 _ rfl)
      have d1 : wr.cell? ⟨b, off + k * 3 + 1, none⟩ = some (.int .i64 n) := (hB.cell (p := ⟨b, off + (k * 3 + 1), none⟩) hbw).trans (hcc 1 _ rfl)
      have d2 : wr.cell? ⟨b, off + k * 3 + 2, none⟩ = some (.string t) := (hB.cell (p := ⟨b, off + (k * 3 + 2), none⟩) hbw).trans (hcc 2 _ rfl)
      have HSU := Lib.hid hsu
      have HBD := Lib.hid hs2
      have hwk : weight (l.take k) + weight1 ⟨p, n, t⟩ ≤ 100000000 := by omega
      obtain ⟨V, hV⟩ : ∃ V, V = wr.alloc (Obj.cells #[.int .i64 p, .int .i64 n, .string t] 55) := ⟨_, rfl⟩
      obtain ⟨q, hq⟩ : ∃ q, q = wr.heap.size := ⟨_, rfl⟩
      have hXV : Blk V q [.int .i64 p, .int .i64 n, .string t] 55 := by rw [hV, hq]; exact Blk.new wr _ _
      have hHV : Blk V pH [.string h] 9 := by rw [hV]; exact hH.alloc _
      have hPV : Blk V pO [u] 22 := by rw [hV]; exact hP.alloc _
      have hOV : Own V base u out := by rw [hV]; exact hO.alloc _
      have hBV : Below w.heap.size w V := by rw [hV]; exact hB.alloc hB.size _
      have hSV : base ≤ V.heap.size := by rw [hV]; simp; omega
      have hqV : q < V.heap.size := hXV.lt
      have hqp : q ≠ pH := by omega
      have hqo : q ≠ pO := by omega
      have hqu : some q ≠ u.ownBlock := fun e => by have := (World.ownsRow.lt hO q e.symm).2; omega
      have x1 := hXV.cell (i := 1) rfl
      have x2 := hXV.cell (i := 2) rfl
      have v0 := hHV.cell (i := 0) rfl
      have v1 := hHV.frozen 0
      rw [hV] at v0 v1
      rw [hV, hq] at x1 x2
      have HV := Lib.hid hV
      have HQ := Lib.hid hq
      clear hc hx hcc hsu hwt hwa hkl hst hs2 hH hP hO hB hS hV hq
      by_cases ht : t.size ≠ 0
      · have hne := strNe ht
        have hstep : stepT (out, h) ⟨p, n, t⟩ = (out, h ++ t) := if_pos ht
        have hww : weight1 ⟨p, n, t⟩ = t.size := if_pos ht
        rw [hstep] at HSU
        have hts : h.size + t.size ≤ 100000000 := by omega
        have HXV := Lib.hid hXV
        have HHV := Lib.hid hHV
        have HPV := Lib.hid hPV
        clear hstep hww hXV hHV hPV
        go_wp2
        rw [← HV.out]
        go_roundw
        case rel => exact ⟨k + 1, h ++ t, u, out, by go_num, by omega, HSU.out.symm, HHV.out.set 0 _, HPV.out.setOther (fun e => hpq e.symm) _, World.ownsRow.kept hOV (grown_set (grown_refl V (some pH)) 0 _) (.inr (fun e => by have := hOV.row_ge pH e; omega)), hBV.setCell hwp _, by simpa using hSV⟩
        case measure => simp [intOf]; omega
      · have ht0 : t.size = 0 := by omega
        obtain rfl := strEmpty ht0
        by_cases hn0 : n ≤ 0
        · have hstep : stepT (out, h) ⟨p, n, ByteArray.empty⟩ = (out, h) := by unfold stepT; rw [if_neg (by simp), if_pos hn0]
          rw [hstep] at HSU
          have HXV := Lib.hid hXV
          have HHV := Lib.hid hHV
          have HPV := Lib.hid hPV
          clear hstep hXV hHV hPV
          go_wp2
          rw [← HV.out]
          go_roundw
          case rel => exact ⟨k + 1, h, u, out, by go_num, by omega, HSU.out.symm, HHV.out, HPV.out, hOV, hBV, hSV⟩
          case measure => simp [intOf]; omega
        · have hstep : stepT (out, h) ⟨p, n, ByteArray.empty⟩ = (copyL (out ++ texts h) p n, ByteArray.empty) := by unfold stepT; rw [if_neg (by simp), if_neg hn0]
          have hww : weight1 ⟨p, n, ByteArray.empty⟩ = n.toNat := rfl
          rw [hstep] at HSU
          rw [hww] at hwk
          have hn1 : n ≤ 100000000 := by omega
          have htl := chTexts_len h
          clear hstep hww
          go_wp2_with fail
          rw [← HV.out, ← HQ.out]
          refine (chFlush_any V pH pO base u out h hHV hPV hOV hpq hpb hqb hSV (by omega) (by omega)).mono ?_
          rintro e w5 ⟨rfl, u5, hH5, hP5, hO5, hM5, hF5⟩
          have hX5 := hM5.blk hXV hqp hqo hqu
          have hB5 : Below w.heap.size w w5 := hBV.trans (hM5.below hBV.size hwp hwq (fun j hj => Nat.le_trans HBS.out (hOV.row_ge j hj)))
          have hS5 : base ≤ w5.heap.size := Nat.le_trans hSV hM5.size
          have hq5 : some q ≠ u5.ownBlock := fun e => by
            rcases hF5.ok q e.symm with h1 | h1
            · omega
            · exact hqu h1.symm
          have e0 := hP5.cell (i := 0) rfl
          have g0 := hP5.frozen 0
          have y0 := hX5.cell (i := 0) rfl
          have y1 := hX5.cell (i := 1) rfl
          have HBL : Hid (∀ y ∈ out ++ texts h, 0 ≤ y.len ∧ y.len ≤ 100000000) := Lib.hid (fun y hy => by have := texts_bd h HBD.out (by omega) y hy; omega)
          have hLl : (out ++ texts h).length ≤ 200000000 := by rw [List.length_append]; omega
          obtain ⟨L, hL⟩ : ∃ L, L = out ++ texts h := ⟨_, rfl⟩
          rw [← hL] at hO5 HSU HBL hLl
          have HH5 := Lib.hid hH5
          have HP5 := Lib.hid hP5
          have HB5 := Lib.hid hB5
          clear hXV hHV hPV hOV hM5 hF5 hBV x1 x2 v0 v1 hqu hL hH5 hP5 hB5 hX5 htl hwk HV d0 d1 d2
          rcases List.eq_nil_or_concat L with rfl | ⟨o, y, rfl⟩
          · have HR := Lib.hid (copyL_nil p n)
            obtain ⟨ao5, cap5, rfl⟩ := owns_slice hO5
            simp only [List.length_nil] at e0 hO5
            have HO5 : Hid (Own w5 base (.slice ao5 0 cap5) []) := Lib.hid hO5
            clear hO5
            go_wp2_with fail
            go_quiet (fail)
            go_wp2_with (at_builtin; refine wpList_append_own _ rfl _ _ 22 rfl base 55 i0 (.agg #[.int .i64 0, .int .i64 0, .string ByteArray.empty]) 3 32 Try.underlying22 hi hz0 hz1 hz2 rfl (by decide) _ _ _ rfl (World.ownsRow.alloc (w := w5.drewN nq) HO5.out _) ⟨(w5.drewN nq).heap.size, 0, none⟩ 1 1 [.int .i64 p, .int .i64 n, .string ByteArray.empty] rfl rfl (cells_new (w5.drewN nq) _ _) (sc_one ⟨p, n, ByteArray.empty⟩) (by unfold maxLen; omega) (by omega) (by simp; omega) ?_; intro v' w6 hO6 hg6 _; obtain ⟨ao6, cap6, rfl⟩ := owns_slice hO6; have hP6 := ((HP5.out.drewN nq).alloc _).grown hg6 (fun e => by have := HO5.out.row_ge pO e.symm; omega); have c6 := hP6.cell (i := 0) rfl; have f6 := hP6.frozen 0)
            have hH6 := (((HH5.out.drewN nq).alloc _).grown hg6 (fun e => by have := HO5.out.row_ge pH e.symm; omega))
            have hO7 : Own w6 base (.slice ao6 (0 + 1) cap6) (copyL [] p n) := by rw [HR.out]; exact Own.snoc (x := ⟨p, n, ByteArray.empty⟩) hO6
            have hB6 : Below w.heap.size w w6 := ((below_drewN' HB5.out nq).alloc (by have := HB5.out.size; simpa using this) _).grown hg6 (by have := HB5.out.size; simp; omega) (fun j hj => Nat.le_trans HBS.out (HO5.out.row_ge j hj))
            have hS6 : base ≤ w6.heap.size := by have := hg6.size; simp at this; omega
            clear hO6 hg6
            go_wp2
            go_roundw
            case rel => exact ⟨k + 1, ByteArray.empty, _, _, by go_num, by omega, HSU.out.symm, hH6.setOther hpq _, hP6.set 0 _, World.ownsRow.kept hO7 (grown_set (grown_refl w6 (some pO)) 0 _) (.inr (fun e => by have := hO7.row_ge pO e; omega)), hB6.setCell hwq _, by simpa using hS6⟩
            case measure => simp [intOf]; omega
          · rw [List.concat_eq_append] at hO5 HSU HBL hLl
            have hcs := copyL_snoc o y p n
            obtain ⟨hx0, hx1⟩ := HBL.out y (by simp)
            obtain ⟨g, cap5, rfl, hcap, hbg, hgw, c0, c1, c2, f1, hset⟩ := hO5.last
            have HSET := Lib.hid hset
            have ho0 : o.length ≤ 200000000 := by simp at hLl; omega
            obtain ⟨m, hm⟩ : ∃ m, m = o.length := ⟨_, rfl⟩
            rw [← hm] at hO5 e0 HP5
            have HO5 := Lib.hid hO5
            rw [← hm] at c0 c1 c2 f1 HSET hcap ho0
            have HQ2 : Hid (m + 1 = (o ++ [y]).length) := Lib.hid (by simp; exact hm)
            clear hset hO5 hm hLl
            obtain ⟨py, ly, ty⟩ := y
            simp only at c0 c1 c2 hx0 hx1
            have j1 : (m : Int) < (m : Int) + 1 := by omega
            have j2 : (m : Int) + 1 ≤ (cap5 : Int) := by omega
            obtain ⟨z, hz⟩ : ∃ z, z = w64 (py + ly) := ⟨_, rfl⟩
            have hzw : IntKind.i64.wrap (py + ly) = z := hz.symm
            have HZ := Lib.hid hz
            clear hz
            by_cases hty : ty.size = 0
            · obtain rfl := strEmpty hty
              by_cases hza : z = p
              · have hzb : (z == p) = true := by simpa using hza
                rw [if_pos ⟨rfl, HZ.out.symm.trans hza⟩] at hcs
                have HR := Lib.hid hcs
                clear hty hza hcs
                go_wp2_with fail
                go_quiet (fail)
                obtain ⟨W, hW⟩ : ∃ W, W = w5.drewN nq := ⟨_, rfl⟩
                have k0 : W.cell? ⟨pO, 0, none⟩ = some (.slice (some ⟨g, 0, none⟩) (m + 1) cap5) := by rw [hW]; exact e0
                have k1 : W.cell? ⟨q, 1, none⟩ = some (.int .i64 n) := by rw [hW]; exact y1
                have k2 : W.cell? ⟨g, m * 3 + 1, none⟩ = some (.int .i64 ly) := by rw [hW]; exact c1
                have k3 : W.frozen? ⟨g, m * 3 + 1, none⟩ = false := by rw [hW]; exact f1
                have HW := Lib.hid hW
                rw [← hW]
                clear hW e0 y0 y1 c0 c1 c2 f1 g0
                go_wp2_with fail
                go_region
                have hgp : g ≠ pH := by omega
                have hgo : g ≠ pO := by omega
                obtain ⟨s1, s2⟩ := HSET.out (ly + n)
                have hHS := HH5.out.setOther (a := ⟨g, m * 3 + 1, none⟩) (fun e => hgp e.symm) (.int .i64 (ly + n))
                have hPS := HP5.out.setOther (a := ⟨g, m * 3 + 1, none⟩) (fun e => hgo e.symm) (.int .i64 (ly + n))
                have hBS := HB5.out.setCell (p := ⟨g, m * 3 + 1, none⟩) (Nat.le_trans HBS.out hbg) (.int .i64 (ly + n))
                have hSS : base ≤ (w5.setCell ⟨g, m * 3 + 1, none⟩ (.int .i64 (ly + n))).heap.size := by simpa using hS5
                rw [HW.out]
                rw [← HR.out] at s1
                obtain ⟨X, hX⟩ : ∃ X, X = ((w5.drewN nq).setCell ⟨g, m * 3 + 1, none⟩ (.int .i64 (ly + n))).drew := ⟨_, rfl⟩
                have HHX : Hid (Blk X pH [.string ByteArray.empty] 9) := by rw [hX]; exact Lib.hid hHS
                have HPX : Hid (Blk X pO [.slice (some ⟨g, 0, none⟩) (m + 1) cap5] 22) := by rw [hX]; exact Lib.hid hPS
                have HOX : Hid (Own X base (.slice (some ⟨g, 0, none⟩) (m + 1) cap5) (copyL (o ++ [⟨py, ly, ByteArray.empty⟩]) p n)) := by rw [hX]; exact Lib.hid s1
                have HBX : Hid (Below w.heap.size w X) := by rw [hX]; exact Lib.hid (below_drewN' hBS (nq + 1))
                have HSX : Hid (base ≤ X.heap.size) := by rw [hX]; exact Lib.hid hSS
                rw [← hX]
                clear hX hHS hPS hBS hSS s1 s2 k0 k1 k2 k3 HW
                go_wp2
                go_roundw
                case rel => exact ⟨k + 1, ByteArray.empty, _, _, by go_num, by omega, HSU.out.symm, HHX.out, HPX.out, HOX.out, HBX.out, HSX.out⟩
                case measure => simp [intOf]; omega
              · have hzb : (z == p) = false := by simpa using hza
                rw [if_neg (fun h => hza (HZ.out.trans h.2))] at hcs
                have HR := Lib.hid hcs
                clear hty hza hcs
                go_wp2_with fail
                go_quiet (fail)
                go_wp2_with (at_builtin; refine wpList_append_own _ rfl _ _ 22 rfl base 55 i0 (.agg #[.int .i64 0, .int .i64 0, .string ByteArray.empty]) 3 32 Try.underlying22 hi hz0 hz1 hz2 rfl (by decide) _ _ _ rfl (World.ownsRow.alloc (w := w5.drewN nq) HO5.out _) ⟨(w5.drewN nq).heap.size, 0, none⟩ 1 1 [.int .i64 p, .int .i64 n, .string ByteArray.empty] rfl rfl (cells_new (w5.drewN nq) _ _) (sc_one ⟨p, n, ByteArray.empty⟩) (by rw [← HQ2.out]; unfold maxLen; omega) (by rw [← HQ2.out]; omega) (by simp; omega) ?_; intro v' w6 hO6 hg6 _; obtain ⟨ao6, cap6, rfl⟩ := owns_slice hO6; have hP6 := ((HP5.out.drewN nq).alloc _).grown hg6 (fun e => by have := HO5.out.row_ge pO e.symm; omega); have c6 := hP6.cell (i := 0) rfl; have f6 := hP6.frozen 0)
                have hH6 := (((HH5.out.drewN nq).alloc _).grown hg6 (fun e => by have := HO5.out.row_ge pH e.symm; omega))
                have hO7 : Own w6 base (.slice ao6 (o.length + 1 + 1) cap6) (copyL (o ++ [⟨py, ly, ByteArray.empty⟩]) p n) := by rw [HR.out]; have h9 := Own.snoc (x := ⟨p, n, ByteArray.empty⟩) hO6; rw [show (o ++ [(⟨py, ly, ByteArray.empty⟩ : St)]).length + 1 = o.length + 1 + 1 by simp] at h9; exact h9
                have hB6 : Below w.heap.size w w6 := ((below_drewN' HB5.out nq).alloc (by have := HB5.out.size; simpa using this) _).grown hg6 (by have := HB5.out.size; simp; omega) (fun j hj => Nat.le_trans HBS.out (HO5.out.row_ge j hj))
                have hS6 : base ≤ w6.heap.size := by have := hg6.size; simp at this; omega
                clear hO6 hg6
                go_wp2
                go_roundw
                case rel => exact ⟨k + 1, ByteArray.empty, _, _, by go_num, by omega, HSU.out.symm, hH6.setOther hpq _, hP6.set 0 _, World.ownsRow.kept hO7 (grown_set (grown_refl w6 (some pO)) 0 _) (.inr (fun e => by have := hO7.row_ge pO e; omega)), hB6.setCell hwq _, by simpa using hS6⟩
                case measure => simp [intOf]; omega
            · have hne := strNe hty
              rw [if_neg (fun h => hty h.1)] at hcs
              have HR := Lib.hid hcs
              clear hty hcs
              go_wp2_with fail
              go_quiet (fail)
              go_wp2_with (at_builtin; refine wpList_append_own _ rfl _ _ 22 rfl base 55 i0 (.agg #[.int .i64 0, .int .i64 0, .string ByteArray.empty]) 3 32 Try.underlying22 hi hz0 hz1 hz2 rfl (by decide) _ _ _ rfl (World.ownsRow.alloc (w := w5.drewN nq) HO5.out _) ⟨(w5.drewN nq).heap.size, 0, none⟩ 1 1 [.int .i64 p, .int .i64 n, .string ByteArray.empty] rfl rfl (cells_new (w5.drewN nq) _ _) (sc_one ⟨p, n, ByteArray.empty⟩) (by rw [← HQ2.out]; unfold maxLen; omega) (by rw [← HQ2.out]; omega) (by simp; omega) ?_; intro v' w6 hO6 hg6 _; obtain ⟨ao6, cap6, rfl⟩ := owns_slice hO6; have hP6 := ((HP5.out.drewN nq).alloc _).grown hg6 (fun e => by have := HO5.out.row_ge pO e.symm; omega); have c6 := hP6.cell (i := 0) rfl; have f6 := hP6.frozen 0)
              have hH6 := (((HH5.out.drewN nq).alloc _).grown hg6 (fun e => by have := HO5.out.row_ge pH e.symm; omega))
              have hO7 : Own w6 base (.slice ao6 (o.length + 1 + 1) cap6) (copyL (o ++ [⟨py, ly, ty⟩]) p n) := by rw [HR.out]; have h9 := Own.snoc (x := ⟨p, n, ByteArray.empty⟩) hO6; rw [show (o ++ [(⟨py, ly, ty⟩ : St)]).length + 1 = o.length + 1 + 1 by simp] at h9; exact h9
              have hB6 : Below w.heap.size w w6 := ((below_drewN' HB5.out nq).alloc (by have := HB5.out.size; simpa using this) _).grown hg6 (by have := HB5.out.size; simp; omega) (fun j hj => Nat.le_trans HBS.out (HO5.out.row_ge j hj))
              have hS6 : base ≤ w6.heap.size := by have := hg6.size; simp at this; omega
              clear hO6 hg6
              go_wp2
              go_roundw
              case rel => exact ⟨k + 1, ByteArray.empty, _, _, by go_num, by omega, HSU.out.symm, hH6.setOther hpq _, hP6.set 0 _, World.ownsRow.kept hO7 (grown_set (grown_refl w6 (some pO)) 0 _) (.inr (fun e => by have := hO7.row_ge pO e; omega)), hB6.setCell hwq _, by simpa using hS6⟩
              case measure => simp [intOf]; omega
    · have hkk : k = len := by omega
      have hfin : out ++ texts h = tidyL l := by
        rw [List.take_of_length_le (by rw [HLEN.out]; omega)] at hst
        unfold tidyL finB
        rw [← hst]
      have HF := Lib.hid hfin
      clear hst hfin hs2
      have hww := weight_take l k
      go_wp2_with fail
      refine (chFlush_any wr pH pO base u out h hH hP hO hpq hpb hqb hS (by omega) (by omega)).mono ?_
      rintro e w5 ⟨rfl, u5, hH5, hP5, hO5, hM5, hF5⟩
      rw [HF.out] at hO5
      have hB5 : Below w.heap.size w w5 := hB.trans (hM5.below hB.size hwp hwq (fun j hj => Nat.le_trans HBS.out (hO.row_ge j hj)))
      obtain ⟨ao5, cap5, rfl⟩ := owns_slice hO5
      have e0 := hP5.cell (i := 0) rfl
      go_wp2
      go_ret
      exact ⟨_, rfl, hO5.weaken HBS.out, hB5⟩
end Go.Proofs.Ytabdmcgfiabaoaa
