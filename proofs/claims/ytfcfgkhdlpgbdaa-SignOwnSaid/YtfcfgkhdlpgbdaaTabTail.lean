/- (*sign.Table).Tail at a table. Conditions: as named in each theorem. -/
import Derived.Test.YtfcfgkhdlpgbdaaTabMatch
namespace Go.Proofs.Ytfcfgkhdlpgbdaa
open Go.RowKit
set_option linter.unusedVariables false

theorem tail_cells {B : Nat} {w : World} {pt n kI kS : Nat} {b z : Int} {bW oW bS oS : Nat} {kv pv : Value} {W : List Int} {T : List ByteArray} {L : List Int} {la : Nat} {y : Int} {t : ByteArray}
    (h : Tab B w pt b z (.slice (some ⟨bW, oW, none⟩) n kI) (.slice (some ⟨bS, oS, none⟩) n kS) kv pv W T L) (hn : n = W.length) (hT : T.length = n) (hla : la < n) (hy : W[la]? = some y) (ht : T[la]? = some t) :
    w.cell? ⟨pt, 2, none⟩ = some (.slice (some ⟨bW, oW, none⟩) n kI) ∧ w.cell? ⟨pt, 3, none⟩ = some (.slice (some ⟨bS, oS, none⟩) n kS) ∧ w.cell? ⟨bW, oW + la, none⟩ = some (.int .i64 y) ∧ w.cell? ⟨bS, oS + la, none⟩ = some (.string t) := by
  obtain ⟨b1, o1, x1, e1, g1, c1⟩ := (RowI.rs h.i hn.symm).one hla
  obtain ⟨b2, o2, x2, e2, g2, c2⟩ := (RowS.rs h.s hT).one hla
  injection e1 with e1
  injection e1 with e1 f1
  injection e2 with e2
  injection e2 with e2 f2
  subst e1 f1 e2 f2
  rw [hy] at g1
  rw [ht] at g2
  injection g1 with g1
  injection g2 with g2
  subst g1 g2
  exact ⟨h.t.cell (i := 2) rfl, h.t.cell (i := 3) rfl, c1, c2⟩
/-- what Tail answers: is the text the last block, and that is not whole? -/
def tailB (b z : Nat) (W : List Int) (T : List ByteArray) (s MK : ByteArray) : Bool := decide (0 < z % b ∧ s.size = z % b ∧ weakI s = W.getD (W.length - 1) 0 ∧ (T.getD (W.length - 1) ByteArray.empty).data.toList = MK.data.toList)
def TailR (w : World) (ro : Option Nat) (K K' : World → Prop) (R : Bool) (e : Ending) (w' : World) : Prop := e = .returned (.bool R) ∧ (K w' ∨ K' w') ∧ w.grownBy w' ro

set_option maxRecDepth 100000 in
set_option maxHeartbeats 4000000 in
theorem tabTail_any (w : World) (B pt p : Nat) (ro : Option Nat) (b z : Nat) (vI vS kv pv : Value) (W : List Int) (T : List ByteArray) (L : List Int) (s MK : ByteArray) (K K' : World → Prop)
    (h : Tab B w pt b z vI vS kv pv W T L) (hWn : W.length ≤ 1000000) (hTW : T.length = W.length) (hb0 : 0 < b) (hb : b ≤ 1024) (hz : z ≤ 524288) (hpos : 0 < z % b → 0 < W.length) (hs : s.size ≤ 1000000) (hro : ∀ m, ro = some m → m < B) (hM : MarkC w p ro s MK K K') :
    Calls Try.prog 31 #[.pointer (some ⟨pt, 0, none⟩), .pointer (some ⟨p, 0, none⟩), .string s] w (TailR w ro K K' (tailB b z W T s MK)) := by
  obtain ⟨R, hR⟩ : ∃ R, R = tailB b z W T s MK := ⟨_, rfl⟩
  rw [← hR]
  unfold tailB at hR
  obtain ⟨r, hr⟩ : ∃ r, r = z % b := ⟨_, rfl⟩
  rw [← hr] at hR hpos
  have hrb : r < b := by rw [hr]; exact Nat.mod_lt _ hb0
  have hmod : Int.tmod (z : Int) (b : Int) = (r : Int) := by rw [hr]; rfl
  have hmod2 : (z : Int) % (b : Int) = (r : Int) := by rw [hr]; rfl
  obtain ⟨aI, kI, hvI⟩ := slice_ofI h.i
  obtain ⟨aS, kS, hvS⟩ := owns_slice h.s
  have hTB := h
  rw [hvI, hvS] at hTB
  have c0 := hTB.t.cell (i := 0) rfl
  have c1 := hTB.t.cell (i := 1) rfl
  have c2 := hTB.t.cell (i := 2) rfl
  have c3 := hTB.t.cell (i := 3) rfl
  have HWS := Lib.hid (RowI.rs hTB.i rfl : Rs w aI W.length kI 1 W _)
  have HTS := Lib.hid (RowS.rs hTB.s rfl : Rs w aS T.length kS 1 T _)
  have HM := Lib.hid hM
  have HR := Lib.hid hR
  obtain ⟨n, hn⟩ : ∃ n, n = W.length := ⟨_, rfl⟩
  rw [← hn] at HWS HR hpos hWn hTW c2
  rw [hTW] at HTS c3
  have HTB : Hid (Tab B w pt b z (.slice aI n kI) (.slice aS n kS) kv pv W T L) := Lib.hid (by rw [← hn, hTW] at hTB; exact hTB)
  have hrz : ((z : Int) % (b : Int)) = r := hmod2
  have HNW := Lib.hid hn
  have HTW := Lib.hid hTW
  clear h hTB hR hM hvI hvS hr hn hTW
  by_cases r0 : r = 0
  · subst r0
    have hRe : R = false := by rw [HR.out]; exact decide_eq_false (by omega)
    have HRE := Lib.hid hRe
    have d0 : decide ((0 : Int) < ((0 : Nat) : Int)) = false := by decide
    have d0' : decide (0 < (0 : Nat)) = false := by decide
    clear hRe hpos
    go_enter Try.func31, Try.ntmps31
    go_wp2_with fail
    go_quiet (fail)
    go_wp2_with fail
    go_quiet (fail)
    go_wp2
    go_ret
    exact ⟨by rw [HRE.out]; rfl, .inl (HM.out.next _ _ HM.out.k0 (below_drewN' (below_drewN' (Below.refl _ _) _) _)), below_grown (below_drewN' (below_drewN' (Below.refl _ _) _) _) _⟩
  · have hn0 := hpos (by omega)
    have dr : decide ((0 : Int) < (r : Int)) = true := by simp; omega
    have dr' : decide (0 < r) = true := by simp; omega
    obtain ⟨la, hla⟩ : ∃ la : Nat, (n : Int) - 1 = la := ⟨n - 1, by omega⟩
    have hlan : la < n := by omega
    have hla2 : n - 1 = la := by omega
    rw [hla2] at HR
    have HLA := Lib.hid hla2
    clear hla2 hpos
    by_cases hsz : s.size = r
    · have d1 : ((s.size : Int) == (r : Int)) = true := by simp [hsz]
      obtain ⟨bW, oW, y, rfl, hy, cy⟩ := HWS.out.one (k := la) hlan
      have hWy : W.getD la 0 = y := by rw [List.getD_eq_getElem?_getD, hy]; rfl
      rw [hWy] at HR
      obtain ⟨WV, hWV⟩ : ∃ W : Int, W = weakI s := ⟨_, rfl⟩
      have hwe : ((weak s.data.toList : Nat) : Int) = WV := hWV.symm
      rw [← hWV] at HR
      have HSUM : Hid (∀ a, Calls Try.prog 44 #[.string s] a fun e w' => e = .returned (.int .i64 WV) ∧ a = w') := Lib.hid (fun a => by rw [← hwe]; exact rollSum_any s a (by omega))
      have HY := Lib.hid hy
      clear hy hWV hwe hWy
      by_cases hq : WV = y
      · have d2 : (WV == y) = true := by simpa using hq
        obtain ⟨bS, oS, t, rfl, ht, ct⟩ := HTS.out.one (k := la) hlan
        have htv : T.getD la ByteArray.empty = t := by rw [List.getD_eq_getElem?_getD, ht]; rfl
        rw [htv] at HR
        have HQ := Lib.hid hq
        have HSZ := Lib.hid hsz
        have HYT := Lib.hid (And.intro HY.out ht)
        clear hq ht htv hsz
        by_cases q : MK.data.toList = t.data.toList
        · have hRe : R = true := by rw [HR.out]; exact decide_eq_true ⟨by omega, HSZ.out, HQ.out, q.symm⟩
          have HRE := Lib.hid hRe
          have b1 : (MK.toList == t.toList) = true := beqS_t q
          clear hRe q
          go_enter Try.func31, Try.ntmps31
          go_wp2_with fail
          go_quiet (fail)
          have hBV : Below w.heap.size w (w.drewN nq) := below_drewN' (Below.refl _ _) nq
          have c2V : (w.drewN nq).cell? ⟨pt, 2, none⟩ = some (.slice (some ⟨bW, oW, none⟩) n kI) := c2
          have c3V : (w.drewN nq).cell? ⟨pt, 3, none⟩ = some (.slice (some ⟨bS, oS, none⟩) n kS) := c3
          have cyV : (w.drewN nq).cell? ⟨bW, oW + la, none⟩ = some (.int .i64 y) := cy
          have ctV : (w.drewN nq).cell? ⟨bS, oS + la, none⟩ = some (.string t) := ct
          obtain ⟨V, hV⟩ : ∃ V, V = w.drewN nq := ⟨_, rfl⟩
          rw [← hV] at hBV c2V c3V cyV ctV ⊢
          have HKV := Lib.hid (And.intro (HM.out.next _ _ HM.out.k0 (bl_drew hBV)) (below_grown (bl_drew hBV) ro))
          have TV := HTB.out.next (bl_drew hBV)
          have HCELL : ∀ w7, V.drew.grownBy w7 ro → w7.cell? ⟨pt, 2, none⟩ = some (.slice (some ⟨bW, oW, none⟩) n kI) ∧ w7.cell? ⟨pt, 3, none⟩ = some (.slice (some ⟨bS, oS, none⟩) n kS) ∧ w7.cell? ⟨bW, oW + la, none⟩ = some (.int .i64 y) ∧ w7.cell? ⟨bS, oS + la, none⟩ = some (.string t) := fun w7 hG7 => tail_cells (TV.grownO hG7 hro) HNW.out HTW.out hlan HYT.out.1 HYT.out.2
          have HCELL := Lib.hid HCELL
          clear TV
          clear hV c0 c1 c2 c3 cy ct
          go_wp2_with fail
          go_region_held3 (fun w' => w'.cell? ⟨pt, 2, none⟩ = some (.slice (some ⟨bW, oW, none⟩) n kI) ∧ w'.cell? ⟨pt, 3, none⟩ = some (.slice (some ⟨bS, oS, none⟩) n kS) ∧ w'.cell? ⟨bW, oW + la, none⟩ = some (.int .i64 y) ∧ w'.cell? ⟨bS, oS + la, none⟩ = some (.string t))
            (first | exact HH | exact ⟨c2V, c3V, cyV, ctV⟩)
            (first
              | (go_at_call 44; refine (HSUM.out _).mono ?_; rintro e w6 ⟨rfl, rfl⟩; have HH := ‹World.cell? _ _ = _ ∧ World.cell? _ _ = _ ∧ World.cell? _ _ = _ ∧ World.cell? _ _ = _›)
              | (go_at_call 45; refine (HM.out.mark _ HKV.out.1 HKV.out.2).mono ?_; rintro e w7 ⟨rfl, hK7, hG7⟩; have HH := HCELL.out w7 hG7))
          all_goals (
            have HE := Lib.hid (And.intro hK7 (grown_trans HKV.out.2 hG7))
            go_wp2
            go_ret
            exact ⟨by rw [HRE.out]; rfl, .inr HE.out.1, HE.out.2⟩)
        · have hRe : R = false := by rw [HR.out]; exact decide_eq_false (fun k => q k.2.2.2.symm)
          have HRE := Lib.hid hRe
          have b1 : (MK.toList == t.toList) = false := beqS_f q
          clear hRe q
          go_enter Try.func31, Try.ntmps31
          go_wp2_with fail
          go_quiet (fail)
          have hBV : Below w.heap.size w (w.drewN nq) := below_drewN' (Below.refl _ _) nq
          have c2V : (w.drewN nq).cell? ⟨pt, 2, none⟩ = some (.slice (some ⟨bW, oW, none⟩) n kI) := c2
          have c3V : (w.drewN nq).cell? ⟨pt, 3, none⟩ = some (.slice (some ⟨bS, oS, none⟩) n kS) := c3
          have cyV : (w.drewN nq).cell? ⟨bW, oW + la, none⟩ = some (.int .i64 y) := cy
          have ctV : (w.drewN nq).cell? ⟨bS, oS + la, none⟩ = some (.string t) := ct
          obtain ⟨V, hV⟩ : ∃ V, V = w.drewN nq := ⟨_, rfl⟩
          rw [← hV] at hBV c2V c3V cyV ctV ⊢
          have HKV := Lib.hid (And.intro (HM.out.next _ _ HM.out.k0 (bl_drew hBV)) (below_grown (bl_drew hBV) ro))
          have TV := HTB.out.next (bl_drew hBV)
          have HCELL : ∀ w7, V.drew.grownBy w7 ro → w7.cell? ⟨pt, 2, none⟩ = some (.slice (some ⟨bW, oW, none⟩) n kI) ∧ w7.cell? ⟨pt, 3, none⟩ = some (.slice (some ⟨bS, oS, none⟩) n kS) ∧ w7.cell? ⟨bW, oW + la, none⟩ = some (.int .i64 y) ∧ w7.cell? ⟨bS, oS + la, none⟩ = some (.string t) := fun w7 hG7 => tail_cells (TV.grownO hG7 hro) HNW.out HTW.out hlan HYT.out.1 HYT.out.2
          have HCELL := Lib.hid HCELL
          clear TV
          clear hV c0 c1 c2 c3 cy ct
          go_wp2_with fail
          go_region_held3 (fun w' => w'.cell? ⟨pt, 2, none⟩ = some (.slice (some ⟨bW, oW, none⟩) n kI) ∧ w'.cell? ⟨pt, 3, none⟩ = some (.slice (some ⟨bS, oS, none⟩) n kS) ∧ w'.cell? ⟨bW, oW + la, none⟩ = some (.int .i64 y) ∧ w'.cell? ⟨bS, oS + la, none⟩ = some (.string t))
            (first | exact HH | exact ⟨c2V, c3V, cyV, ctV⟩)
            (first
              | (go_at_call 44; refine (HSUM.out _).mono ?_; rintro e w6 ⟨rfl, rfl⟩; have HH := ‹World.cell? _ _ = _ ∧ World.cell? _ _ = _ ∧ World.cell? _ _ = _ ∧ World.cell? _ _ = _›)
              | (go_at_call 45; refine (HM.out.mark _ HKV.out.1 HKV.out.2).mono ?_; rintro e w7 ⟨rfl, hK7, hG7⟩; have HH := HCELL.out w7 hG7))
          all_goals (
            have HE := Lib.hid (And.intro hK7 (grown_trans HKV.out.2 hG7))
            go_wp2
            go_ret
            exact ⟨by rw [HRE.out]; rfl, .inr HE.out.1, HE.out.2⟩)
      · have hRe : R = false := by rw [HR.out]; exact decide_eq_false (fun k => hq k.2.2.1)
        have HRE := Lib.hid hRe
        have d2 : (WV == y) = false := by simpa using hq
        clear hRe hq
        go_enter Try.func31, Try.ntmps31
        go_wp2_with fail
        go_quiet (fail)
        have hBV : Below w.heap.size w (w.drewN nq) := below_drewN' (Below.refl _ _) nq
        have c2V : (w.drewN nq).cell? ⟨pt, 2, none⟩ = some (.slice (some ⟨bW, oW, none⟩) n kI) := c2
        have cyV : (w.drewN nq).cell? ⟨bW, oW + la, none⟩ = some (.int .i64 y) := cy
        obtain ⟨V, hV⟩ : ∃ V, V = w.drewN nq := ⟨_, rfl⟩
        rw [← hV] at hBV c2V cyV ⊢
        clear hV c0 c1 c2 c3 cy
        go_wp2_with fail
        go_quiet ((go_at_call 44; exact quiet_eq (HSUM.out _)))
        go_wp2
        go_ret
        exact ⟨by rw [HRE.out]; rfl, .inl (HM.out.next _ _ HM.out.k0 (below_drewN' hBV _)), below_grown (below_drewN' hBV _) _⟩
    · have hRe : R = false := by rw [HR.out]; exact decide_eq_false (fun k => hsz k.2.1)
      have HRE := Lib.hid hRe
      have d1 : ((s.size : Int) == (r : Int)) = false := by simp; omega
      clear hRe hsz
      go_enter Try.func31, Try.ntmps31
      go_wp2_with fail
      go_quiet (fail)
      go_wp2_with fail
      go_quiet (fail)
      go_wp2
      go_ret
      exact ⟨by rw [HRE.out]; rfl, .inl (HM.out.next _ _ HM.out.k0 (below_drewN' (below_drewN' (Below.refl _ _) _) _)), below_grown (below_drewN' (below_drewN' (Below.refl _ _) _) _) _⟩
end Go.Proofs.Ytfcfgkhdlpgbdaa
