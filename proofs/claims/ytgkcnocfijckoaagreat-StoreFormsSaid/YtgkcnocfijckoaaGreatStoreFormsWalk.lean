/- StoreForms, walked: which records are refused for their form, and why. No conditions. -/
import Derived.Test.YtgkcnocfijckoaaGreatStForm
import Derived.Test.YtgkcnocfijckoaaGreatQL
namespace Go.Proofs.YtgkcnocfijckoaaGreat
open Go.RowKit Sg
set_option linter.unusedVariables false
set_option linter.unusedSimpArgs false
set_option maxRecDepth 100000 in
set_option maxHeartbeats 8000000 in
theorem storeForms_walk (w : World) (s : ByteArray) (hs0 : s.size ≤ 140737488351232) :
    Calls Tryz.prog 3 #[.string s] w fun e w' => e = .returned (.bool true) ∧ Below w.heap.size w w' := by
  by_cases hbig : 2000 < s.size
  case pos =>
    have d0 : decide ((2000 : Int) < (s.size : Int)) = true := decide_eq_true (by omega)
    clear hbig
    go_enter Tryz.func3, Tryz.ntmps3
    go_wp2_with fail
    refine (awake_any w).mono ?_
    rintro e w1 ⟨rfl, hb1⟩
    have HB1 := Lib.hid hb1
    clear hb1
    go_wp2
    go_ret
    exact ⟨rfl, HB1.out⟩
  have d0 : decide ((2000 : Int) < (s.size : Int)) = false := decide_eq_false (by omega)
  go_enter Tryz.func3, Tryz.ntmps3
  go_wp2_with fail
  refine (fresh_any w).mono ?_
  rintro e w1 ⟨pw, ps, p, m, rfl, hW1, hb1, hm1, hp1, hw1⟩
  have HB1 := Lib.hid hb1
  have HGE := Lib.hid (And.intro hm1 hp1)
  have o0 := hW1.ob.cell (i := 0) rfl
  have HDO := Lib.hid (hW1.sw.do_ (by simp) (by simp) s (by omega))
  clear hW1 hb1 hm1 hp1 hw1
  go_wp2_with fail
  refine HDO.out.mono ?_
  rintro e w2 ⟨x, v2, S2, l2, im2, rfl, hD⟩
  have HX : Hid (x = (doS [] [] (fun _ => ByteArray.empty) s.data.toList).1) := Lib.hid (by rw [hD.eq])
  have HB2 := Lib.hid (hD.below HB1.out HGE.out.1 HGE.out.2 (fun k e => by cases e)).1
  clear hD HDO o0
  have HAW : Hid (∀ W, Below w.heap.size w W → Calls Tryz.prog 11 #[] W fun e w' => e = .returned (.bool true) ∧ Below w.heap.size w w') := Lib.hid (fun W hW => (awake_any W).mono fun e w' h => ⟨h.1, bl_nx hW h.2⟩)
  by_cases h0 : s.size = 0
  case pos =>
    have hse : s = ByteArray.empty := ByteArray.ext (Array.eq_empty_of_size_eq_zero h0)
    subst hse
    obtain rfl : x = 3 := HX.out
    clear h0
    go_wp2_with fail
    refine (HAW.out _ HB2.out).mono ?_
    rintro e w3 ⟨rfl, hb3⟩
    have HB3 := Lib.hid hb3
    clear hb3
    go_wp2
    go_ret
    exact ⟨rfl, HB3.out⟩
  obtain ⟨c, r, hcr, hsz, hext, hne, hlt0, hs0⟩ := bytes_cons h0
  have i1 : (1 : Int) ≤ (s.size : Int) := by omega
  have i2 : (0 : Int) < (s.size : Int) := by omega
  have HCR := Lib.hid hcr
  have hr2 : r.length ≤ 2000 := by omega
  clear hcr hsz h0 hbig
  obtain ⟨V, hV⟩ : ∃ V, V = w2.alloc (Obj.cells #[.string (mkB r), .int .i64 0, .int .i64 0] 34) := ⟨_, rfl⟩
  obtain ⟨q, hq⟩ : ∃ q, q = w2.heap.size := ⟨_, rfl⟩
  have hG : Blk V q [.string (mkB r), .int .i64 0, .int .i64 0] 34 := by rw [hV, hq]; exact Blk.new _ _ _
  have HR0 : Hid (RdB 34 V q (mkB r) (r, 0)) := Lib.hid ⟨0, Nat.zero_le _, by rw [mkB_list]; rfl, hG⟩
  have hbV : Below w2.heap.size w2 V := by rw [hV]; exact below_alloc _ _
  have HBV := Lib.hid (bl_nx HB2.out hbV)
  have HQW : Hid (w.heap.size ≤ q) := Lib.hid (by rw [hq]; exact HB2.out.size)
  have HV := Lib.hid (And.intro hV hq)
  have hrs : (mkB r).size ≤ 1000000000 := by rw [bs_sz]; omega
  have HRS := Lib.hid hrs
  clear hV hq hG hbV hrs
  go_upto_region 7 with fail
  rw [← HV.out.1, ← HV.out.2]
  go_upto_region 9 with fail
  have HGR : Hid (∀ W W', Below w.heap.size w W → W.grownBy W' (some q) → Below w.heap.size w W') := Lib.hid (fun W W' h hg => h.grown hg h.size (fun k hk => by injection hk with hk; have := HQW.out; omega))
  by_cases h87 : c = 87
  case pos =>
    have e87 : ((c.toNat : Int) == 87) = true := by rw [h87]; rfl
    have HXX : Hid (x = if (stRaw 32 (stNum (r, 0)).2).2.2 = 0 then 6 else ((stRaw 32 (stNum (r, 0)).2).2.2 : Int)) := Lib.hid (by
      rw [HX.out, HCR.out, ← doW_nil (fun _ => ByteArray.empty) (r, 0) hr2]; show (if c = 87 then _ else _ : DoT).1 = _; rw [if_pos h87])
    clear h87
    go_wp2_with fail
    refine (rnum_rd V q (mkB r) (r, 0) HRS.out HR0.out).mono ?_
    rintro e w3 ⟨rfl, hr3, hg3⟩
    have HR3 := Lib.hid hr3
    have HB3 := Lib.hid (HGR.out _ _ HBV.out hg3)
    clear hr3 hg3
    go_wp2_with fail
    refine (rraw_rd w3 q (mkB r) _ 32 (by omega) HRS.out HR3.out).mono ?_
    rintro e w4 ⟨rfl, hr4, hg4⟩
    have HB4 := Lib.hid (HGR.out _ _ HB3.out hg4)
    obtain ⟨z2, hz2⟩ : ∃ z2, z2 = (stRaw 32 (stNum (r, 0)).2).2 := ⟨_, rfl⟩
    rw [← hz2] at hr4 HXX
    obtain ⟨at_, _, _, hbk⟩ := hr4
    have q2 := hbk.cell (i := 2) rfl
    have HZ := Lib.hid hz2
    clear hz2 hg4 hbk
    obtain ⟨r2, er⟩ := z2
    simp only at HXX q2
    by_cases he : er = 0
    case pos =>
      subst he
      obtain rfl : x = 6 := by have := HXX.out; rwa [if_pos rfl] at this
      go_wp2_with fail
      refine (HAW.out _ HB4.out).mono ?_
      rintro e w5 ⟨rfl, hb5⟩
      have HB5 := Lib.hid hb5
      clear hb5
      go_wp2
      go_ret
      exact ⟨rfl, HB5.out⟩
    case neg =>
      have hne2 : (((er : Nat) : Int) != 0) = true := by simpa using he
      obtain rfl : x = (er : Nat) := by have := HXX.out; rwa [if_neg he] at this
      clear he
      go_wp2_with fail
      refine (HAW.out _ HB4.out).mono ?_
      rintro e w5 ⟨rfl, hb5⟩
      have HB5 := Lib.hid hb5
      clear hb5
      go_wp2
      go_ret
      exact ⟨rfl, HB5.out⟩
  have e87 : ((c.toNat : Int) == 87) = false := by
    rw [beq_eq_false_iff_ne]; intro e; apply h87; apply UInt8.toNat_inj.1; show c.toNat = 87; omega
  by_cases h68 : c = 68
  case pos =>
    have e68 : ((c.toNat : Int) == 68) = true := by rw [h68]; rfl
    have HXX : Hid (x = (doD [] [] (fun _ => ByteArray.empty) (r, 0)).1) := Lib.hid (by
      rw [HX.out, HCR.out]; show (if c = 87 then _ else if c = 68 then _ else _ : DoT).1 = _; rw [if_neg h87, if_pos h68])
    have HDN := Lib.hid (doD_nil (fun _ => ByteArray.empty) (r, 0))
    rw [← HXX.out] at HDN
    clear h87 h68
    obtain ⟨n, z0, hz0⟩ : ∃ n z, stNum (r, 0) = (n, z) := ⟨_, _, rfl⟩
    obtain ⟨b, z1, hz1⟩ : ∃ n z, stNum z0 = (n, z) := ⟨_, _, rfl⟩
    obtain ⟨b2, z2, hz2⟩ : ∃ n z, stRaw 32 z1 = (n, z) := ⟨_, _, rfl⟩
    rw [hz0] at HDN
    simp only [hz1, hz2] at HDN
    have HZ0 := Lib.hid hz0
    have HZ1 := Lib.hid hz1
    have HZ2 := Lib.hid hz2
    clear hz0 hz1 hz2
    go_wp2_with fail
    refine (rnum_rd V q (mkB r) (r, 0) HRS.out HR0.out).mono ?_
    rw [HZ0.out]
    rintro e w3 ⟨rfl, hr3, hg3⟩
    simp only at hr3 ⊢
    have HR3 := Lib.hid hr3
    have HB3 := Lib.hid (HGR.out _ _ HBV.out hg3)
    clear hr3 hg3
    go_wp2_with fail
    refine (rnum_rd w3 q (mkB r) z0 HRS.out HR3.out).mono ?_
    rw [HZ1.out]
    rintro e w4 ⟨rfl, hr4, hg4⟩
    simp only at hr4 ⊢
    have HR4 := Lib.hid hr4
    have HB4 := Lib.hid (HGR.out _ _ HB3.out hg4)
    clear hr4 hg4
    go_wp2_with fail
    refine (rraw_rd w4 q (mkB r) z1 32 (by omega) HRS.out HR4.out).mono ?_
    rw [HZ2.out]
    rintro e w5 ⟨rfl, hr5, hg5⟩
    simp only at hr5 ⊢
    have HB5 := Lib.hid (HGR.out _ _ HB4.out hg5)
    obtain ⟨at_, _, _, hbk⟩ := hr5
    have q2 := hbk.cell (i := 2) rfl
    clear hg5 hbk
    obtain ⟨r2, er⟩ := z2
    simp only at HDN q2
    by_cases he : er = 0
    case neg =>
      have hne2 : (((er : Nat) : Int) != 0) = true := by simpa using he
      obtain rfl : x = (er : Nat) := HDN.out.1 he
      clear he
      go_wp2_with fail
      refine (HAW.out _ HB5.out).mono ?_
      rintro e w6 ⟨rfl, hb6⟩
      have HB6 := Lib.hid hb6
      clear hb6
      go_wp2
      go_ret
      exact ⟨rfl, HB6.out⟩
    subst he
    by_cases hnb : n ≤ b
    case pos =>
      obtain rfl : x = 2 := HDN.out.2.1 (by first | rfl | trivial) hnb
      have d1 : decide (n ≤ b) = true := decide_eq_true hnb
      have d1' : decide ((n : Int) ≤ (b : Int)) = true := decide_eq_true (by omega)
      clear hnb
      go_wp2_with fail
      refine (HAW.out _ HB5.out).mono ?_
      rintro e w6 ⟨rfl, hb6⟩
      have HB6 := Lib.hid hb6
      clear hb6
      go_wp2
      go_ret
      exact ⟨rfl, HB6.out⟩
    case neg =>
      have hx0 : (x != 0) = true := by simpa using HDN.out.2.2 (by first | rfl | trivial) hnb
      have d1 : decide (n ≤ b) = false := decide_eq_false hnb
      have d1' : decide ((n : Int) ≤ (b : Int)) = false := decide_eq_false (by omega)
      clear hnb
      go_wp2_with fail
      refine (HAW.out _ HB5.out).mono ?_
      rintro e w6 ⟨rfl, hb6⟩
      have HB6 := Lib.hid hb6
      clear hb6
      go_wp2
      go_ret
      exact ⟨rfl, HB6.out⟩
  have e68 : ((c.toNat : Int) == 68) = false := by
    rw [beq_eq_false_iff_ne]; intro e; apply h68; apply UInt8.toNat_inj.1; show c.toNat = 68; omega
  by_cases h71 : c = 71
  case pos =>
    have e71 : ((c.toNat : Int) == 71) = true := by rw [h71]; rfl
    have HXX : Hid (x = ((stEnd (stNum (stNum (r, 0)).2).2).2 : Int)) := Lib.hid (by
      rw [HX.out, HCR.out, ← doG_nil (fun _ => ByteArray.empty) (r, 0)]; show (if c = 87 then _ else if c = 68 then _ else if c = 71 then _ else _ : DoT).1 = _; rw [if_neg h87, if_neg h68, if_pos h71])
    clear h87 h68 h71
    obtain ⟨n, z0, hz0⟩ : ∃ n z, stNum (r, 0) = (n, z) := ⟨_, _, rfl⟩
    obtain ⟨b, z1, hz1⟩ : ∃ n z, stNum z0 = (n, z) := ⟨_, _, rfl⟩
    obtain ⟨z2, hz2⟩ : ∃ z, stEnd z1 = z := ⟨_, rfl⟩
    rw [hz0] at HXX
    simp only [hz1, hz2] at HXX
    have HZ0 := Lib.hid hz0
    have HZ1 := Lib.hid hz1
    have HZ2 := Lib.hid hz2
    clear hz0 hz1 hz2
    go_wp2_with fail
    refine (rnum_rd V q (mkB r) (r, 0) HRS.out HR0.out).mono ?_
    rw [HZ0.out]
    rintro e w3 ⟨rfl, hr3, hg3⟩
    simp only at hr3 ⊢
    have HR3 := Lib.hid hr3
    have HB3 := Lib.hid (HGR.out _ _ HBV.out hg3)
    clear hr3 hg3
    go_wp2_with fail
    refine (rnum_rd w3 q (mkB r) z0 HRS.out HR3.out).mono ?_
    rw [HZ1.out]
    rintro e w4 ⟨rfl, hr4, hg4⟩
    simp only at hr4 ⊢
    have HR4 := Lib.hid hr4
    have HB4 := Lib.hid (HGR.out _ _ HB3.out hg4)
    clear hr4 hg4
    obtain rfl : x = ((z2.2 : Nat) : Int) := HXX.out
    go_wp2_with fail
    refine (rend_rd w4 q (mkB r) z1 HRS.out HR4.out).mono ?_
    rw [HZ2.out]
    rintro e w5 ⟨rfl, hr5, hg5⟩
    have HB5 := Lib.hid (HGR.out _ _ HB4.out hg5)
    clear hr5 hg5
    go_wp2_with fail
    refine (HAW.out _ HB5.out).mono ?_
    rintro e w6 ⟨rfl, hb6⟩
    have HB6 := Lib.hid hb6
    clear hb6
    go_wp2
    go_ret
    exact ⟨rfl, HB6.out⟩
  have e71 : ((c.toNat : Int) == 71) = false := by
    rw [beq_eq_false_iff_ne]; intro e; apply h71; apply UInt8.toNat_inj.1; show c.toNat = 71; omega
  obtain rfl : x = 5 := by
    rw [HX.out, HCR.out]; show (if c = 87 then _ else if c = 68 then _ else if c = 71 then _ else _ : DoT).1 = _; rw [if_neg h87, if_neg h68, if_neg h71]
  clear h87 h68 h71
  go_wp2_with fail
  refine (HAW.out _ HBV.out).mono ?_
  rintro e w6 ⟨rfl, hb6⟩
  have HB6 := Lib.hid hb6
  clear hb6
  go_wp2
  go_ret
  exact ⟨rfl, HB6.out⟩
end Go.Proofs.YtgkcnocfijckoaaGreat
