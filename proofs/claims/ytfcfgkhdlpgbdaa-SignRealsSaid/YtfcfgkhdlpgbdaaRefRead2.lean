/- The reference's reader of bytes: Raw, Count, End. Conditions: as named in each theorem. -/
import Derived.Test.YtfcfgkhdlpgbdaaRefRead
namespace Go.Proofs.Ytfcfgkhdlpgbdaa
open Go.RowKit
set_option linter.unusedVariables false

set_option maxRecDepth 100000 in
set_option maxHeartbeats 1000000 in
theorem rraw_rd (w : World) (p : Nat) (s : ByteArray) (z : RSt) (n : Nat) (hn : n ≤ 1000000000) (hs : s.size ≤ 1000000000) (h : RdB 96 w p s z) :
    Calls Try.prog 64 #[.pointer (some ⟨p, 0, none⟩), .int .i64 n] w fun e w' => e = .returned (.string (mkB (stRaw n z).1)) ∧ RdB 96 w' p s (stRaw n z).2 ∧ w.grownBy w' (some p) := by
  obtain ⟨l, er⟩ := z
  obtain ⟨a, ha, hl, hb⟩ := h
  simp only at hl hb
  have c2 := hb.cell (i := 2) rfl
  by_cases he : er = 0
  · subst he
    subst hl
    have c0 := hb.cell (i := 0) rfl
    have c1 := hb.cell (i := 1) rfl
    have f1 := hb.frozen 1
    have f2 := hb.frozen 2
    have hll : (s.data.toList.drop a).length = s.size - a := by simp
    have d0 : decide ((n : Int) < 0) = false := by simp
    have i9 : IntKind.i64.wrap ((s.size : Int) - (a : Int)) = (s.size : Int) - (a : Int) := by rw [IntKind.wrap_i64]; omega
    have i8 : (s.size : Int) - (a : Int) = ((s.size - a : Nat) : Int) := by omega
    by_cases hlt : s.size - a < n
    · have hR : stRaw n (s.data.toList.drop a, 0) = ([], (s.data.toList.drop a, 3)) := by unfold stRaw; rw [if_pos rfl, if_pos (by rw [hll]; exact hlt)]
      rw [hR]
      have d1 : decide ((s.size : Int) - (a : Int) < (n : Int)) = true := by simp; omega
      have d2 : (s.size : Int) - (a : Int) < (n : Int) := by omega
      have H := Lib.hid hb
      clear hb hR hll hlt i8
      go_enter Try.func64, Try.ntmps64
      go_wp2_with fail
      go_quiet (fail)
      go_wp2
      go_ret
      exact ⟨rfl, ⟨a, ha, rfl, (H.out.drewN _).set 2 _⟩, grown_set (grown_drewN (grown_refl _ _) _) _ _⟩
    · have hR : stRaw n (s.data.toList.drop a, 0) = ((s.data.toList.drop a).take n, ((s.data.toList.drop a).drop n, 0)) := by unfold stRaw; rw [if_pos rfl, if_neg (by rw [hll]; exact hlt)]
      rw [hR]
      have d1 : decide ((s.size : Int) - (a : Int) < (n : Int)) = false := by simp; omega
      have d2 : ¬ (s.size : Int) - (a : Int) < (n : Int) := by omega
      have hex := extract_mk s a n (by omega)
      have HX := Lib.hid hex
      have H := Lib.hid hb
      have han : a + n ≤ s.size := by omega
      clear hb hR hll hlt hex i8
      go_enter Try.func64, Try.ntmps64
      go_wp2_with fail
      go_quiet (fail)
      go_wp2_with fail
      have H2 : Hid (Blk ((w.drewN nq).setCell ⟨p, 1, none⟩ (.int .i64 ((a : Int) + n))) p [.string s, .int .i64 ((a : Int) + n), .int .i64 0] 96) := Lib.hid ((H.out.drewN nq).set 1 _)
      obtain ⟨V, hV⟩ : ∃ V, V = (w.drewN nq).setCell ⟨p, 1, none⟩ (.int .i64 ((a : Int) + n)) := ⟨_, rfl⟩
      have hgV : w.grownBy V (some p) := by rw [hV]; exact grown_set (grown_drewN (grown_refl _ _) _) _ _
      rw [← hV] at H2
      rw [← hV]
      have g0 := H2.out.cell (i := 0) rfl
      have g1 := H2.out.cell (i := 1) rfl
      have HGV := Lib.hid hgV
      have i1 : (0 : Int) ≤ (a : Int) := by omega
      have i2 : (a : Int) ≤ (a : Int) + n := by omega
      have i3 : (a : Int) + n ≤ (s.size : Int) := by omega
      have i4 : IntKind.i64.wrap ((a : Int) + n - n) = (a : Int) := by rw [IntKind.wrap_i64]; omega
      have i5 : (a : Int) + n - n = (a : Int) := by omega
      have i6 : ((a : Int) + n).toNat = a + n := by omega
      clear hV c0 c1 c2 f1 f2 H hgV d1 d0 d2 i9
      go_quiet (fail)
      go_wp2
      go_ret
      refine ⟨?_, ⟨a + n, by omega, by simp [List.drop_drop], H2.out.drewN _⟩, grown_drewN HGV.out _⟩
      rw [← HX.out]
      rfl
  · rw [stRaw_err (z := (l, er)) he]
    have hd : ((er : Int) != 0) = true := by simpa using he
    have H := Lib.hid hb
    clear hb
    go_enter Try.func64, Try.ntmps64
    go_wp2
    go_ret
    exact ⟨rfl, ⟨a, ha, hl, H.out⟩, grown_refl _ _⟩

set_option maxRecDepth 100000 in
set_option maxHeartbeats 1000000 in
theorem rcount_rd (w : World) (p : Nat) (s : ByteArray) (z : RSt) (most : Nat) (hmost : most ≤ 1000000000000) (hs : s.size ≤ 1000000000) (h : RdB 96 w p s z) :
    Calls Try.prog 63 #[.pointer (some ⟨p, 0, none⟩), .int .i64 most] w fun e w' => e = .returned (.int .i64 ((stCount most z).1 : Nat)) ∧ RdB 96 w' p s (stCount most z).2 ∧ w.grownBy w' (some p) := by
  have hcd : stCount most z = if (stNum z).2.2 = 0 ∧ most < (stNum z).1 then (0, ((stNum z).2.1, 4)) else stNum z := rfl
  have HN := Lib.hid (rnum_rd w p s z hs h)
  have hle := stNum_le z
  obtain ⟨R, hR⟩ : ∃ R, R = stNum z := ⟨_, rfl⟩
  rw [← hR] at hcd HN hle
  rw [hcd]
  clear hcd h hR
  obtain ⟨N, l, er⟩ := R
  simp only at HN hle ⊢
  by_cases he : er = 0
  · subst he
    by_cases hm : most < N
    · rw [if_pos ⟨rfl, hm⟩]
      have d1 : decide ((most : Int) < (N : Int)) = true := by simp; omega
      go_enter Try.func63, Try.ntmps63
      go_wp2_with fail
      refine HN.out.mono ?_
      rintro e w1 ⟨rfl, ⟨a, ha, hl, hb⟩, hg⟩
      simp only at hl hb
      have c2 := hb.cell (i := 2) rfl
      have f2 := hb.frozen 2
      have H := Lib.hid hb
      have HG := Lib.hid hg
      clear HN hb hg
      go_wp2
      go_ret
      exact ⟨rfl, ⟨a, ha, hl, H.out.set 2 _⟩, grown_set HG.out _ _⟩
    · rw [if_neg (fun h => hm h.2)]
      have d1 : decide ((most : Int) < (N : Int)) = false := by simp; omega
      go_enter Try.func63, Try.ntmps63
      go_wp2_with fail
      refine HN.out.mono ?_
      rintro e w1 ⟨rfl, ⟨a, ha, hl, hb⟩, hg⟩
      simp only at hl hb
      have c2 := hb.cell (i := 2) rfl
      have H := Lib.hid hb
      have HG := Lib.hid hg
      clear HN hb hg
      go_wp2
      go_ret
      exact ⟨rfl, ⟨a, ha, hl, H.out⟩, HG.out⟩
  · rw [if_neg (fun h => he h.1)]
    have hd : ((er : Int) == 0) = false := by simpa using he
    go_enter Try.func63, Try.ntmps63
    go_wp2_with fail
    refine HN.out.mono ?_
    rintro e w1 ⟨rfl, ⟨a, ha, hl, hb⟩, hg⟩
    simp only at hl hb
    have c2 := hb.cell (i := 2) rfl
    have H := Lib.hid hb
    have HG := Lib.hid hg
    clear HN hb hg
    go_wp2
    go_ret
    exact ⟨rfl, ⟨a, ha, hl, H.out⟩, HG.out⟩

set_option maxRecDepth 100000 in
set_option maxHeartbeats 1000000 in
theorem rend_rd (w : World) (p : Nat) (s : ByteArray) (z : RSt) (hs : s.size ≤ 1000000000) (h : RdB 96 w p s z) :
    Calls Try.prog 65 #[.pointer (some ⟨p, 0, none⟩)] w fun e w' => e = .returned (.int .i64 ((stEnd z).2 : Nat)) ∧ RdB 96 w' p s (stEnd z) ∧ w.grownBy w' (some p) := by
  obtain ⟨l, er⟩ := z
  obtain ⟨a, ha, hl, hb⟩ := h
  simp only at hl hb
  unfold stEnd
  have c0 := hb.cell (i := 0) rfl
  have c1 := hb.cell (i := 1) rfl
  have c2 := hb.cell (i := 2) rfl
  have f2 := hb.frozen 2
  by_cases he : er = 0
  · subst he
    subst hl
    have H := Lib.hid hb
    clear hb
    by_cases hlt : a < s.size
    · rw [if_pos ⟨rfl, by rw [drop_at s a hlt]; simp⟩]
      have d1 : decide ((a : Int) < (s.size : Int)) = true := by simp; omega
      have d2 : decide (a < s.size) = true := by simp; omega
      go_enter Try.func65, Try.ntmps65
      go_wp2_with fail
      go_quiet (fail)
      go_wp2_with fail
      have H2 : Hid (Blk ((w.drewN nq).setCell ⟨p, 2, none⟩ (.int .i64 4)) p [.string s, .int .i64 a, .int .i64 4] 96) := Lib.hid ((H.out.drewN nq).set 2 _)
      have g2 := H2.out.cell (i := 2) rfl
      go_wp2
      go_ret
      exact ⟨rfl, ⟨a, ha, rfl, H2.out⟩, grown_set (grown_drewN (grown_refl _ _) _) _ _⟩
    · have haa : a = s.size := by omega
      subst haa
      rw [if_neg (by simp)]
      have d1 : decide ((s.size : Int) < (s.size : Int)) = false := by simp
      go_enter Try.func65, Try.ntmps65
      go_wp2_with fail
      go_quiet (fail)
      go_wp2
      go_ret
      exact ⟨rfl, ⟨s.size, ha, rfl, H.out.drewN _⟩, grown_drewN (grown_refl _ _) _⟩
  · rw [if_neg (fun h => he h.1)]
    have hd : ((er : Int) == 0) = false := by simpa using he
    have H := Lib.hid hb
    clear hb
    go_enter Try.func65, Try.ntmps65
    go_wp2_with fail
    go_quiet (fail)
    go_wp2
    go_ret
    exact ⟨rfl, ⟨a, ha, hl, H.out.drewN _⟩, grown_drewN (grown_refl _ _) _⟩
end Go.Proofs.Ytfcfgkhdlpgbdaa
