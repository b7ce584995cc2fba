/- The program's reader of bytes: Raw, Count, End, Left, Err, Read. Conditions: as named in each theorem. -/
import Derived.Test.YtfcfgkhdlpgbdaaCodeRead
namespace Go.Proofs.Ytfcfgkhdlpgbdaa
open Go.RowKit
set_option linter.unusedVariables false

def mkB (l : List UInt8) : ByteArray := ⟨l.toArray⟩
theorem mkB_list (l : List UInt8) : (mkB l).data.toList = l := rfl
theorem extract_mk (s : ByteArray) (a n : Nat) (h : a + n ≤ s.size) : s.extract a (a + n) = mkB ((s.data.toList.drop a).take n) := by
  apply ByteArray.ext
  rw [ByteArray.data_extract]
  apply Array.ext'
  rw [Array.toList_extract]
  simp [mkB, List.extract]
theorem read_any (w : World) (s : ByteArray) :
    Calls Try.prog 56 #[.string s] w fun e w' => e = .returned (.pointer (some ⟨w.heap.size, 0, none⟩)) ∧ RdB 110 w' w.heap.size s (s.data.toList, 0) ∧ Below w.heap.size w w' := by
  have hz : ∀ w, (zeroValue 110).run Try.prog w = .ok (.agg #[.string ByteArray.empty, .int .i64 0, .int .i64 0]) w := fun _ => by kernel_rfl
  have HB := Lib.hid (Blk.new w [.string s, .int .i64 0, .int .i64 0] 110)
  have HW : Hid (Below w.heap.size w (w.alloc (.cells #[.string s, .int .i64 0, .int .i64 0] 110))) := Lib.hid ((Below.refl _ _).alloc (Nat.le_refl _) _)
  go_enter Try.func56, Try.ntmps56
  go_wp2
  go_ret
  exact ⟨rfl, ⟨0, by omega, rfl, HB.out⟩, HW.out⟩
theorem err_rd (w : World) (p : Nat) (s : ByteArray) (a e : Int) (h : Blk w p [.string s, .int .i64 a, .int .i64 e] 110) :
    Calls Try.prog 58 #[.pointer (some ⟨p, 0, none⟩)] w fun e' w' => e' = .returned (.int .i64 e) ∧ w = w' := by
  have c2 := h.cell (i := 2) rfl
  clear h
  go_enter Try.func58, Try.ntmps58
  go_wp2
  go_ret
  exact ⟨rfl, rfl⟩
theorem left_rd (w : World) (p : Nat) (s : ByteArray) (a : Nat) (e : Int) (ha : a ≤ s.size) (hs : s.size ≤ 1000000000) (h : Blk w p [.string s, .int .i64 a, .int .i64 e] 110) :
    Calls Try.prog 86 #[.pointer (some ⟨p, 0, none⟩)] w fun e' w' => e' = .returned (.int .i64 ((s.size - a : Nat) : Int)) ∧ ∃ m, w' = w.drewN m := by
  have c0 := h.cell (i := 0) rfl
  have c1 := h.cell (i := 1) rfl
  have i3 : IntKind.i64.wrap ((s.size : Int) - (a : Int)) = (s.size : Int) - (a : Int) := by rw [IntKind.wrap_i64]; omega
  clear h
  go_enter Try.func86, Try.ntmps86
  go_wp2_with fail
  go_quiet (fail)
  go_wp2
  go_ret
  exact ⟨ret_v (int_v (by omega)), _, rfl⟩

set_option maxRecDepth 100000 in
set_option maxHeartbeats 1000000 in
theorem raw_rd (w : World) (p : Nat) (s : ByteArray) (z : RSt) (n : Nat) (hn : n ≤ 1000000000) (hs : s.size ≤ 1000000000) (h : RdB 110 w p s z) :
    Calls Try.prog 60 #[.pointer (some ⟨p, 0, none⟩), .int .i64 n] w fun e w' => e = .returned (.string (mkB (stRaw n z).1)) ∧ RdB 110 w' p s (stRaw n z).2 ∧ w.grownBy w' (some p) := by
  obtain ⟨l, er⟩ := z
  obtain ⟨a, ha, hl, hb⟩ := h
  simp only at hl hb
  by_cases he : er = 0
  · subst he
    subst hl
    have hll : (s.data.toList.drop a).length = s.size - a := by simp
    by_cases hlt : s.size - a < n
    · have hR : stRaw n (s.data.toList.drop a, 0) = ([], (s.data.toList.drop a, 3)) := by unfold stRaw; rw [if_pos rfl, if_pos (by rw [hll]; exact hlt)]
      rw [hR]
      have d1 : decide (((s.size - a : Nat) : Int) < (n : Int)) = true := by simp; omega
      have d0 : decide ((n : Int) < 0) = false := by simp
      have H := Lib.hid hb
      obtain ⟨LF, hLF⟩ : ∃ L, L = s.size - a := ⟨_, rfl⟩
      have HL := Lib.hid (left_rd w p s a 0 ha hs hb)
      rw [← hLF] at d1 HL hlt
      clear hb hR hll hLF
      go_enter Try.func60, Try.ntmps60
      go_wp2_with fail
      refine (off_ok _ p s _ H.out).mono ?_
      rintro e w1 ⟨rfl, rfl⟩
      go_wp2_with fail
      refine HL.out.mono ?_
      rintro e w2 ⟨rfl, m, rfl⟩
      go_wp2_with fail
      refine (fail_ok _ p s _ 3 (H.out.drewN m)).mono ?_
      rintro e w3 ⟨rfl, hb3, hg3⟩
      go_wp2
      go_ret
      exact ⟨rfl, ⟨a, ha, rfl, hb3⟩, grown_trans (grown_drewN (grown_refl _ _) _) hg3⟩
    · have hR : stRaw n (s.data.toList.drop a, 0) = ((s.data.toList.drop a).take n, ((s.data.toList.drop a).drop n, 0)) := by unfold stRaw; rw [if_pos rfl, if_neg (by rw [hll]; exact hlt)]
      rw [hR]
      have d1 : decide (((s.size - a : Nat) : Int) < (n : Int)) = false := by simp; omega
      have d0 : decide ((n : Int) < 0) = false := by simp
      have hex := extract_mk s a n (by omega)
      have HX := Lib.hid hex
      have H := Lib.hid hb
      have c1 := hb.cell (i := 1) rfl
      have f1 := hb.frozen 1
      obtain ⟨LF, hLF⟩ : ∃ L, L = s.size - a := ⟨_, rfl⟩
      have HL := Lib.hid (left_rd w p s a 0 ha hs hb)
      have han : a + n ≤ s.size := by omega
      rw [← hLF] at d1 HL hlt
      clear hb hR hll hLF hex
      go_enter Try.func60, Try.ntmps60
      go_wp2_with fail
      refine (off_ok _ p s _ H.out).mono ?_
      rintro e w1 ⟨rfl, rfl⟩
      go_wp2_with fail
      refine HL.out.mono ?_
      rintro e w2 ⟨rfl, m, rfl⟩
      go_wp2_with fail
      have H2 : Hid (Blk ((w.drewN m).setCell ⟨p, 1, none⟩ (.int .i64 ((a : Int) + n))) p [.string s, .int .i64 ((a : Int) + n), .int .i64 0] 110) := Lib.hid ((H.out.drewN m).set 1 _)
      obtain ⟨V, hV⟩ : ∃ V, V = (w.drewN m).setCell ⟨p, 1, none⟩ (.int .i64 ((a : Int) + n)) := ⟨_, rfl⟩
      have hgV : w.grownBy V (some p) := by rw [hV]; exact grown_set (grown_drewN (grown_refl _ _) _) _ _
      rw [← hV] at H2
      rw [← hV]
      have g0 := H2.out.cell (i := 0) rfl
      have g1 := H2.out.cell (i := 1) rfl
      have HGV := Lib.hid hgV
      have i1 : (0 : Int) ≤ (a : Int) := by omega
      have i2 : (a : Int) ≤ (a : Int) + n := by omega
      have i3 : (a : Int) + n ≤ (s.size : Int) := by omega
      have i4 : IntKind.i64.wrap ((a : Int) + n - n) = (a : Int) := by rw [IntKind.wrap_i64]; omega
      have i5 : (a : Int) + n - n = (a : Int) := by omega
      have i6 : ((a : Int) + n).toNat = a + n := by omega
      clear hV c1 f1 H HL hgV d1 d0
      go_quiet (fail)
      go_wp2
      go_ret
      refine ⟨?_, ⟨a + n, by omega, by simp [List.drop_drop], H2.out.drewN _⟩, grown_drewN HGV.out _⟩
      rw [← HX.out]
      rfl
  · rw [stRaw_err (z := (l, er)) he]
    go_enter Try.func60, Try.ntmps60
    go_wp2_with fail
    refine (off_err _ p s _ er he hb).mono ?_
    rintro e w1 ⟨rfl, rfl⟩
    go_wp2
    go_ret
    exact ⟨rfl, ⟨a, ha, hl, hb⟩, grown_refl _ _⟩

set_option maxRecDepth 100000 in
set_option maxHeartbeats 1000000 in
theorem count_rd (w : World) (p : Nat) (s : ByteArray) (z : RSt) (most : Nat) (hmost : most ≤ 1000000000000) (hs : s.size ≤ 1000000000) (h : RdB 110 w p s z) :
    Calls Try.prog 59 #[.pointer (some ⟨p, 0, none⟩), .int .i64 most] w fun e w' => e = .returned (.int .i64 ((stCount most z).1 : Nat)) ∧ RdB 110 w' p s (stCount most z).2 ∧ w.grownBy w' (some p) := by
  have hcd : stCount most z = if (stNum z).2.2 = 0 ∧ most < (stNum z).1 then (0, ((stNum z).2.1, 4)) else stNum z := rfl
  have HN := Lib.hid (num_rd w p s z hs h)
  have hle := stNum_le z
  obtain ⟨R, hR⟩ : ∃ R, R = stNum z := ⟨_, rfl⟩
  rw [← hR] at hcd HN hle
  rw [hcd]
  clear hcd h hR
  obtain ⟨N, l, er⟩ := R
  simp only at HN hle ⊢
  by_cases he : er = 0
  · subst he
    by_cases hm : most < N
    · rw [if_pos ⟨rfl, hm⟩]
      have d1 : decide ((most : Int) < (N : Int)) = true := by simp; omega
      go_enter Try.func59, Try.ntmps59
      go_wp2_with fail
      refine HN.out.mono ?_
      rintro e w1 ⟨rfl, ⟨a, ha, hl, hb⟩, hg⟩
      simp only at hl hb
      have H := Lib.hid hb
      have HG := Lib.hid hg
      clear HN hb hg
      go_wp2_with fail
      refine (off_ok _ p s _ H.out).mono ?_
      rintro e w2 ⟨rfl, rfl⟩
      go_wp2_with fail
      refine (fail_ok _ p s _ 4 H.out).mono ?_
      rintro e w3 ⟨rfl, hb3, hg3⟩
      go_wp2
      go_ret
      exact ⟨rfl, ⟨a, ha, hl, hb3⟩, grown_trans HG.out hg3⟩
    · rw [if_neg (fun h => hm h.2)]
      have d1 : decide ((most : Int) < (N : Int)) = false := by simp; omega
      go_enter Try.func59, Try.ntmps59
      go_wp2_with fail
      refine HN.out.mono ?_
      rintro e w1 ⟨rfl, ⟨a, ha, hl, hb⟩, hg⟩
      simp only at hl hb
      have H := Lib.hid hb
      have HG := Lib.hid hg
      clear HN hb hg
      go_wp2_with fail
      refine (off_ok _ p s _ H.out).mono ?_
      rintro e w2 ⟨rfl, rfl⟩
      go_wp2
      go_ret
      exact ⟨rfl, ⟨a, ha, hl, H.out⟩, HG.out⟩
  · rw [if_neg (fun h => he h.1)]
    go_enter Try.func59, Try.ntmps59
    go_wp2_with fail
    refine HN.out.mono ?_
    rintro e w1 ⟨rfl, ⟨a, ha, hl, hb⟩, hg⟩
    simp only at hl hb
    have H := Lib.hid hb
    have HG := Lib.hid hg
    clear HN hb hg
    go_wp2_with fail
    refine (off_err _ p s _ er he H.out).mono ?_
    rintro e w2 ⟨rfl, rfl⟩
    go_wp2
    go_ret
    exact ⟨rfl, ⟨a, ha, hl, H.out⟩, HG.out⟩

set_option maxRecDepth 100000 in
set_option maxHeartbeats 1000000 in
theorem end_rd (w : World) (p : Nat) (s : ByteArray) (z : RSt) (hs : s.size ≤ 1000000000) (h : RdB 110 w p s z) :
    Calls Try.prog 61 #[.pointer (some ⟨p, 0, none⟩)] w fun e w' => e = .returned (.int .i64 ((stEnd z).2 : Nat)) ∧ RdB 110 w' p s (stEnd z) ∧ w.grownBy w' (some p) := by
  obtain ⟨l, er⟩ := z
  obtain ⟨a, ha, hl, hb⟩ := h
  simp only at hl hb
  unfold stEnd
  by_cases he : er = 0
  · subst he
    subst hl
    have HL := Lib.hid (left_rd w p s a 0 ha hs hb)
    have H := Lib.hid hb
    clear hb
    by_cases hlt : a < s.size
    · rw [if_pos ⟨rfl, by rw [drop_at s a hlt]; simp⟩]
      have d1 : decide (0 < ((s.size - a : Nat) : Int)) = true := by simp; omega
      obtain ⟨LF, hLF⟩ : ∃ L, L = s.size - a := ⟨_, rfl⟩
      have hLn : 0 < LF := by omega
      rw [← hLF] at d1 HL
      clear hLF hlt
      go_enter Try.func61, Try.ntmps61
      go_wp2_with fail
      refine (off_ok _ p s _ H.out).mono ?_
      rintro e w1 ⟨rfl, rfl⟩
      go_wp2_with fail
      refine HL.out.mono ?_
      rintro e w2 ⟨rfl, m, rfl⟩
      go_wp2_with fail
      refine (fail_ok _ p s _ 4 (H.out.drewN m)).mono ?_
      rintro e w3 ⟨rfl, hb3, hg3⟩
      go_wp2_with fail
      refine (err_rd _ p s _ _ hb3).mono ?_
      rintro e w4 ⟨rfl, rfl⟩
      go_wp2
      go_ret
      exact ⟨rfl, ⟨a, ha, rfl, hb3⟩, grown_trans (grown_drewN (grown_refl _ _) _) hg3⟩
    · have haa : a = s.size := by omega
      subst haa
      rw [if_neg (by simp)]
      have d1 : decide (0 < ((s.size - s.size : Nat) : Int)) = false := by simp
      obtain ⟨LF, hLF⟩ : ∃ L, L = s.size - s.size := ⟨_, rfl⟩
      have hLn : ¬ 0 < LF := by omega
      rw [← hLF] at d1 HL
      clear hLF hlt
      go_enter Try.func61, Try.ntmps61
      go_wp2_with fail
      refine (off_ok _ p s _ H.out).mono ?_
      rintro e w1 ⟨rfl, rfl⟩
      go_wp2_with fail
      refine HL.out.mono ?_
      rintro e w2 ⟨rfl, m, rfl⟩
      go_wp2_with fail
      refine (err_rd _ p s _ _ (H.out.drewN m)).mono ?_
      rintro e w4 ⟨rfl, rfl⟩
      go_wp2
      go_ret
      exact ⟨rfl, ⟨s.size, ha, rfl, H.out.drewN m⟩, grown_drewN (grown_refl _ _) _⟩
  · rw [if_neg (fun h => he h.1)]
    have H := Lib.hid hb
    clear hb
    go_enter Try.func61, Try.ntmps61
    go_wp2_with fail
    refine (off_err _ p s _ er he H.out).mono ?_
    rintro e w1 ⟨rfl, rfl⟩
    go_wp2_with fail
    refine (err_rd _ p s _ _ H.out).mono ?_
    rintro e w4 ⟨rfl, rfl⟩
    go_wp2
    go_ret
    exact ⟨rfl, ⟨a, ha, hl, H.out⟩, grown_refl _ _⟩
end Go.Proofs.Ytfcfgkhdlpgbdaa
