/- The reference's reader of bytes: Raw, Count, End. Conditions: as named in each theorem. -/
import Derived.Test.YtgemhgllifhckaaCodeRead
namespace Go.Proofs.Ytgemhgllifhckaa
open Go.RowKit
set_option linter.unusedVariables false
set_option linter.unusedSimpArgs false

def mkB (l : List UInt8) : ByteArray := ⟨l.toArray⟩
theorem mkB_list (l : List UInt8) : (mkB l).data.toList = l := rfl
theorem extract_mk (s : ByteArray) (a n : Nat) (h : a + n ≤ s.size) : s.extract a (a + n) = mkB ((s.data.toList.drop a).take n) := by
  apply ByteArray.ext
  rw [ByteArray.data_extract]
  apply Array.ext'
  rw [Array.toList_extract]
  simp [mkB, List.extract]
theorem read_any (w : World) (s : ByteArray) :
    Calls Try.prog 70 #[.string s] w fun e w' => e = .returned (.pointer (some ⟨w.heap.size, 0, none⟩)) ∧ RdB 146 w' w.heap.size s (s.data.toList, 0) ∧ Below w.heap.size w w' := by
  have hz : ∀ w, (zeroValue 146).run Try.prog w = .ok (.agg #[.string ByteArray.empty, .int .i64 0, .int .i64 0]) w := fun _ => by kernel_rfl
  have HB := Lib.hid (Blk.new w [.string s, .int .i64 0, .int .i64 0] 146)
  have HW : Hid (Below w.heap.size w (w.alloc (.cells #[.string s, .int .i64 0, .int .i64 0] 146))) := Lib.hid ((Below.refl _ _).alloc (Nat.le_refl _) _)
  go_enter Try.func70, Try.ntmps70
  go_wp2
  go_ret
  exact ⟨rfl, ⟨0, by omega, rfl, HB.out⟩, HW.out⟩
theorem err_rd (w : World) (p : Nat) (s : ByteArray) (a e : Int) (h : Blk w p [.string s, .int .i64 a, .int .i64 e] 146) :
    Calls Try.prog 74 #[.pointer (some ⟨p, 0, none⟩)] w fun e' w' => e' = .returned (.int .i64 e) ∧ w = w' := by
  have c2 := h.cell (i := 2) rfl
  clear h
  go_enter Try.func74, Try.ntmps74
  go_wp2
  go_ret
  exact ⟨rfl, rfl⟩
theorem left_rd (w : World) (p : Nat) (s : ByteArray) (a : Nat) (e : Int) (ha : a ≤ s.size) (hs : s.size ≤ 1000000000) (h : Blk w p [.string s, .int .i64 a, .int .i64 e] 146) :
    Calls Try.prog 108 #[.pointer (some ⟨p, 0, none⟩)] w fun e' w' => e' = .returned (.int .i64 ((s.size - a : Nat) : Int)) ∧ ∃ m, w' = w.drewN m := by
  have c0 := h.cell (i := 0) rfl
  have c1 := h.cell (i := 1) rfl
  have i3 : IntKind.i64.wrap ((s.size : Int) - (a : Int)) = (s.size : Int) - (a : Int) := by rw [IntKind.wrap_i64]; omega
  clear h
  go_enter Try.func108, Try.ntmps108
  go_wp2_with fail
  go_quiet (fail)
  go_wp2
  go_ret
  exact ⟨ret_v (int_v (by omega)), _, rfl⟩

set_option maxRecDepth 100000 in
set_option maxHeartbeats 1000000 in
theorem raw_rd (w : World) (p : Nat) (s : ByteArray) (z : RSt) (n : Nat) (hn : n ≤ 1000000000) (hs : s.size ≤ 1000000000) (h : RdB 146 w p s z) :
    Calls Try.prog 71 #[.pointer (some ⟨p, 0, none⟩), .int .i64 n] w fun e w' => e = .returned (.string (mkB (stRaw n z).1)) ∧ RdB 146 w' p s (stRaw n z).2 ∧ w.grownBy w' (some p) := by
  obtain ⟨l, er⟩ := z
  obtain ⟨a, ha, hl, hb⟩ := h
  simp only at hl hb
  by_cases he : er = 0
  · subst he
    subst hl
    have hll : (s.data.toList.drop a).length = s.size - a := by simp
    by_cases hlt : s.size - a < n
    · have hR : stRaw n (s.data.toList.drop a, 0) = ([], (s.data.toList.drop a, 3)) := by unfold stRaw; rw [if_pos rfl, if_pos (by rw [hll]; exact hlt)]
      rw [hR]
      have d1 : decide (((s.size - a : Nat) : Int) < (n : Int)) = true := by simp; omega
      have d0 : decide ((n : Int) < 0) = false := by simp
      have H := Lib.hid hb
      obtain ⟨LF, hLF⟩ : ∃ L, L = s.size - a := ⟨_, rfl⟩
      have HL := Lib.hid (left_rd w p s a 0 ha hs hb)
      rw [← hLF] at d1 HL hlt
      clear hb hR hll hLF
      go_enter Try.func71, Try.ntmps71
      go_wp2_with fail
      refine (off_ok _ p s _ H.out).mono ?_
      rintro e w1 ⟨rfl, rfl⟩
      go_wp2_with fail
      refine HL.out.mono ?_
      rintro e w2 ⟨rfl, m, rfl⟩
      go_wp2_with fail
      refine (fail_ok _ p s _ 3 (H.out.drewN m)).mono ?_
      rintro e w3 ⟨rfl, hb3, hg3⟩
      go_wp2
      go_ret
      exact ⟨rfl, ⟨a, ha, rfl, hb3⟩, grown_trans (grown_drewN (grown_refl _ _) _) hg3⟩
    · have hR : stRaw n (s.data.toList.drop a, 0) = ((s.data.toList.drop a).take n, ((s.data.toList.drop a).drop n, 0)) := by unfold stRaw; rw [if_pos rfl, if_neg (by rw [hll]; exact hlt)]
      rw [hR]
      have d1 : decide (((s.size - a : Nat) : Int) < (n : Int)) = false := by simp; omega
      have d0 : decide ((n : Int) < 0) = false := by simp
      have hex := extract_mk s a n (by omega)
      have HX := Lib.hid hex
      have H := Lib.hid hb
      have c1 := hb.cell (i := 1) rfl
      have f1 := hb.frozen 1
      obtain ⟨LF, hLF⟩ : ∃ L, L = s.size - a := ⟨_, rfl⟩
      have HL := Lib.hid (left_rd w p s a 0 ha hs hb)
      have han : a + n ≤ s.size := by omega
      rw [← hLF] at d1 HL hlt
      clear hb hR hll hLF hex
      go_enter Try.func71, Try.ntmps71
      go_wp2_with fail
      refine (off_ok _ p s _ H.out).mono ?_
      rintro e w1 ⟨rfl, rfl⟩
      go_wp2_with fail
      refine HL.out.mono ?_
      rintro e w2 ⟨rfl, m, rfl⟩
      go_wp2_with fail
      have H2 : Hid (Blk ((w.drewN m).setCell ⟨p, 1, none⟩ (.int .i64 ((a : Int) + n))) p [.string s, .int .i64 ((a : Int) + n), .int .i64 0] 146) := Lib.hid ((H.out.drewN m).set 1 _)
      obtain ⟨V, hV⟩ : ∃ V, V = (w.drewN m).setCell ⟨p, 1, none⟩ (.int .i64 ((a : Int) + n)) := ⟨_, rfl⟩
      have hgV : w.grownBy V (some p) := by rw [hV]; exact grown_set (grown_drewN (grown_refl _ _) _) _ _
      rw [← hV] at H2
      rw [← hV]
      have g0 := H2.out.cell (i := 0) rfl
      have g1 := H2.out.cell (i := 1) rfl
      have HGV := Lib.hid hgV
      have i1 : (0 : Int) ≤ (a : Int) := by omega
      have i2 : (a : Int) ≤ (a : Int) + n := by omega
      have i3 : (a : Int) + n ≤ (s.size : Int) := by omega
      have i4 : IntKind.i64.wrap ((a : Int) + n - n) = (a : Int) := by rw [IntKind.wrap_i64]; omega
      have i5 : (a : Int) + n - n = (a : Int) := by omega
      have i6 : ((a : Int) + n).toNat = a + n := by omega
      clear hV c1 f1 H HL hgV d1 d0
      go_quiet (fail)
      go_wp2
      go_ret
      refine ⟨?_, ⟨a + n, by omega, by simp [List.drop_drop], H2.out.drewN _⟩, grown_drewN HGV.out _⟩
      rw [← HX.out]
      rfl
  · rw [stRaw_err (z := (l, er)) he]
    go_enter Try.func71, Try.ntmps71
    go_wp2_with fail
    refine (off_err _ p s _ er he hb).mono ?_
    rintro e w1 ⟨rfl, rfl⟩
    go_wp2
    go_ret
    exact ⟨rfl, ⟨a, ha, hl, hb⟩, grown_refl _ _⟩

set_option maxRecDepth 100000 in
set_option maxHeartbeats 1000000 in
theorem end_rd (w : World) (p : Nat) (s : ByteArray) (z : RSt) (hs : s.size ≤ 1000000000) (h : RdB 146 w p s z) :
    Calls Try.prog 75 #[.pointer (some ⟨p, 0, none⟩)] w fun e w' => e = .returned (.int .i64 ((stEnd z).2 : Nat)) ∧ RdB 146 w' p s (stEnd z) ∧ w.grownBy w' (some p) := by
  obtain ⟨l, er⟩ := z
  obtain ⟨a, ha, hl, hb⟩ := h
  simp only at hl hb
  unfold stEnd
  by_cases he : er = 0
  · subst he
    subst hl
    have HL := Lib.hid (left_rd w p s a 0 ha hs hb)
    have H := Lib.hid hb
    clear hb
    by_cases hlt : a < s.size
    · rw [if_pos ⟨rfl, by rw [drop_at s a hlt]; simp⟩]
      have d1 : decide (0 < ((s.size - a : Nat) : Int)) = true := by simp; omega
      obtain ⟨LF, hLF⟩ : ∃ L, L = s.size - a := ⟨_, rfl⟩
      have hLn : 0 < LF := by omega
      rw [← hLF] at d1 HL
      clear hLF hlt
      go_enter Try.func75, Try.ntmps75
      go_wp2_with fail
      refine (off_ok _ p s _ H.out).mono ?_
      rintro e w1 ⟨rfl, rfl⟩
      go_wp2_with fail
      refine HL.out.mono ?_
      rintro e w2 ⟨rfl, m, rfl⟩
      go_wp2_with fail
      refine (fail_ok _ p s _ 4 (H.out.drewN m)).mono ?_
      rintro e w3 ⟨rfl, hb3, hg3⟩
      go_wp2_with fail
      refine (err_rd _ p s _ _ hb3).mono ?_
      rintro e w4 ⟨rfl, rfl⟩
      go_wp2
      go_ret
      exact ⟨rfl, ⟨a, ha, rfl, hb3⟩, grown_trans (grown_drewN (grown_refl _ _) _) hg3⟩
    · have haa : a = s.size := by omega
      subst haa
      rw [if_neg (by simp)]
      have d1 : decide (0 < ((s.size - s.size : Nat) : Int)) = false := by simp
      obtain ⟨LF, hLF⟩ : ∃ L, L = s.size - s.size := ⟨_, rfl⟩
      have hLn : ¬ 0 < LF := by omega
      rw [← hLF] at d1 HL
      clear hLF hlt
      go_enter Try.func75, Try.ntmps75
      go_wp2_with fail
      refine (off_ok _ p s _ H.out).mono ?_
      rintro e w1 ⟨rfl, rfl⟩
      go_wp2_with fail
      refine HL.out.mono ?_
      rintro e w2 ⟨rfl, m, rfl⟩
      go_wp2_with fail
      refine (err_rd _ p s _ _ (H.out.drewN m)).mono ?_
      rintro e w4 ⟨rfl, rfl⟩
      go_wp2
      go_ret
      exact ⟨rfl, ⟨s.size, ha, rfl, H.out.drewN m⟩, grown_drewN (grown_refl _ _) _⟩
  · rw [if_neg (fun h => he h.1)]
    have H := Lib.hid hb
    clear hb
    go_enter Try.func75, Try.ntmps75
    go_wp2_with fail
    refine (off_err _ p s _ er he H.out).mono ?_
    rintro e w1 ⟨rfl, rfl⟩
    go_wp2_with fail
    refine (err_rd _ p s _ _ H.out).mono ?_
    rintro e w4 ⟨rfl, rfl⟩
    go_wp2
    go_ret
    exact ⟨rfl, ⟨a, ha, hl, H.out⟩, grown_refl _ _⟩
end Go.Proofs.Ytgemhgllifhckaa

namespace Go.Proofs.Ytgemhgllifhckaa
open Go.RowKit
set_option linter.unusedVariables false
set_option linter.unusedSimpArgs false

theorem rbyte_err (w : World) (p : Nat) (s : ByteArray) (a : Int) (e : Nat) (he : e ≠ 0) (h : Blk w p [.string s, .int .i64 a, .int .i64 e] 121) :
    Calls Try.prog 110 #[.pointer (some ⟨p, 0, none⟩)] w fun e w' => e = .returned (.int .i64 0) ∧ w = w' := by
  have c2 := h.cell (i := 2) rfl
  have hd : ((e : Int) != 0) = true := by simpa using he
  clear h he
  go_enter Try.func110, Try.ntmps110
  go_wp2
  go_ret
  exact ⟨rfl, rfl⟩
theorem rbyte_end (w : World) (p : Nat) (s : ByteArray) (h : Blk w p [.string s, .int .i64 s.size, .int .i64 0] 121) :
    Calls Try.prog 110 #[.pointer (some ⟨p, 0, none⟩)] w fun e w' => e = .returned (.int .i64 0) ∧ Blk w' p [.string s, .int .i64 s.size, .int .i64 (3 : Nat)] 121 ∧ w.grownBy w' (some p) := by
  have c0 := h.cell (i := 0) rfl
  have c1 := h.cell (i := 1) rfl
  have c2 := h.cell (i := 2) rfl
  have f2 := h.frozen 2
  have H := Lib.hid h
  clear h
  go_enter Try.func110, Try.ntmps110
  go_wp2_with fail
  go_quiet (fail)
  go_wp2
  go_ret
  exact ⟨rfl, (H.out.drewN _).set 2 _, grown_set (grown_drewN (grown_refl _ _) _) _ _⟩
theorem rbyte_ok (w : World) (p : Nat) (s : ByteArray) (k : Nat) (hk : k < s.size) (hs : s.size ≤ 1000000000) (h : Blk w p [.string s, .int .i64 k, .int .i64 0] 121) :
    Calls Try.prog 110 #[.pointer (some ⟨p, 0, none⟩)] w fun e w' => e = .returned (.int .i64 (s[k].toNat : Nat)) ∧ Blk w' p [.string s, .int .i64 (k + 1 : Nat), .int .i64 0] 121 ∧ w.grownBy w' (some p) := by
  have c0 := h.cell (i := 0) rfl
  have c1 := h.cell (i := 1) rfl
  have c2 := h.cell (i := 2) rfl
  have f1 := h.frozen 1
  have hne : decide ((s.size : Int) ≤ (k : Int)) = false := by simp; omega
  have H := Lib.hid h
  clear h
  go_enter Try.func110, Try.ntmps110
  go_wp2_with fail
  go_quiet (fail)
  go_wp2_with fail
  have H2 : Hid (Blk ((w.drewN nq).setCell ⟨p, 1, none⟩ (.int .i64 ((k : Int) + 1))) p [.string s, .int .i64 ((k : Int) + 1), .int .i64 0] 121) := Lib.hid ((H.out.drewN nq).set 1 _)
  have g0 := H2.out.cell (i := 0) rfl
  have g1 := H2.out.cell (i := 1) rfl
  obtain ⟨V, hV⟩ : ∃ V, V = (w.drewN nq).setCell ⟨p, 1, none⟩ (.int .i64 ((k : Int) + 1)) := ⟨_, rfl⟩
  have hgV : w.grownBy V (some p) := by rw [hV]; exact grown_set (grown_drewN (grown_refl _ _) _) _ _
  rw [← hV] at H2 g0 g1
  rw [← hV]
  have i1 : (0 : Int) ≤ (k : Int) := by omega
  have i2 : (k : Int) < (s.size : Int) := by omega
  have i3 : IntKind.i64.wrap ((k : Int) + 1 - 1) = (k : Int) := by rw [IntKind.wrap_i64]; omega
  have i4 : (k : Int) + 1 - 1 = (k : Int) := by omega
  have hcl := (s[k]).toNat_lt
  have i5 : IntKind.i64.wrap ((s[k].toNat : Nat) : Int) = ((s[k].toNat : Nat) : Int) := by rw [IntKind.wrap_i64]; omega
  clear hV c0 c1 c2 f1 H hne
  go_quiet (fail)
  go_wp2
  go_ret
  exact ⟨rfl, by rw [show ((k + 1 : Nat) : Int) = (k : Int) + 1 by omega]; exact H2.out.drewN _, grown_drewN hgV _⟩

set_option maxRecDepth 100000 in
set_option maxHeartbeats 1000000 in
theorem rnum_rd (w : World) (p : Nat) (s : ByteArray) (z : RSt) (hs : s.size ≤ 1000000000) (h : RdB 121 w p s z) :
    Calls Try.prog 77 #[.pointer (some ⟨p, 0, none⟩)] w fun e w' => e = .returned (.int .i64 ((stNum z).1 : Nat)) ∧ RdB 121 w' p s (stNum z).2 ∧ w.grownBy w' (some p) := by
  obtain ⟨l, er⟩ := z
  obtain ⟨a0, ha0, hl, hb⟩ := h
  simp only at hl hb
  by_cases he : er = 0
  · subst he
    subst hl
    rw [stNum_ok]
    obtain ⟨R, hR⟩ : ∃ R, R = rdNum 0 0 (s.data.toList.drop a0) := ⟨_, rfl⟩
    rw [← hR]
    have HRR := Lib.hid hR
    have H0 := Lib.hid hb
    clear hR hb
    go_enter Try.func77, Try.ntmps77
    go_wp2_with fail
    go_loopw [3, 4, 5, 6] (fun n u i _ wr => ∃ (acc j at_ U : Nat), n = .int .i64 acc ∧ u = .int .i64 U ∧ i = .int .i64 j ∧ j ≤ 8 ∧ acc < 128 ^ j ∧ U = 128 ^ j ∧ at_ ≤ s.size ∧ Blk wr p [.string s, .int .i64 at_, .int .i64 0] 121 ∧ rdNum j acc (s.data.toList.drop at_) = R ∧ w.grownBy wr (some p)) (fun _ _ i _ _ => 9 - (intOf i).toNat)
    case atStart => exact ⟨0, 0, a0, 1, rfl, rfl, rfl, by omega, by decide, rfl, ha0, H0.out, HRR.out.symm, grown_refl _ _⟩
    case round =>
      clear HRR H0
      obtain ⟨acc, j, k, U, rfl, rfl, rfl, hj, hacc, hU, hk, hb, hR, hg⟩ := hrel
      have d9 : decide ((j : Int) < 9) = true := by simp; omega
      have j9 : j < 9 := by omega
      by_cases hlt : k < s.size
      · have hdr := drop_at s k hlt
        rw [hdr, rdNum] at hR
        have hcl := (s[k]).toNat_lt
        obtain ⟨C, hC⟩ : ∃ C : Nat, C = (s[k]).toNat := ⟨_, rfl⟩
        have HBY := Lib.hid (rbyte_ok wr p s k hlt hs hb)
        rw [← hC] at hR hcl HBY
        have hUb : U ≤ 72057594037927936 := by
          rw [hU, ← pow128_8]; exact Nat.pow_le_pow_right (by decide) hj
        have haU : acc < U := by rw [hU]; exact hacc
        rw [← hU] at hR
        have HU := Lib.hid hU
        have HR := Lib.hid hR
        have HG := Lib.hid hg
        clear hR hg hb hdr hC hU hacc
        go_wp2_with fail
        refine HBY.out.mono ?_
        rintro e w1 ⟨rfl, hb1, hg1⟩
        have HB := Lib.hid (And.intro hb1 (grown_trans HG.out hg1))
        have c2 := hb1.cell (i := 2) rfl
        have f2 := hb1.frozen 2
        clear hb1 hg1 HG HBY
        by_cases hA : (0 < j ∧ C = 0) ∨ (j = 8 ∧ 63 < C)
        · have hRR := HR.out
          rw [if_pos hA] at hRR
          have HRR := Lib.hid hRR.symm
          clear HR hRR
          have hA' : (decide ((0 : Int) < (j : Int)) = true ∧ ((C : Int) == 0) = true ∧ 0 < j) ∨ (decide ((0 : Int) < (j : Int)) = true ∧ ((C : Int) == 0) = false ∧ ((j : Int) == 8) = true ∧ decide ((63 : Int) < (C : Int)) = true ∧ 0 < j ∧ j = 8) := by
            by_cases h0 : C = 0
            · rcases hA with ⟨h1, h2⟩ | ⟨h1, h2⟩
              · exact .inl ⟨by simp; omega, by simp; omega, h1⟩
              · omega
            · rcases hA with ⟨h1, h2⟩ | ⟨h1, h2⟩
              · exact absurd h2 h0
              · exact .inr ⟨by simp; omega, by simp; omega, by simp; omega, by simp; omega, by omega, h1⟩
          clear hA
          rcases hA' with ⟨d1, d2, d3⟩ | ⟨d1, d2, d3, d4, d5, d6⟩
          all_goals (
            go_wp2
            go_ret
            exact ⟨by rw [HRR.out]; rfl, by rw [HRR.out]; exact ⟨k + 1, by omega, rfl, HB.out.1.set 2 _⟩, grown_set HB.out.2 _ _⟩)
        · have hRR := HR.out
          rw [if_neg hA] at hRR
          have dB : (decide ((0 : Int) < (j : Int)) = false ∧ ¬ 0 < j) ∨ (decide ((0 : Int) < (j : Int)) = true ∧ ((C : Int) == 0) = false ∧ 0 < j) := by
            by_cases h8 : 0 < j
            · exact .inr ⟨by simp; omega, by simp; intro h; exact hA (.inl ⟨h8, h⟩), h8⟩
            · exact .inl ⟨by simp; omega, h8⟩
          have dA : ((j : Int) == 8) = false ∨ (((j : Int) == 8) = true ∧ decide ((63 : Int) < (C : Int)) = false) := by
            by_cases h8 : j = 8
            · exact .inr ⟨by simp; omega, by simp; omega⟩
            · exact .inl (by simp; omega)
          have hP : C % 128 * U ≤ 4611686018427387904 := by
            by_cases h8 : j = 8
            · have : C ≤ 63 := by omega
              have : C % 128 * U ≤ 63 * 72057594037927936 := Nat.mul_le_mul (by omega) hUb
              omega
            · have h7 : U ≤ 562949953421312 := by
                rw [HU.out, show 562949953421312 = 128 ^ 7 by decide]; exact Nat.pow_le_pow_right (by decide) (by omega)
              have : C % 128 * U ≤ 127 * 562949953421312 := Nat.mul_le_mul (by omega) h7
              omega
          have hPe : (C : Int) % 128 * (U : Int) = ((C % 128 * U : Nat) : Int) := by rw [Int.natCast_mul]; rfl
          obtain ⟨PP, hPP⟩ : ∃ P, P = C % 128 * U := ⟨_, rfl⟩
          rw [← hPP] at hP hPe hRR
          by_cases h128 : C < 128
          · rw [if_pos h128] at hRR
            have hm : C % 128 = C := Nat.mod_eq_of_lt h128
            rw [hm] at hPP
            have HRR := Lib.hid hRR.symm
            have HPP := Lib.hid hPP
            have d5 : decide ((C : Int) < 128) = true := by simp; omega
            clear HR hRR hA hm hPP
            rcases dA with d1 | ⟨d1, d3⟩ <;> rcases dB with ⟨d2, d6⟩ | ⟨d2, d4, d6⟩
            all_goals (
              go_wp2
              go_ret
              refine ⟨?_, by rw [HRR.out]; exact ⟨k + 1, by omega, rfl, HB.out.1⟩, HB.out.2⟩
              refine ret_v (int_v ?_)
              rw [HRR.out, ← HPP.out]
              rfl)
          · rw [if_neg h128] at hRR
            have HRR := Lib.hid hRR
            have d5 : decide ((C : Int) < 128) = false := by simp; omega
            have hj7 : j + 1 ≤ 8 := by
              by_cases h : j = 8
              · exact absurd (.inr ⟨h, by omega⟩) hA
              · omega
            have hac : acc + PP < 128 ^ (j + 1) := by
              rw [Nat.pow_succ, ← HU.out, hPP]
              have : C % 128 * U ≤ 127 * U := Nat.mul_le_mul_right _ (by omega)
              omega
            have hU7 : U * 128 = 128 ^ (j + 1) := by rw [HU.out, Nat.pow_succ]
            have hUc : U ≤ 562949953421312 := by
              rw [HU.out, show 562949953421312 = 128 ^ 7 by decide]; exact Nat.pow_le_pow_right (by decide) (by omega)
            have HAC := Lib.hid hac
            have HU7 := Lib.hid hU7
            clear HR hRR hA hac hU7 hPP
            rcases dA with d1 | ⟨d1, d3⟩ <;> rcases dB with ⟨d2, d6⟩ | ⟨d2, d4, d6⟩
            all_goals (
              go_wp2
              go_roundw
              case rel => exact ⟨acc + PP, j + 1, k + 1, U * 128, by go_num, by go_num, by go_num, hj7, HAC.out, HU7.out, by omega, HB.out.1, HRR.out, HB.out.2⟩
              case measure => simp [intOf]; omega)
      · have hkk : k = s.size := by omega
        subst hkk
        rw [drop_end, rdNum] at hR
        have HR := Lib.hid hR.symm
        have HBY := Lib.hid (rbyte_end wr p s hb)
        have HG := Lib.hid hg
        clear hR hb hg hU hacc
        go_wp2_with fail
        refine HBY.out.mono ?_
        rintro e w1 ⟨rfl, hb1, hg1⟩
        have HB := Lib.hid (And.intro hb1 (grown_trans HG.out hg1))
        have c2 := hb1.cell (i := 2) rfl
        clear hb1 hg1 HG HBY
        go_wp2
        go_ret
        exact ⟨by rw [HR.out]; rfl, by rw [HR.out]; exact ⟨s.size, Nat.le_refl _, (drop_end s).symm, HB.out.1⟩, HB.out.2⟩
  · rw [stNum_err (z := (l, er)) he]
    have c2 := hb.cell (i := 2) rfl
    have hd : ((er : Int) != 0) = true := by simpa using he
    have H := Lib.hid hb
    clear hb
    go_enter Try.func77, Try.ntmps77
    go_wp2_with fail
    go_loopw [3, 4, 5, 6] (fun n u i _ wr => n = .int .i64 0 ∧ u = .int .i64 1 ∧ i = .int .i64 0 ∧ w = wr) (fun _ _ i _ _ => 0)
    case atStart => exact ⟨rfl, rfl, rfl, rfl⟩
    case round =>
      obtain ⟨rfl, rfl, rfl, rfl⟩ := hrel
      go_wp2_with fail
      refine (rbyte_err _ p s _ er he H.out).mono ?_
      rintro e w1 ⟨rfl, rfl⟩
      go_wp2
      go_ret
      exact ⟨rfl, ⟨a0, ha0, hl, H.out⟩, grown_refl _ _⟩
end Go.Proofs.Ytgemhgllifhckaa

namespace Go.Proofs.Ytgemhgllifhckaa
open Go.RowKit
set_option linter.unusedVariables false
set_option linter.unusedSimpArgs false

set_option maxRecDepth 100000 in
set_option maxHeartbeats 1000000 in
theorem rraw_rd (w : World) (p : Nat) (s : ByteArray) (z : RSt) (n : Nat) (hn : n ≤ 1000000000) (hs : s.size ≤ 1000000000) (h : RdB 121 w p s z) :
    Calls Try.prog 76 #[.pointer (some ⟨p, 0, none⟩), .int .i64 n] w fun e w' => e = .returned (.string (mkB (stRaw n z).1)) ∧ RdB 121 w' p s (stRaw n z).2 ∧ w.grownBy w' (some p) := by
  obtain ⟨l, er⟩ := z
  obtain ⟨a, ha, hl, hb⟩ := h
  simp only at hl hb
  have c2 := hb.cell (i := 2) rfl
  by_cases he : er = 0
  · subst he
    subst hl
    have c0 := hb.cell (i := 0) rfl
    have c1 := hb.cell (i := 1) rfl
    have f1 := hb.frozen 1
    have f2 := hb.frozen 2
    have hll : (s.data.toList.drop a).length = s.size - a := by simp
    have d0 : decide ((n : Int) < 0) = false := by simp
    have i9 : IntKind.i64.wrap ((s.size : Int) - (a : Int)) = (s.size : Int) - (a : Int) := by rw [IntKind.wrap_i64]; omega
    have i8 : (s.size : Int) - (a : Int) = ((s.size - a : Nat) : Int) := by omega
    by_cases hlt : s.size - a < n
    · have hR : stRaw n (s.data.toList.drop a, 0) = ([], (s.data.toList.drop a, 3)) := by unfold stRaw; rw [if_pos rfl, if_pos (by rw [hll]; exact hlt)]
      rw [hR]
      have d1 : decide ((s.size : Int) - (a : Int) < (n : Int)) = true := by simp; omega
      have d2 : (s.size : Int) - (a : Int) < (n : Int) := by omega
      have H := Lib.hid hb
      clear hb hR hll hlt i8
      go_enter Try.func76, Try.ntmps76
      go_wp2_with fail
      go_quiet (fail)
      go_wp2
      go_ret
      exact ⟨rfl, ⟨a, ha, rfl, (H.out.drewN _).set 2 _⟩, grown_set (grown_drewN (grown_refl _ _) _) _ _⟩
    · have hR : stRaw n (s.data.toList.drop a, 0) = ((s.data.toList.drop a).take n, ((s.data.toList.drop a).drop n, 0)) := by unfold stRaw; rw [if_pos rfl, if_neg (by rw [hll]; exact hlt)]
      rw [hR]
      have d1 : decide ((s.size : Int) - (a : Int) < (n : Int)) = false := by simp; omega
      have d2 : ¬ (s.size : Int) - (a : Int) < (n : Int) := by omega
      have hex := extract_mk s a n (by omega)
      have HX := Lib.hid hex
      have H := Lib.hid hb
      have han : a + n ≤ s.size := by omega
      clear hb hR hll hlt hex i8
      go_enter Try.func76, Try.ntmps76
      go_wp2_with fail
      go_quiet (fail)
      go_wp2_with fail
      have H2 : Hid (Blk ((w.drewN nq).setCell ⟨p, 1, none⟩ (.int .i64 ((a : Int) + n))) p [.string s, .int .i64 ((a : Int) + n), .int .i64 0] 121) := Lib.hid ((H.out.drewN nq).set 1 _)
      obtain ⟨V, hV⟩ : ∃ V, V = (w.drewN nq).setCell ⟨p, 1, none⟩ (.int .i64 ((a : Int) + n)) := ⟨_, rfl⟩
      have hgV : w.grownBy V (some p) := by rw [hV]; exact grown_set (grown_drewN (grown_refl _ _) _) _ _
      rw [← hV] at H2
      rw [← hV]
      have g0 := H2.out.cell (i := 0) rfl
      have g1 := H2.out.cell (i := 1) rfl
      have HGV := Lib.hid hgV
      have i1 : (0 : Int) ≤ (a : Int) := by omega
      have i2 : (a : Int) ≤ (a : Int) + n := by omega
      have i3 : (a : Int) + n ≤ (s.size : Int) := by omega
      have i4 : IntKind.i64.wrap ((a : Int) + n - n) = (a : Int) := by rw [IntKind.wrap_i64]; omega
      have i5 : (a : Int) + n - n = (a : Int) := by omega
      have i6 : ((a : Int) + n).toNat = a + n := by omega
      clear hV c0 c1 c2 f1 f2 H hgV d1 d0 d2 i9
      go_quiet (fail)
      go_wp2
      go_ret
      refine ⟨?_, ⟨a + n, by omega, by simp [List.drop_drop], H2.out.drewN _⟩, grown_drewN HGV.out _⟩
      rw [← HX.out]
      rfl
  · rw [stRaw_err (z := (l, er)) he]
    have hd : ((er : Int) != 0) = true := by simpa using he
    have H := Lib.hid hb
    clear hb
    go_enter Try.func76, Try.ntmps76
    go_wp2
    go_ret
    exact ⟨rfl, ⟨a, ha, hl, H.out⟩, grown_refl _ _⟩

set_option maxRecDepth 100000 in
set_option maxHeartbeats 1000000 in
theorem rend_rd (w : World) (p : Nat) (s : ByteArray) (z : RSt) (hs : s.size ≤ 1000000000) (h : RdB 121 w p s z) :
    Calls Try.prog 78 #[.pointer (some ⟨p, 0, none⟩)] w fun e w' => e = .returned (.int .i64 ((stEnd z).2 : Nat)) ∧ RdB 121 w' p s (stEnd z) ∧ w.grownBy w' (some p) := by
  obtain ⟨l, er⟩ := z
  obtain ⟨a, ha, hl, hb⟩ := h
  simp only at hl hb
  unfold stEnd
  have c0 := hb.cell (i := 0) rfl
  have c1 := hb.cell (i := 1) rfl
  have c2 := hb.cell (i := 2) rfl
  have f2 := hb.frozen 2
  by_cases he : er = 0
  · subst he
    subst hl
    have H := Lib.hid hb
    clear hb
    by_cases hlt : a < s.size
    · rw [if_pos ⟨rfl, by rw [drop_at s a hlt]; simp⟩]
      have d1 : decide ((a : Int) < (s.size : Int)) = true := by simp; omega
      have d2 : decide (a < s.size) = true := by simp; omega
      go_enter Try.func78, Try.ntmps78
      go_wp2_with fail
      go_quiet (fail)
      go_wp2_with fail
      have H2 : Hid (Blk ((w.drewN nq).setCell ⟨p, 2, none⟩ (.int .i64 4)) p [.string s, .int .i64 a, .int .i64 4] 121) := Lib.hid ((H.out.drewN nq).set 2 _)
      have g2 := H2.out.cell (i := 2) rfl
      go_wp2
      go_ret
      exact ⟨rfl, ⟨a, ha, rfl, H2.out⟩, grown_set (grown_drewN (grown_refl _ _) _) _ _⟩
    · have haa : a = s.size := by omega
      subst haa
      rw [if_neg (by simp)]
      have d1 : decide ((s.size : Int) < (s.size : Int)) = false := by simp
      go_enter Try.func78, Try.ntmps78
      go_wp2_with fail
      go_quiet (fail)
      go_wp2
      go_ret
      exact ⟨rfl, ⟨s.size, ha, rfl, H.out.drewN _⟩, grown_drewN (grown_refl _ _) _⟩
  · rw [if_neg (fun h => he h.1)]
    have hd : ((er : Int) == 0) = false := by simpa using he
    have H := Lib.hid hb
    clear hb
    go_enter Try.func78, Try.ntmps78
    go_wp2_with fail
    go_quiet (fail)
    go_wp2
    go_ret
    exact ⟨rfl, ⟨a, ha, hl, H.out.drewN _⟩, grown_drewN (grown_refl _ _) _⟩
end Go.Proofs.Ytgemhgllifhckaa
