/- The program's reader of bytes. Conditions: as named in each theorem. -/
import Derived.Test.YtgkcnocfijckoaaGreatCodeNum
import Derived.Test.YtgkcnocfijckoaaGreatQR
import Derived.BigQuiet
namespace Go.Proofs.YtgkcnocfijckoaaGreat
open Go.RowKit
set_option linter.unusedVariables false
/-- a reader of s lies at p: what is left, and the error -/
def RdB (T : TypeId) (w : World) (p : Nat) (s : ByteArray) (z : RSt) : Prop := ∃ at_ : Nat, at_ ≤ s.size ∧ z.1 = s.data.toList.drop at_ ∧ Blk w p [.string s, .int .i64 at_, .int .i64 (z.2 : Nat)] T
theorem RdB.grown {T : TypeId} {w w' : World} {p : Nat} {s : ByteArray} {z : RSt} (h : RdB T w p s z) {row : Option Nat} (hg : w.grownBy w' row) (hne : some p ≠ row) : RdB T w' p s z := by
  obtain ⟨a, h1, h2, h3⟩ := h
  exact ⟨a, h1, h2, h3.grown hg hne⟩
theorem RdB.next {T : TypeId} {w w' : World} {p : Nat} {s : ByteArray} {z : RSt} (h : RdB T w p s z) (hb : Below w.heap.size w w') : RdB T w' p s z := by
  obtain ⟨a, h1, h2, h3⟩ := h
  exact ⟨a, h1, h2, h3.below hb h3.lt⟩
theorem RdB.lt {T : TypeId} {w : World} {p : Nat} {s : ByteArray} {z : RSt} (h : RdB T w p s z) : p < w.heap.size := by
  obtain ⟨a, h1, h2, h3⟩ := h
  exact h3.lt
theorem drop_at (s : ByteArray) (k : Nat) (h : k < s.size) : s.data.toList.drop k = s[k] :: s.data.toList.drop (k + 1) := by
  rw [List.drop_eq_getElem_cons (by simpa using h)]; rfl
theorem drop_end (s : ByteArray) : s.data.toList.drop s.size = [] := List.drop_of_length_le (by simp)
theorem orTerm (acc C j : Nat) (hj : j ≤ 8) (ha : acc < 128 ^ j) (h8 : j = 8 → C % 128 ≤ 63) : bits .or .i64 (acc : Int) (wrap64 ((C : Int) % 128 * 2 ^ (7 * j))) = ((acc + C % 128 * 128 ^ j : Nat) : Int) := by
  have hp : (2 : Int) ^ (7 * j) = ((128 ^ j : Nat) : Int) := by rw [Int.natCast_pow, Int.pow_mul]; rfl
  have e1 : (C : Int) % 128 * 2 ^ (7 * j) = ((C % 128 * 128 ^ j : Nat) : Int) := by rw [hp, Int.natCast_mul]; rfl
  have hb : C % 128 * 128 ^ j < 9223372036854775808 := by
    have e8 : 128 ^ 8 = 72057594037927936 := by decide
    have e7 : 128 ^ 7 = 562949953421312 := by decide
    by_cases h : j = 8
    · subst h
      have := h8 rfl
      omega
    · have h10 : 128 ^ j ≤ 128 ^ 7 := Nat.pow_le_pow_right (by decide) (by omega)
      have : C % 128 * 128 ^ j ≤ 127 * 128 ^ 7 := Nat.mul_le_mul (by omega) h10
      omega
  rw [e1, show wrap64 ((C % 128 * 128 ^ j : Nat) : Int) = ((C % 128 * 128 ^ j : Nat) : Int) by unfold wrap64; omega]
  exact orAdd acc (C % 128) j hj ha (by omega) h8
theorem off_ok (w : World) (p : Nat) (s : ByteArray) (a : Int) (h : Blk w p [.string s, .int .i64 a, .int .i64 0] 127) :
    Calls Tryz.prog 85 #[.pointer (some ⟨p, 0, none⟩)] w fun e w' => e = .returned (.bool false) ∧ w = w' := by
  have c2 := h.cell (i := 2) rfl
  clear h
  go_enter Tryz.func85, Tryz.ntmps85
  go_wp2
  go_ret
  exact ⟨rfl, rfl⟩
theorem off_err (w : World) (p : Nat) (s : ByteArray) (a : Int) (e : Nat) (he : e ≠ 0) (h : Blk w p [.string s, .int .i64 a, .int .i64 e] 127) :
    Calls Tryz.prog 85 #[.pointer (some ⟨p, 0, none⟩)] w fun e w' => e = .returned (.bool true) ∧ w = w' := by
  have c2 := h.cell (i := 2) rfl
  have hd : ((e : Int) != 0) = true := by simpa using he
  clear h he
  go_enter Tryz.func85, Tryz.ntmps85
  go_wp2
  go_ret
  exact ⟨rfl, rfl⟩
theorem fail_ok (w : World) (p : Nat) (s : ByteArray) (a k : Int) (h : Blk w p [.string s, .int .i64 a, .int .i64 0] 127) :
    Calls Tryz.prog 86 #[.pointer (some ⟨p, 0, none⟩), .int .i64 k] w fun e w' => e = .returned (.tuple #[]) ∧ Blk w' p [.string s, .int .i64 a, .int .i64 k] 127 ∧ w.grownBy w' (some p) := by
  have c2 := h.cell (i := 2) rfl
  have f2 := h.frozen 2
  have HR := Lib.hid (off_ok w p s a h)
  have H := Lib.hid h
  clear h
  go_enter Tryz.func86, Tryz.ntmps86
  go_wp2_with fail
  refine HR.out.mono ?_
  rintro e w1 ⟨rfl, rfl⟩
  go_wp2
  go_end0
  exact ⟨rfl, H.out.set 2 _, grown_set (grown_refl _ _) _ _⟩
theorem byte_err (w : World) (p : Nat) (s : ByteArray) (a : Int) (e : Nat) (he : e ≠ 0) (h : Blk w p [.string s, .int .i64 a, .int .i64 e] 127) :
    Calls Tryz.prog 87 #[.pointer (some ⟨p, 0, none⟩)] w fun e w' => e = .returned (.int .i64 0) ∧ w = w' := by
  go_enter Tryz.func87, Tryz.ntmps87
  go_wp2_with fail
  refine (off_err w p s a e he h).mono ?_
  rintro e w1 ⟨rfl, rfl⟩
  go_wp2
  go_ret
  exact ⟨rfl, rfl⟩
theorem byte_end (w : World) (p : Nat) (s : ByteArray) (h : Blk w p [.string s, .int .i64 s.size, .int .i64 0] 127) :
    Calls Tryz.prog 87 #[.pointer (some ⟨p, 0, none⟩)] w fun e w' => e = .returned (.int .i64 0) ∧ Blk w' p [.string s, .int .i64 s.size, .int .i64 (3 : Nat)] 127 ∧ w.grownBy w' (some p) := by
  have c0 := h.cell (i := 0) rfl
  have c1 := h.cell (i := 1) rfl
  have H := Lib.hid h
  clear h
  go_enter Tryz.func87, Tryz.ntmps87
  go_wp2_with fail
  refine (off_ok w p s _ H.out).mono ?_
  rintro e w1 ⟨rfl, rfl⟩
  go_wp2_with fail
  go_quiet (fail)
  go_wp2_with fail
  refine (fail_ok _ p s _ 3 (H.out.drewN _)).mono ?_
  rintro e w2 ⟨rfl, h2, hg⟩
  go_wp2
  go_ret
  exact ⟨rfl, h2, grown_trans (grown_drewN (grown_refl _ _) _) hg⟩
theorem byte_ok (w : World) (p : Nat) (s : ByteArray) (k : Nat) (hk : k < s.size) (hs : s.size ≤ 1000000000) (h : Blk w p [.string s, .int .i64 k, .int .i64 0] 127) :
    Calls Tryz.prog 87 #[.pointer (some ⟨p, 0, none⟩)] w fun e w' => e = .returned (.int .i64 (s[k].toNat : Nat)) ∧ Blk w' p [.string s, .int .i64 (k + 1 : Nat), .int .i64 0] 127 ∧ w.grownBy w' (some p) := by
  have c0 := h.cell (i := 0) rfl
  have c1 := h.cell (i := 1) rfl
  have f1 := h.frozen 1
  have hne : ((k : Int) == (s.size : Int)) = false := by simp; omega
  have H := Lib.hid h
  clear h
  go_enter Tryz.func87, Tryz.ntmps87
  go_wp2_with fail
  refine (off_ok w p s _ H.out).mono ?_
  rintro e w1 ⟨rfl, rfl⟩
  go_wp2_with fail
  go_quiet (fail)
  go_wp2_with fail
  have H2 : Hid (Blk ((w.drewN nq).setCell ⟨p, 1, none⟩ (.int .i64 ((k : Int) + 1))) p [.string s, .int .i64 ((k : Int) + 1), .int .i64 0] 127) := Lib.hid ((H.out.drewN nq).set 1 _)
  have g0 := H2.out.cell (i := 0) rfl
  have g1 := H2.out.cell (i := 1) rfl
  obtain ⟨V, hV⟩ : ∃ V, V = (w.drewN nq).setCell ⟨p, 1, none⟩ (.int .i64 ((k : Int) + 1)) := ⟨_, rfl⟩
  have hgV : w.grownBy V (some p) := by rw [hV]; exact grown_set (grown_drewN (grown_refl _ _) _) _ _
  rw [← hV] at H2 g0 g1
  rw [← hV]
  have i1 : (0 : Int) ≤ (k : Int) := by omega
  have i2 : (k : Int) < (s.size : Int) := by omega
  have i3 : IntKind.i64.wrap ((k : Int) + 1 - 1) = (k : Int) := by rw [IntKind.wrap_i64]; omega
  have i4 : (k : Int) + 1 - 1 = (k : Int) := by omega
  have hcl := (s[k]).toNat_lt
  have i5 : IntKind.i64.wrap ((s[k].toNat : Nat) : Int) = ((s[k].toNat : Nat) : Int) := by rw [IntKind.wrap_i64]; omega
  clear hV c0 c1 f1 H hne
  go_quiet (fail)
  go_wp2
  go_ret
  exact ⟨rfl, by rw [show ((k + 1 : Nat) : Int) = (k : Int) + 1 by omega]; exact H2.out.drewN _, grown_drewN hgV _⟩
set_option maxRecDepth 100000 in
set_option maxHeartbeats 1000000 in
theorem num_rd (w : World) (p : Nat) (s : ByteArray) (z : RSt) (hs : s.size ≤ 1000000000) (h : RdB 127 w p s z) :
    Calls Tryz.prog 58 #[.pointer (some ⟨p, 0, none⟩)] w fun e w' => e = .returned (.int .i64 ((stNum z).1 : Nat)) ∧ RdB 127 w' p s (stNum z).2 ∧ w.grownBy w' (some p) := by
  obtain ⟨l, er⟩ := z
  obtain ⟨a0, ha0, hl, hb⟩ := h
  simp only at hl hb
  by_cases he : er = 0
  · subst he
    subst hl
    rw [stNum_ok]
    obtain ⟨R, hR⟩ : ∃ R, R = rdNum 0 0 (s.data.toList.drop a0) := ⟨_, rfl⟩
    rw [← hR]
    have HRR := Lib.hid hR
    have H0 := Lib.hid hb
    clear hR hb
    go_enter Tryz.func58, Tryz.ntmps58
    go_wp2_with fail
    go_loopw [3, 4, 5] (fun n i _ wr => ∃ (acc j at_ : Nat), n = .int .i64 acc ∧ i = .int .i64 j ∧ j ≤ 8 ∧ acc < 128 ^ j ∧ at_ ≤ s.size ∧ Blk wr p [.string s, .int .i64 at_, .int .i64 0] 127 ∧ rdNum j acc (s.data.toList.drop at_) = R ∧ w.grownBy wr (some p)) (fun _ i _ _ => 9 - (intOf i).toNat)
    case atStart => exact ⟨0, 0, a0, rfl, rfl, by omega, by decide, ha0, H0.out, HRR.out.symm, grown_refl _ _⟩
    case round =>
      clear HRR H0
      obtain ⟨acc, j, k, rfl, rfl, hj, hacc, hk, hb, hR, hg⟩ := hrel
      by_cases hlt : k < s.size
      · have hdr := drop_at s k hlt
        rw [hdr, rdNum] at hR
        have hcl := (s[k]).toNat_lt
        obtain ⟨C, hC⟩ : ∃ C : Nat, C = (s[k]).toNat := ⟨_, rfl⟩
        have HBY := Lib.hid (byte_ok wr p s k hlt hs hb)
        rw [← hC] at hR hcl HBY
        have HR := Lib.hid hR
        have HG := Lib.hid hg
        clear hR hg hb hdr hC
        go_wp2_with fail
        refine HBY.out.mono ?_
        rintro e w1 ⟨rfl, hb1, hg1⟩
        have HB := Lib.hid (And.intro hb1 (grown_trans HG.out hg1))
        clear hb1 hg1 HG HBY
        go_wp2_with fail
        refine (off_ok w1 p s _ HB.out.1).mono ?_
        rintro e w2 ⟨rfl, rfl⟩
        by_cases hA : j = 8 ∧ 63 < C
        · obtain ⟨rfl, hC8⟩ := hA
          have hRR := HR.out
          rw [if_pos (.inr ⟨rfl, hC8⟩)] at hRR
          have HRR := Lib.hid hRR.symm
          have d1 : decide ((63 : Int) < (C : Int)) = true := by simp; omega
          clear HR hRR
          go_wp2_with fail
          refine (fail_ok w1 p s _ 5 HB.out.1).mono ?_
          rintro e w3 ⟨rfl, hb3, hg3⟩
          have hFin : RdB 127 w3 p s R.2 := by rw [HRR.out]; exact ⟨k + 1, by omega, rfl, hb3⟩
          have hR1 : R.1 = 0 := by rw [HRR.out]
          have HF := Lib.hid (And.intro hR1 (And.intro hFin (grown_trans HB.out.2 hg3)))
          clear hb3 hg3 hFin hR1
          go_wp2
          go_ret
          exact ⟨by rw [HF.out.1]; rfl, HF.out.2.1, HF.out.2.2⟩
        · have dA : ((j : Int) == 8) = false ∨ (((j : Int) == 8) = true ∧ decide ((63 : Int) < (C : Int)) = false) := by
            by_cases h8 : j = 8
            · exact .inr ⟨by simp; omega, by simp; omega⟩
            · exact .inl (by simp; omega)
          by_cases hBc : 0 < j ∧ C = 0
          · obtain ⟨hj0, rfl⟩ := hBc
            have hRR := HR.out
            rw [if_pos (.inl ⟨hj0, rfl⟩)] at hRR
            have HRR := Lib.hid hRR.symm
            have d2 : decide ((0 : Int) < (j : Int)) = true := by simp; omega
            clear HR hRR hA
            rcases dA with d1 | ⟨d1, d3⟩
            all_goals (
              go_wp2_with fail
              refine (fail_ok w1 p s _ 5 HB.out.1).mono ?_
              rintro e w3 ⟨rfl, hb3, hg3⟩
              have hFin : RdB 127 w3 p s R.2 := by rw [HRR.out]; exact ⟨k + 1, by omega, rfl, hb3⟩
              have hR1 : R.1 = 0 := by rw [HRR.out]
              have HF := Lib.hid (And.intro hR1 (And.intro hFin (grown_trans HB.out.2 hg3)))
              clear hb3 hg3 hFin hR1
              go_wp2
              go_ret
              exact ⟨by rw [HF.out.1]; rfl, HF.out.2.1, HF.out.2.2⟩)
          · have dB : (decide ((0 : Int) < (j : Int)) = false ∧ ¬ 0 < j) ∨ (decide ((0 : Int) < (j : Int)) = true ∧ ((C : Int) == 0) = false ∧ 0 < j) := by
              by_cases h8 : 0 < j
              · exact .inr ⟨by simp; omega, by simp; omega, h8⟩
              · exact .inl ⟨by simp; omega, h8⟩
            have hRR := HR.out
            rw [if_neg (by intro h; rcases h with h | h; exact hBc h; exact hA h)] at hRR
            have hb1 := and127 C (by omega)
            have h8 : j = 8 → C % 128 ≤ 63 := by intro h; have : C ≤ 63 := by omega
                                                 omega
            have hOR := Lib.hid (orTerm acc C j hj hacc h8)
            by_cases h128 : C < 128
            · rw [if_pos h128] at hRR
              have HRR := Lib.hid hRR.symm
              have hm : C % 128 = C := Nat.mod_eq_of_lt h128
              have HM := Lib.hid hm
              have d5 : decide ((C : Int) < 128) = true := by simp; omega
              clear HR hRR hA hBc h8 hm
              rcases dA with d1 | ⟨d1, d3⟩ <;> rcases dB with ⟨d2, d6⟩ | ⟨d2, d4, d6⟩
              all_goals (
                go_wp2
                go_ret
                refine ⟨?_, by rw [HRR.out]; exact ⟨k + 1, by omega, rfl, HB.out.1⟩, HB.out.2⟩
                refine ret_v (int_v ?_)
                rw [HRR.out]
                refine Eq.trans hOR.out ?_
                rw [HM.out])
            · rw [if_neg h128] at hRR
              have HRR := Lib.hid hRR
              have hj7 : j + 1 ≤ 8 := by
                by_cases h : j = 8
                · exact absurd (show j = 8 ∧ 63 < C from ⟨h, by omega⟩) hA
                · omega
              have hac : acc + C % 128 * 128 ^ j < 128 ^ (j + 1) := by
                rw [Nat.pow_succ]
                have : C % 128 * 128 ^ j ≤ 127 * 128 ^ j := Nat.mul_le_mul_right _ (by omega)
                omega
              have HAC := Lib.hid hac
              have d5 : decide ((C : Int) < 128) = false := by simp; omega
              clear HR hRR hA hBc h8 hac
              rcases dA with d1 | ⟨d1, d3⟩ <;> rcases dB with ⟨d2, d6⟩ | ⟨d2, d4, d6⟩
              all_goals (
                go_wp2
                go_roundw
                case rel => exact ⟨acc + C % 128 * 128 ^ j, j + 1, k + 1, int_v hOR.out, by go_num, hj7, HAC.out, by omega, HB.out.1, HRR.out, HB.out.2⟩
                case measure => simp [intOf]; omega)
      · have hkk : k = s.size := by omega
        subst hkk
        rw [drop_end, rdNum] at hR
        have HR := Lib.hid hR.symm
        have HBY := Lib.hid (byte_end wr p s hb)
        have HG := Lib.hid hg
        clear hR hb hg
        go_wp2_with fail
        refine HBY.out.mono ?_
        rintro e w1 ⟨rfl, hb1, hg1⟩
        have HB := Lib.hid (And.intro hb1 (grown_trans HG.out hg1))
        clear hb1 hg1 HG HBY
        go_wp2_with fail
        refine (off_err w1 p s _ 3 (by decide) HB.out.1).mono ?_
        rintro e w2 ⟨rfl, rfl⟩
        go_wp2
        go_ret
        exact ⟨by rw [HR.out]; rfl, by rw [HR.out]; exact ⟨s.size, Nat.le_refl _, (drop_end s).symm, HB.out.1⟩, HB.out.2⟩
  · rw [stNum_err (z := (l, er)) he]
    go_enter Tryz.func58, Tryz.ntmps58
    go_wp2_with fail
    go_loopw [3, 4, 5] (fun n i _ wr => n = .int .i64 0 ∧ i = .int .i64 0 ∧ w = wr) (fun _ i _ _ => 0)
    case atStart => exact ⟨rfl, rfl, rfl⟩
    case round =>
      obtain ⟨rfl, rfl, rfl⟩ := hrel
      go_wp2_with fail
      refine (byte_err _ p s _ er he hb).mono ?_
      rintro e w1 ⟨rfl, rfl⟩
      go_wp2_with fail
      refine (off_err _ p s _ er he hb).mono ?_
      rintro e w1 ⟨rfl, rfl⟩
      go_wp2
      go_ret
      exact ⟨rfl, ⟨a0, ha0, hl, hb⟩, grown_refl _ _⟩
end Go.Proofs.YtgkcnocfijckoaaGreat
namespace Go.Proofs.YtgkcnocfijckoaaGreat
open Go.RowKit
set_option linter.unusedVariables false
set_option linter.unusedSimpArgs false
def mkB (l : List UInt8) : ByteArray := ⟨l.toArray⟩
theorem mkB_list (l : List UInt8) : (mkB l).data.toList = l := rfl
theorem extract_mk (s : ByteArray) (a n : Nat) (h : a + n ≤ s.size) : s.extract a (a + n) = mkB ((s.data.toList.drop a).take n) := by
  apply ByteArray.ext
  rw [ByteArray.data_extract]
  apply Array.ext'
  rw [Array.toList_extract]
  simp [mkB, List.extract]
theorem read_any (w : World) (s : ByteArray) :
    Calls Tryz.prog 40 #[.string s] w fun e w' => e = .returned (.pointer (some ⟨w.heap.size, 0, none⟩)) ∧ RdB 127 w' w.heap.size s (s.data.toList, 0) ∧ Below w.heap.size w w' := by
  have hz : ∀ w, (zeroValue 127).run Tryz.prog w = .ok (.agg #[.string ByteArray.empty, .int .i64 0, .int .i64 0]) w := fun _ => by kernel_rfl
  have HB := Lib.hid (Blk.new w [.string s, .int .i64 0, .int .i64 0] 127)
  have HW : Hid (Below w.heap.size w (w.alloc (.cells #[.string s, .int .i64 0, .int .i64 0] 127))) := Lib.hid ((Below.refl _ _).alloc (Nat.le_refl _) _)
  go_enter Tryz.func40, Tryz.ntmps40
  go_wp2
  go_ret
  exact ⟨rfl, ⟨0, by omega, rfl, HB.out⟩, HW.out⟩
theorem err_rd (w : World) (p : Nat) (s : ByteArray) (a e : Int) (h : Blk w p [.string s, .int .i64 a, .int .i64 e] 127) :
    Calls Tryz.prog 60 #[.pointer (some ⟨p, 0, none⟩)] w fun e' w' => e' = .returned (.int .i64 e) ∧ w = w' := by
  have c2 := h.cell (i := 2) rfl
  clear h
  go_enter Tryz.func60, Tryz.ntmps60
  go_wp2
  go_ret
  exact ⟨rfl, rfl⟩
theorem left_rd (w : World) (p : Nat) (s : ByteArray) (a : Nat) (e : Int) (ha : a ≤ s.size) (hs : s.size ≤ 1000000000) (h : Blk w p [.string s, .int .i64 a, .int .i64 e] 127) :
    Calls Tryz.prog 69 #[.pointer (some ⟨p, 0, none⟩)] w fun e' w' => e' = .returned (.int .i64 ((s.size - a : Nat) : Int)) ∧ ∃ m, w' = w.drewN m := by
  have c0 := h.cell (i := 0) rfl
  have c1 := h.cell (i := 1) rfl
  have i3 : IntKind.i64.wrap ((s.size : Int) - (a : Int)) = (s.size : Int) - (a : Int) := by rw [IntKind.wrap_i64]; omega
  clear h
  go_enter Tryz.func69, Tryz.ntmps69
  go_wp2_with fail
  go_quiet (fail)
  go_wp2
  go_ret
  exact ⟨ret_v (int_v (by omega)), _, rfl⟩
set_option maxRecDepth 100000 in
set_option maxHeartbeats 1000000 in
theorem raw_rd (w : World) (p : Nat) (s : ByteArray) (z : RSt) (n : Nat) (hn : n ≤ 1000000000) (hs : s.size ≤ 1000000000) (h : RdB 127 w p s z) :
    Calls Tryz.prog 57 #[.pointer (some ⟨p, 0, none⟩), .int .i64 n] w fun e w' => e = .returned (.string (mkB (stRaw n z).1)) ∧ RdB 127 w' p s (stRaw n z).2 ∧ w.grownBy w' (some p) := by
  obtain ⟨l, er⟩ := z
  obtain ⟨a, ha, hl, hb⟩ := h
  simp only at hl hb
  by_cases he : er = 0
  · subst he
    subst hl
    have hll : (s.data.toList.drop a).length = s.size - a := by simp
    by_cases hlt : s.size - a < n
    · have hR : stRaw n (s.data.toList.drop a, 0) = ([], (s.data.toList.drop a, 3)) := by unfold stRaw; rw [if_pos rfl, if_pos (by rw [hll]; exact hlt)]
      rw [hR]
      have d1 : decide (((s.size - a : Nat) : Int) < (n : Int)) = true := by simp; omega
      have d0 : decide ((n : Int) < 0) = false := by simp
      have H := Lib.hid hb
      obtain ⟨LF, hLF⟩ : ∃ L, L = s.size - a := ⟨_, rfl⟩
      have HL := Lib.hid (left_rd w p s a 0 ha hs hb)
      rw [← hLF] at d1 HL hlt
      clear hb hR hll hLF
      go_enter Tryz.func57, Tryz.ntmps57
      go_wp2_with fail
      refine (off_ok _ p s _ H.out).mono ?_
      rintro e w1 ⟨rfl, rfl⟩
      go_wp2_with fail
      refine HL.out.mono ?_
      rintro e w2 ⟨rfl, m, rfl⟩
      go_wp2_with fail
      refine (fail_ok _ p s _ 3 (H.out.drewN m)).mono ?_
      rintro e w3 ⟨rfl, hb3, hg3⟩
      go_wp2
      go_ret
      exact ⟨rfl, ⟨a, ha, rfl, hb3⟩, grown_trans (grown_drewN (grown_refl _ _) _) hg3⟩
    · have hR : stRaw n (s.data.toList.drop a, 0) = ((s.data.toList.drop a).take n, ((s.data.toList.drop a).drop n, 0)) := by unfold stRaw; rw [if_pos rfl, if_neg (by rw [hll]; exact hlt)]
      rw [hR]
      have d1 : decide (((s.size - a : Nat) : Int) < (n : Int)) = false := by simp; omega
      have d0 : decide ((n : Int) < 0) = false := by simp
      have hex := extract_mk s a n (by omega)
      have HX := Lib.hid hex
      have H := Lib.hid hb
      have c1 := hb.cell (i := 1) rfl
      have f1 := hb.frozen 1
      obtain ⟨LF, hLF⟩ : ∃ L, L = s.size - a := ⟨_, rfl⟩
      have HL := Lib.hid (left_rd w p s a 0 ha hs hb)
      have han : a + n ≤ s.size := by omega
      rw [← hLF] at d1 HL hlt
      clear hb hR hll hLF hex
      go_enter Tryz.func57, Tryz.ntmps57
      go_wp2_with fail
      refine (off_ok _ p s _ H.out).mono ?_
      rintro e w1 ⟨rfl, rfl⟩
      go_wp2_with fail
      refine HL.out.mono ?_
      rintro e w2 ⟨rfl, m, rfl⟩
      go_wp2_with fail
      have H2 : Hid (Blk ((w.drewN m).setCell ⟨p, 1, none⟩ (.int .i64 ((a : Int) + n))) p [.string s, .int .i64 ((a : Int) + n), .int .i64 0] 127) := Lib.hid ((H.out.drewN m).set 1 _)
      obtain ⟨V, hV⟩ : ∃ V, V = (w.drewN m).setCell ⟨p, 1, none⟩ (.int .i64 ((a : Int) + n)) := ⟨_, rfl⟩
      have hgV : w.grownBy V (some p) := by rw [hV]; exact grown_set (grown_drewN (grown_refl _ _) _) _ _
      rw [← hV] at H2
      rw [← hV]
      have g0 := H2.out.cell (i := 0) rfl
      have g1 := H2.out.cell (i := 1) rfl
      have HGV := Lib.hid hgV
      have i1 : (0 : Int) ≤ (a : Int) := by omega
      have i2 : (a : Int) ≤ (a : Int) + n := by omega
      have i3 : (a : Int) + n ≤ (s.size : Int) := by omega
      have i4 : IntKind.i64.wrap ((a : Int) + n - n) = (a : Int) := by rw [IntKind.wrap_i64]; omega
      have i5 : (a : Int) + n - n = (a : Int) := by omega
      have i6 : ((a : Int) + n).toNat = a + n := by omega
      clear hV c1 f1 H HL hgV d1 d0
      go_quiet (fail)
      go_wp2
      go_ret
      refine ⟨?_, ⟨a + n, by omega, by simp [List.drop_drop], H2.out.drewN _⟩, grown_drewN HGV.out _⟩
      rw [← HX.out]
      rfl
  · rw [stRaw_err (z := (l, er)) he]
    go_enter Tryz.func57, Tryz.ntmps57
    go_wp2_with fail
    refine (off_err _ p s _ er he hb).mono ?_
    rintro e w1 ⟨rfl, rfl⟩
    go_wp2
    go_ret
    exact ⟨rfl, ⟨a, ha, hl, hb⟩, grown_refl _ _⟩
set_option maxRecDepth 100000 in
set_option maxHeartbeats 1000000 in
theorem end_rd (w : World) (p : Nat) (s : ByteArray) (z : RSt) (hs : s.size ≤ 1000000000) (h : RdB 127 w p s z) :
    Calls Tryz.prog 62 #[.pointer (some ⟨p, 0, none⟩)] w fun e w' => e = .returned (.int .i64 ((stEnd z).2 : Nat)) ∧ RdB 127 w' p s (stEnd z) ∧ w.grownBy w' (some p) := by
  obtain ⟨l, er⟩ := z
  obtain ⟨a, ha, hl, hb⟩ := h
  simp only at hl hb
  unfold stEnd
  by_cases he : er = 0
  · subst he
    subst hl
    have HL := Lib.hid (left_rd w p s a 0 ha hs hb)
    have H := Lib.hid hb
    clear hb
    by_cases hlt : a < s.size
    · rw [if_pos ⟨rfl, by rw [drop_at s a hlt]; simp⟩]
      have d1 : decide (0 < ((s.size - a : Nat) : Int)) = true := by simp; omega
      obtain ⟨LF, hLF⟩ : ∃ L, L = s.size - a := ⟨_, rfl⟩
      have hLn : 0 < LF := by omega
      rw [← hLF] at d1 HL
      clear hLF hlt
      go_enter Tryz.func62, Tryz.ntmps62
      go_wp2_with fail
      refine (off_ok _ p s _ H.out).mono ?_
      rintro e w1 ⟨rfl, rfl⟩
      go_wp2_with fail
      refine HL.out.mono ?_
      rintro e w2 ⟨rfl, m, rfl⟩
      go_wp2_with fail
      refine (fail_ok _ p s _ 4 (H.out.drewN m)).mono ?_
      rintro e w3 ⟨rfl, hb3, hg3⟩
      go_wp2_with fail
      refine (err_rd _ p s _ _ hb3).mono ?_
      rintro e w4 ⟨rfl, rfl⟩
      go_wp2
      go_ret
      exact ⟨rfl, ⟨a, ha, rfl, hb3⟩, grown_trans (grown_drewN (grown_refl _ _) _) hg3⟩
    · have haa : a = s.size := by omega
      subst haa
      rw [if_neg (by simp)]
      have d1 : decide (0 < ((s.size - s.size : Nat) : Int)) = false := by simp
      obtain ⟨LF, hLF⟩ : ∃ L, L = s.size - s.size := ⟨_, rfl⟩
      have hLn : ¬ 0 < LF := by omega
      rw [← hLF] at d1 HL
      clear hLF hlt
      go_enter Tryz.func62, Tryz.ntmps62
      go_wp2_with fail
      refine (off_ok _ p s _ H.out).mono ?_
      rintro e w1 ⟨rfl, rfl⟩
      go_wp2_with fail
      refine HL.out.mono ?_
      rintro e w2 ⟨rfl, m, rfl⟩
      go_wp2_with fail
      refine (err_rd _ p s _ _ (H.out.drewN m)).mono ?_
      rintro e w4 ⟨rfl, rfl⟩
      go_wp2
      go_ret
      exact ⟨rfl, ⟨s.size, ha, rfl, H.out.drewN m⟩, grown_drewN (grown_refl _ _) _⟩
  · rw [if_neg (fun h => he h.1)]
    have H := Lib.hid hb
    clear hb
    go_enter Tryz.func62, Tryz.ntmps62
    go_wp2_with fail
    refine (off_err _ p s _ er he H.out).mono ?_
    rintro e w1 ⟨rfl, rfl⟩
    go_wp2_with fail
    refine (err_rd _ p s _ _ H.out).mono ?_
    rintro e w4 ⟨rfl, rfl⟩
    go_wp2
    go_ret
    exact ⟨rfl, ⟨a, ha, hl, H.out⟩, grown_refl _ _⟩
end Go.Proofs.YtgkcnocfijckoaaGreat
namespace Go.Proofs.YtgkcnocfijckoaaGreat
open Go.RowKit
set_option linter.unusedVariables false
set_option linter.unusedSimpArgs false
theorem rbyte_err (w : World) (p : Nat) (s : ByteArray) (a : Int) (e : Nat) (he : e ≠ 0) (h : Blk w p [.string s, .int .i64 a, .int .i64 e] 34) :
    Calls Tryz.prog 44 #[.pointer (some ⟨p, 0, none⟩)] w fun e w' => e = .returned (.int .i64 0) ∧ w = w' := by
  have c2 := h.cell (i := 2) rfl
  have hd : ((e : Int) != 0) = true := by simpa using he
  clear h he
  go_enter Tryz.func44, Tryz.ntmps44
  go_wp2
  go_ret
  exact ⟨rfl, rfl⟩
theorem rbyte_end (w : World) (p : Nat) (s : ByteArray) (h : Blk w p [.string s, .int .i64 s.size, .int .i64 0] 34) :
    Calls Tryz.prog 44 #[.pointer (some ⟨p, 0, none⟩)] w fun e w' => e = .returned (.int .i64 0) ∧ Blk w' p [.string s, .int .i64 s.size, .int .i64 (3 : Nat)] 34 ∧ w.grownBy w' (some p) := by
  have c0 := h.cell (i := 0) rfl
  have c1 := h.cell (i := 1) rfl
  have c2 := h.cell (i := 2) rfl
  have f2 := h.frozen 2
  have H := Lib.hid h
  clear h
  go_enter Tryz.func44, Tryz.ntmps44
  go_wp2_with fail
  go_quiet (fail)
  go_wp2
  go_ret
  exact ⟨rfl, (H.out.drewN _).set 2 _, grown_set (grown_drewN (grown_refl _ _) _) _ _⟩
theorem rbyte_ok (w : World) (p : Nat) (s : ByteArray) (k : Nat) (hk : k < s.size) (hs : s.size ≤ 1000000000) (h : Blk w p [.string s, .int .i64 k, .int .i64 0] 34) :
    Calls Tryz.prog 44 #[.pointer (some ⟨p, 0, none⟩)] w fun e w' => e = .returned (.int .i64 (s[k].toNat : Nat)) ∧ Blk w' p [.string s, .int .i64 (k + 1 : Nat), .int .i64 0] 34 ∧ w.grownBy w' (some p) := by
  have c0 := h.cell (i := 0) rfl
  have c1 := h.cell (i := 1) rfl
  have c2 := h.cell (i := 2) rfl
  have f1 := h.frozen 1
  have hne : decide ((s.size : Int) ≤ (k : Int)) = false := by simp; omega
  have H := Lib.hid h
  clear h
  go_enter Tryz.func44, Tryz.ntmps44
  go_wp2_with fail
  go_quiet (fail)
  go_wp2_with fail
  have H2 : Hid (Blk ((w.drewN nq).setCell ⟨p, 1, none⟩ (.int .i64 ((k : Int) + 1))) p [.string s, .int .i64 ((k : Int) + 1), .int .i64 0] 34) := Lib.hid ((H.out.drewN nq).set 1 _)
  have g0 := H2.out.cell (i := 0) rfl
  have g1 := H2.out.cell (i := 1) rfl
  obtain ⟨V, hV⟩ : ∃ V, V = (w.drewN nq).setCell ⟨p, 1, none⟩ (.int .i64 ((k : Int) + 1)) := ⟨_, rfl⟩
  have hgV : w.grownBy V (some p) := by rw [hV]; exact grown_set (grown_drewN (grown_refl _ _) _) _ _
  rw [← hV] at H2 g0 g1
  rw [← hV]
  have i1 : (0 : Int) ≤ (k : Int) := by omega
  have i2 : (k : Int) < (s.size : Int) := by omega
  have i3 : IntKind.i64.wrap ((k : Int) + 1 - 1) = (k : Int) := by rw [IntKind.wrap_i64]; omega
  have i4 : (k : Int) + 1 - 1 = (k : Int) := by omega
  have hcl := (s[k]).toNat_lt
  have i5 : IntKind.i64.wrap ((s[k].toNat : Nat) : Int) = ((s[k].toNat : Nat) : Int) := by rw [IntKind.wrap_i64]; omega
  clear hV c0 c1 c2 f1 H hne
  go_quiet (fail)
  go_wp2
  go_ret
  exact ⟨rfl, by rw [show ((k + 1 : Nat) : Int) = (k : Int) + 1 by omega]; exact H2.out.drewN _, grown_drewN hgV _⟩
set_option maxRecDepth 100000 in
set_option maxHeartbeats 1000000 in
theorem rnum_rd (w : World) (p : Nat) (s : ByteArray) (z : RSt) (hs : s.size ≤ 1000000000) (h : RdB 34 w p s z) :
    Calls Tryz.prog 14 #[.pointer (some ⟨p, 0, none⟩)] w fun e w' => e = .returned (.int .i64 ((stNum z).1 : Nat)) ∧ RdB 34 w' p s (stNum z).2 ∧ w.grownBy w' (some p) := by
  obtain ⟨l, er⟩ := z
  obtain ⟨a0, ha0, hl, hb⟩ := h
  simp only at hl hb
  by_cases he : er = 0
  · subst he
    subst hl
    rw [stNum_ok]
    obtain ⟨R, hR⟩ : ∃ R, R = rdNum 0 0 (s.data.toList.drop a0) := ⟨_, rfl⟩
    rw [← hR]
    have HRR := Lib.hid hR
    have H0 := Lib.hid hb
    clear hR hb
    go_enter Tryz.func14, Tryz.ntmps14
    go_wp2_with fail
    go_loopw [3, 4, 5, 6] (fun n u i _ wr => ∃ (acc j at_ U : Nat), n = .int .i64 acc ∧ u = .int .i64 U ∧ i = .int .i64 j ∧ j ≤ 8 ∧ acc < 128 ^ j ∧ U = 128 ^ j ∧ at_ ≤ s.size ∧ Blk wr p [.string s, .int .i64 at_, .int .i64 0] 34 ∧ rdNum j acc (s.data.toList.drop at_) = R ∧ w.grownBy wr (some p)) (fun _ _ i _ _ => 9 - (intOf i).toNat)
    case atStart => exact ⟨0, 0, a0, 1, rfl, rfl, rfl, by omega, by decide, rfl, ha0, H0.out, HRR.out.symm, grown_refl _ _⟩
    case round =>
      clear HRR H0
      obtain ⟨acc, j, k, U, rfl, rfl, rfl, hj, hacc, hU, hk, hb, hR, hg⟩ := hrel
      have d9 : decide ((j : Int) < 9) = true := by simp; omega
      have j9 : j < 9 := by omega
      by_cases hlt : k < s.size
      · have hdr := drop_at s k hlt
        rw [hdr, rdNum] at hR
        have hcl := (s[k]).toNat_lt
        obtain ⟨C, hC⟩ : ∃ C : Nat, C = (s[k]).toNat := ⟨_, rfl⟩
        have HBY := Lib.hid (rbyte_ok wr p s k hlt hs hb)
        rw [← hC] at hR hcl HBY
        have hUb : U ≤ 72057594037927936 := by
          rw [hU, ← pow128_8]; exact Nat.pow_le_pow_right (by decide) hj
        have haU : acc < U := by rw [hU]; exact hacc
        rw [← hU] at hR
        have HU := Lib.hid hU
        have HR := Lib.hid hR
        have HG := Lib.hid hg
        clear hR hg hb hdr hC hU hacc
        go_wp2_with fail
        refine HBY.out.mono ?_
        rintro e w1 ⟨rfl, hb1, hg1⟩
        have HB := Lib.hid (And.intro hb1 (grown_trans HG.out hg1))
        have c2 := hb1.cell (i := 2) rfl
        have f2 := hb1.frozen 2
        clear hb1 hg1 HG HBY
        by_cases hA : (0 < j ∧ C = 0) ∨ (j = 8 ∧ 63 < C)
        · have hRR := HR.out
          rw [if_pos hA] at hRR
          have HRR := Lib.hid hRR.symm
          clear HR hRR
          have hA' : (decide ((0 : Int) < (j : Int)) = true ∧ ((C : Int) == 0) = true ∧ 0 < j) ∨ (decide ((0 : Int) < (j : Int)) = true ∧ ((C : Int) == 0) = false ∧ ((j : Int) == 8) = true ∧ decide ((63 : Int) < (C : Int)) = true ∧ 0 < j ∧ j = 8) := by
            by_cases h0 : C = 0
            · rcases hA with ⟨h1, h2⟩ | ⟨h1, h2⟩
              · exact .inl ⟨by simp; omega, by simp; omega, h1⟩
              · omega
            · rcases hA with ⟨h1, h2⟩ | ⟨h1, h2⟩
              · exact absurd h2 h0
              · exact .inr ⟨by simp; omega, by simp; omega, by simp; omega, by simp; omega, by omega, h1⟩
          clear hA
          rcases hA' with ⟨d1, d2, d3⟩ | ⟨d1, d2, d3, d4, d5, d6⟩
          all_goals (
            go_wp2
            go_ret
            exact ⟨by rw [HRR.out]; rfl, by rw [HRR.out]; exact ⟨k + 1, by omega, rfl, HB.out.1.set 2 _⟩, grown_set HB.out.2 _ _⟩)
        · have hRR := HR.out
          rw [if_neg hA] at hRR
          have dB : (decide ((0 : Int) < (j : Int)) = false ∧ ¬ 0 < j) ∨ (decide ((0 : Int) < (j : Int)) = true ∧ ((C : Int) == 0) = false ∧ 0 < j) := by
            by_cases h8 : 0 < j
            · exact .inr ⟨by simp; omega, by simp; intro h; exact hA (.inl ⟨h8, h⟩), h8⟩
            · exact .inl ⟨by simp; omega, h8⟩
          have dA : ((j : Int) == 8) = false ∨ (((j : Int) == 8) = true ∧ decide ((63 : Int) < (C : Int)) = false) := by
            by_cases h8 : j = 8
            · exact .inr ⟨by simp; omega, by simp; omega⟩
            · exact .inl (by simp; omega)
          have hP : C % 128 * U ≤ 4611686018427387904 := by
            by_cases h8 : j = 8
            · have : C ≤ 63 := by omega
              have : C % 128 * U ≤ 63 * 72057594037927936 := Nat.mul_le_mul (by omega) hUb
              omega
            · have h7 : U ≤ 562949953421312 := by
                rw [HU.out, show 562949953421312 = 128 ^ 7 by decide]; exact Nat.pow_le_pow_right (by decide) (by omega)
              have : C % 128 * U ≤ 127 * 562949953421312 := Nat.mul_le_mul (by omega) h7
              omega
          have hPe : (C : Int) % 128 * (U : Int) = ((C % 128 * U : Nat) : Int) := by rw [Int.natCast_mul]; rfl
          obtain ⟨PP, hPP⟩ : ∃ P, P = C % 128 * U := ⟨_, rfl⟩
          rw [← hPP] at hP hPe hRR
          by_cases h128 : C < 128
          · rw [if_pos h128] at hRR
            have hm : C % 128 = C := Nat.mod_eq_of_lt h128
            rw [hm] at hPP
            have HRR := Lib.hid hRR.symm
            have HPP := Lib.hid hPP
            have d5 : decide ((C : Int) < 128) = true := by simp; omega
            clear HR hRR hA hm hPP
            rcases dA with d1 | ⟨d1, d3⟩ <;> rcases dB with ⟨d2, d6⟩ | ⟨d2, d4, d6⟩
            all_goals (
              go_wp2
              go_ret
              refine ⟨?_, by rw [HRR.out]; exact ⟨k + 1, by omega, rfl, HB.out.1⟩, HB.out.2⟩
              refine ret_v (int_v ?_)
              rw [HRR.out, ← HPP.out]
              rfl)
          · rw [if_neg h128] at hRR
            have HRR := Lib.hid hRR
            have d5 : decide ((C : Int) < 128) = false := by simp; omega
            have hj7 : j + 1 ≤ 8 := by
              by_cases h : j = 8
              · exact absurd (.inr ⟨h, by omega⟩) hA
              · omega
            have hac : acc + PP < 128 ^ (j + 1) := by
              rw [Nat.pow_succ, ← HU.out, hPP]
              have : C % 128 * U ≤ 127 * U := Nat.mul_le_mul_right _ (by omega)
              omega
            have hU7 : U * 128 = 128 ^ (j + 1) := by rw [HU.out, Nat.pow_succ]
            have hUc : U ≤ 562949953421312 := by
              rw [HU.out, show 562949953421312 = 128 ^ 7 by decide]; exact Nat.pow_le_pow_right (by decide) (by omega)
            have HAC := Lib.hid hac
            have HU7 := Lib.hid hU7
            clear HR hRR hA hac hU7 hPP
            rcases dA with d1 | ⟨d1, d3⟩ <;> rcases dB with ⟨d2, d6⟩ | ⟨d2, d4, d6⟩
            all_goals (
              go_wp2
              go_roundw
              case rel => exact ⟨acc + PP, j + 1, k + 1, U * 128, by go_num, by go_num, by go_num, hj7, HAC.out, HU7.out, by omega, HB.out.1, HRR.out, HB.out.2⟩
              case measure => simp [intOf]; omega)
      · have hkk : k = s.size := by omega
        subst hkk
        rw [drop_end, rdNum] at hR
        have HR := Lib.hid hR.symm
        have HBY := Lib.hid (rbyte_end wr p s hb)
        have HG := Lib.hid hg
        clear hR hb hg hU hacc
        go_wp2_with fail
        refine HBY.out.mono ?_
        rintro e w1 ⟨rfl, hb1, hg1⟩
        have HB := Lib.hid (And.intro hb1 (grown_trans HG.out hg1))
        have c2 := hb1.cell (i := 2) rfl
        clear hb1 hg1 HG HBY
        go_wp2
        go_ret
        exact ⟨by rw [HR.out]; rfl, by rw [HR.out]; exact ⟨s.size, Nat.le_refl _, (drop_end s).symm, HB.out.1⟩, HB.out.2⟩
  · rw [stNum_err (z := (l, er)) he]
    have c2 := hb.cell (i := 2) rfl
    have hd : ((er : Int) != 0) = true := by simpa using he
    have H := Lib.hid hb
    clear hb
    go_enter Tryz.func14, Tryz.ntmps14
    go_wp2_with fail
    go_loopw [3, 4, 5, 6] (fun n u i _ wr => n = .int .i64 0 ∧ u = .int .i64 1 ∧ i = .int .i64 0 ∧ w = wr) (fun _ _ i _ _ => 0)
    case atStart => exact ⟨rfl, rfl, rfl, rfl⟩
    case round =>
      obtain ⟨rfl, rfl, rfl, rfl⟩ := hrel
      go_wp2_with fail
      refine (rbyte_err _ p s _ er he H.out).mono ?_
      rintro e w1 ⟨rfl, rfl⟩
      go_wp2
      go_ret
      exact ⟨rfl, ⟨a0, ha0, hl, H.out⟩, grown_refl _ _⟩
end Go.Proofs.YtgkcnocfijckoaaGreat
namespace Go.Proofs.YtgkcnocfijckoaaGreat
open Go.RowKit
set_option linter.unusedVariables false
set_option linter.unusedSimpArgs false
set_option maxRecDepth 100000 in
set_option maxHeartbeats 1000000 in
theorem rraw_rd (w : World) (p : Nat) (s : ByteArray) (z : RSt) (n : Nat) (hn : n ≤ 1000000000) (hs : s.size ≤ 1000000000) (h : RdB 34 w p s z) :
    Calls Tryz.prog 15 #[.pointer (some ⟨p, 0, none⟩), .int .i64 n] w fun e w' => e = .returned (.string (mkB (stRaw n z).1)) ∧ RdB 34 w' p s (stRaw n z).2 ∧ w.grownBy w' (some p) := by
  obtain ⟨l, er⟩ := z
  obtain ⟨a, ha, hl, hb⟩ := h
  simp only at hl hb
  have c2 := hb.cell (i := 2) rfl
  by_cases he : er = 0
  · subst he
    subst hl
    have c0 := hb.cell (i := 0) rfl
    have c1 := hb.cell (i := 1) rfl
    have f1 := hb.frozen 1
    have f2 := hb.frozen 2
    have hll : (s.data.toList.drop a).length = s.size - a := by simp
    have d0 : decide ((n : Int) < 0) = false := by simp
    have i9 : IntKind.i64.wrap ((s.size : Int) - (a : Int)) = (s.size : Int) - (a : Int) := by rw [IntKind.wrap_i64]; omega
    have i8 : (s.size : Int) - (a : Int) = ((s.size - a : Nat) : Int) := by omega
    by_cases hlt : s.size - a < n
    · have hR : stRaw n (s.data.toList.drop a, 0) = ([], (s.data.toList.drop a, 3)) := by unfold stRaw; rw [if_pos rfl, if_pos (by rw [hll]; exact hlt)]
      rw [hR]
      have d1 : decide ((s.size : Int) - (a : Int) < (n : Int)) = true := by simp; omega
      have d2 : (s.size : Int) - (a : Int) < (n : Int) := by omega
      have H := Lib.hid hb
      clear hb hR hll hlt i8
      go_enter Tryz.func15, Tryz.ntmps15
      go_wp2_with fail
      go_quiet (fail)
      go_wp2
      go_ret
      exact ⟨rfl, ⟨a, ha, rfl, (H.out.drewN _).set 2 _⟩, grown_set (grown_drewN (grown_refl _ _) _) _ _⟩
    · have hR : stRaw n (s.data.toList.drop a, 0) = ((s.data.toList.drop a).take n, ((s.data.toList.drop a).drop n, 0)) := by unfold stRaw; rw [if_pos rfl, if_neg (by rw [hll]; exact hlt)]
      rw [hR]
      have d1 : decide ((s.size : Int) - (a : Int) < (n : Int)) = false := by simp; omega
      have d2 : ¬ (s.size : Int) - (a : Int) < (n : Int) := by omega
      have hex := extract_mk s a n (by omega)
      have HX := Lib.hid hex
      have H := Lib.hid hb
      have han : a + n ≤ s.size := by omega
      clear hb hR hll hlt hex i8
      go_enter Tryz.func15, Tryz.ntmps15
      go_wp2_with fail
      go_quiet (fail)
      go_wp2_with fail
      have H2 : Hid (Blk ((w.drewN nq).setCell ⟨p, 1, none⟩ (.int .i64 ((a : Int) + n))) p [.string s, .int .i64 ((a : Int) + n), .int .i64 0] 34) := Lib.hid ((H.out.drewN nq).set 1 _)
      obtain ⟨V, hV⟩ : ∃ V, V = (w.drewN nq).setCell ⟨p, 1, none⟩ (.int .i64 ((a : Int) + n)) := ⟨_, rfl⟩
      have hgV : w.grownBy V (some p) := by rw [hV]; exact grown_set (grown_drewN (grown_refl _ _) _) _ _
      rw [← hV] at H2
      rw [← hV]
      have g0 := H2.out.cell (i := 0) rfl
      have g1 := H2.out.cell (i := 1) rfl
      have HGV := Lib.hid hgV
      have i1 : (0 : Int) ≤ (a : Int) := by omega
      have i2 : (a : Int) ≤ (a : Int) + n := by omega
      have i3 : (a : Int) + n ≤ (s.size : Int) := by omega
      have i4 : IntKind.i64.wrap ((a : Int) + n - n) = (a : Int) := by rw [IntKind.wrap_i64]; omega
      have i5 : (a : Int) + n - n = (a : Int) := by omega
      have i6 : ((a : Int) + n).toNat = a + n := by omega
      clear hV c0 c1 c2 f1 f2 H hgV d1 d0 d2 i9
      go_quiet (fail)
      go_wp2
      go_ret
      refine ⟨?_, ⟨a + n, by omega, by simp [List.drop_drop], H2.out.drewN _⟩, grown_drewN HGV.out _⟩
      rw [← HX.out]
      rfl
  · rw [stRaw_err (z := (l, er)) he]
    have hd : ((er : Int) != 0) = true := by simpa using he
    have H := Lib.hid hb
    clear hb
    go_enter Tryz.func15, Tryz.ntmps15
    go_wp2
    go_ret
    exact ⟨rfl, ⟨a, ha, hl, H.out⟩, grown_refl _ _⟩
set_option maxRecDepth 100000 in
set_option maxHeartbeats 1000000 in
theorem rend_rd (w : World) (p : Nat) (s : ByteArray) (z : RSt) (hs : s.size ≤ 1000000000) (h : RdB 34 w p s z) :
    Calls Tryz.prog 16 #[.pointer (some ⟨p, 0, none⟩)] w fun e w' => e = .returned (.int .i64 ((stEnd z).2 : Nat)) ∧ RdB 34 w' p s (stEnd z) ∧ w.grownBy w' (some p) := by
  obtain ⟨l, er⟩ := z
  obtain ⟨a, ha, hl, hb⟩ := h
  simp only at hl hb
  unfold stEnd
  have c0 := hb.cell (i := 0) rfl
  have c1 := hb.cell (i := 1) rfl
  have c2 := hb.cell (i := 2) rfl
  have f2 := hb.frozen 2
  by_cases he : er = 0
  · subst he
    subst hl
    have H := Lib.hid hb
    clear hb
    by_cases hlt : a < s.size
    · rw [if_pos ⟨rfl, by rw [drop_at s a hlt]; simp⟩]
      have d1 : decide ((a : Int) < (s.size : Int)) = true := by simp; omega
      have d2 : decide (a < s.size) = true := by simp; omega
      go_enter Tryz.func16, Tryz.ntmps16
      go_wp2_with fail
      go_quiet (fail)
      go_wp2_with fail
      have H2 : Hid (Blk ((w.drewN nq).setCell ⟨p, 2, none⟩ (.int .i64 4)) p [.string s, .int .i64 a, .int .i64 4] 34) := Lib.hid ((H.out.drewN nq).set 2 _)
      have g2 := H2.out.cell (i := 2) rfl
      go_wp2
      go_ret
      exact ⟨rfl, ⟨a, ha, rfl, H2.out⟩, grown_set (grown_drewN (grown_refl _ _) _) _ _⟩
    · have haa : a = s.size := by omega
      subst haa
      rw [if_neg (by simp)]
      have d1 : decide ((s.size : Int) < (s.size : Int)) = false := by simp
      go_enter Tryz.func16, Tryz.ntmps16
      go_wp2_with fail
      go_quiet (fail)
      go_wp2
      go_ret
      exact ⟨rfl, ⟨s.size, ha, rfl, H.out.drewN _⟩, grown_drewN (grown_refl _ _) _⟩
  · rw [if_neg (fun h => he h.1)]
    have hd : ((er : Int) == 0) = false := by simpa using he
    have H := Lib.hid hb
    clear hb
    go_enter Tryz.func16, Tryz.ntmps16
    go_wp2_with fail
    go_quiet (fail)
    go_wp2
    go_ret
    exact ⟨rfl, ⟨a, ha, hl, H.out.drewN _⟩, grown_drewN (grown_refl _ _) _⟩
end Go.Proofs.YtgkcnocfijckoaaGreat
