/- MarksReals: the walk. No conditions. -/
import Derived.Test.YtjahdladcijhoaaShaRef
import Derived.Test.YtjahdladcijhoaaMarksStep
import Derived.Test.YtjahdladcijhoaaMarksAwake
namespace Go.Proofs.Ytjahdladcijhoaa
open Go.RowKit
set_option linter.unusedVariables false

theorem ready_real (w : World) (p : Nat) (h : RealB w p) :
    Calls Try.prog 17 #[.pointer (some ⟨p, 0, none⟩)] w fun e w' => e = .returned (.bool true) ∧ w = w' := by
  have hI := Lib.hid h
  clear h
  go_enter Try.func17, Try.ntmps17
  go_wp2_with fail
  refine (none_real _ _ hI.out).mono ?_
  rintro e w' ⟨rfl, rfl⟩
  go_wp2
  go_ret
  exact ⟨rfl, rfl⟩
theorem refR_run (w : World) : (zeroValue 33).run Try.prog w = .ok (.agg #[.bool false, .slice none 0 0]) w := by kernel_rfl
theorem rs_cell4r {w : World} {ao : Option Addr} {len cap : Nat} {os : List OpV} (h : Rs w ao len cap 4 os OpV.c) (h0 : 0 < len) :
    ∃ b off, ao = some ⟨b, off, none⟩ ∧ b < w.heap.size ∧ ∀ k, (hk : k < os.length) → w.cell? ⟨b, off + k * 4, none⟩ = some (.int .i64 os[k].kind) ∧ w.cell? ⟨b, off + k * 4 + 1, none⟩ = some (.int .i64 os[k].n) ∧ w.cell? ⟨b, off + k * 4 + 2, none⟩ = some (.string os[k].text) ∧ w.cell? ⟨b, off + k * 4 + 3, none⟩ = some (.string os[k].mark) := by
  obtain ⟨_, _, _, h4⟩ := h
  obtain ⟨b, off, e, hb, hc⟩ := h4 h0
  refine ⟨b, off, e, hb, fun k hk => ⟨?_, ?_, ?_, ?_⟩⟩
  · simpa using hc k hk 0 _ rfl
  · simpa [Nat.add_assoc] using hc k hk 1 _ rfl
  · simpa [Nat.add_assoc] using hc k hk 2 _ rfl
  · simpa [Nat.add_assoc] using hc k hk 3 _ rfl

def TwoR (w : World) (p q : Nat) : Prop := RealB w p ∧ RefReal w q
theorem TwoR.next {w w' : World} {p q : Nat} (h : TwoR w p q) (hb : Below w.heap.size w w') : TwoR w' p q := ⟨h.1.next hb, h.2.next hb⟩

set_option maxHeartbeats 1000000 in
theorem step_real (w : World) (p q : Nat) (kd n : Int) (t mk : ByteArray) (hT : TwoR w p q) (wn : (Lit.int .i64 n).wf = true) (ht : t.size ≤ maxLen) :
    Calls Try.prog 15 #[.pointer (some ⟨p, 0, none⟩), .pointer (some ⟨q, 0, none⟩), .agg #[.int .i64 kd, .int .i64 n, .string t, .string mk]] w fun e w' =>
      e = .returned (.bool true) ∧ Below w.heap.size w w' := by
  obtain ⟨W, hW⟩ : ∃ W, W = w.alloc (.cells #[.int .i64 kd, .int .i64 n, .string t, .string mk] 36) := ⟨_, rfl⟩
  obtain ⟨p0, hp0⟩ : ∃ p, p = w.heap.size := ⟨_, rfl⟩
  have hB1 : Blk W p0 [.int .i64 kd, .int .i64 n, .string t, .string mk] 36 := by rw [hW, hp0]; exact Blk.new w _ _
  have hbw : Below w.heap.size w W := by rw [hW]; exact below_alloc w _
  have hT1 := hT.next hbw
  have HT1 := Lib.hid (And.intro hT1 hbw)
  have HB1 := Lib.hid hB1
  have HW := Lib.hid hW
  have HP := Lib.hid hp0
  have HT := Lib.hid ht
  have c2 := hB1.cell (i := 2) rfl
  clear hT hT1 hB1 ht hbw hW hp0
  go_enter Try.func15, Try.ntmps15
  go_upto_region 1 with fail
  rw [← HP.out, ← HW.out]
  go_wp2_with fail
  refine (cut_any _ _ _ HT.out (by decide)).mono ?_
  rintro e w1 ⟨s, rfl, hs, rfl⟩
  have hs9 : s.size ≤ 900000000 := Nat.le_trans hs (by decide)
  have HM := Lib.hid (fun W (h : TwoR W p q) => mark_real W p s h.1 hs9)
  have HRM := Lib.hid (fun W (h : TwoR W p q) => refMark_real W q s h.2 hs9)
  have HI := Lib.hid (fun W mk (h : TwoR W p q) => is_real W p s mk h.1 hs9)
  have HRI := Lib.hid (fun W mk (h : TwoR W p q) => refIs_real W q s mk h.2 hs9)
  obtain ⟨SS, hSS⟩ : ∃ SS, SS = shaS s := ⟨_, rfl⟩
  rw [← hSS] at HM HRM HI HRI
  have heq : (SS.toList == SS.toList) = true := by simp
  have c0 := HB1.out.cell (i := 0) rfl
  clear hs hs9 hSS c2
  by_cases h0 : kd = 0
  · subst h0
    go_wp2_with fail
    refine (HM.out _ HT1.out.1).mono ?_
    rintro e w2 ⟨rfl, hb2⟩
    have HT2 := Lib.hid (HT1.out.1.next hb2)
    have hb2' := HT1.out.2.trans (hb2.mono HT1.out.2.size)
    clear c0 hb2
    go_wp2_with fail
    refine (HRM.out _ HT2.out).mono ?_
    rintro e w3 ⟨rfl, hb3⟩
    have hb3' := hb2'.trans (hb3.mono hb2'.size)
    clear hb3 hb2'
    go_wp2
    go_ret
    exact ⟨rfl, hb3'⟩
  · by_cases h1 : kd = 1
    · subst h1
      clear h0
      have c3 := HB1.out.cell (i := 3) rfl
      have hw2 : p0 < W.heap.size := HB1.out.lt
      obtain ⟨R, hR⟩ : ∃ R, R = (SS.toList == mk.toList) := ⟨_, rfl⟩
      have HI2 := Lib.hid (fun W (h : TwoR W p q) => HI.out W mk h)
      have HRI2 := Lib.hid (fun W (h : TwoR W p q) => HRI.out W mk h)
      rw [← hR] at HI2 HRI2
      clear hR
      have H : ∀ w1 w2 : World, Below w1.heap.size w1 w2 → (w1.cell? ⟨p0, 3, none⟩ = some (.string mk) ∧ Below W.heap.size W w1) → (w2.cell? ⟨p0, 3, none⟩ = some (.string mk) ∧ Below W.heap.size W w2) :=
        fun w1 w2 hb h => ⟨(hb.cell (p := ⟨p0, 3, none⟩) (Nat.lt_of_lt_of_le hw2 h.2.size)).trans h.1, h.2.trans (hb.mono h.2.size)⟩
      have hS0 : W.drew.cell? ⟨p0, 3, none⟩ = some (.string mk) ∧ Below W.heap.size W W.drew := ⟨c3, (Below.refl _ _).drew⟩
      cases R
      all_goals
        go_wp2
        go_region_held3 (fun w' => w'.cell? ⟨p0, 3, none⟩ = some (.string mk) ∧ Below W.heap.size W w')
          (first | assumption | go_keep)
          (first | (go_at_call 13; refine (HI2.out _ (HT1.out.1.next (And.right (by assumption : _ ∧ Below W.heap.size W _)))).mono ?_; rintro e w4 ⟨rfl, hb4⟩; have hS2 := H _ _ hb4 (by assumption)) | (go_at_call 26; refine (HRI2.out _ (HT1.out.1.next (And.right (by assumption : _ ∧ Below W.heap.size W _)))).mono ?_; rintro e w4 ⟨rfl, hb4⟩; have hS2 := H _ _ hb4 (by assumption)))
        all_goals
          obtain ⟨_, hBW⟩ := hS2
          go_wp2
          go_ret
          exact ⟨rfl, HT1.out.2.trans (hBW.mono HT1.out.2.size)⟩
    · have c1 := HB1.out.cell (i := 1) rfl
      have c3 := HB1.out.cell (i := 3) rfl
      have hw2 : p0 < W.heap.size := HB1.out.lt
      have wn' := bounds_i64 wn
      by_cases hneg : n < 0
      · go_wp2_with fail
        refine (refNumber_neg n _ hneg).mono ?_
        rintro e w2 ⟨s0, rfl, _, hb2⟩
        have hT2 := HT1.out.1.next hb2
        have hb2' := HT1.out.2.trans (hb2.mono HT1.out.2.size)
        have d1 := (hb2.cell (p := ⟨p0, 1, none⟩) hw2).trans c1
        have d3 := (hb2.cell (p := ⟨p0, 3, none⟩) hw2).trans c3
        obtain ⟨R, hR⟩ : ∃ R, R = (SS.toList == mk.toList) := ⟨_, rfl⟩
        have HI2 := Lib.hid (fun W (h : TwoR W p q) => HI.out W mk h)
        have HRI2 := Lib.hid (fun W (h : TwoR W p q) => HRI.out W mk h)
        rw [← hR] at HI2 HRI2
        clear hR c0 c1 c3 hb2
        cases R
        all_goals
          go_wp2_with fail
          refine (HI2.out _ hT2).mono ?_
          rintro e w3 ⟨rfl, hb3⟩
          have hT3 := hT2.next hb3
          have hb3' := hb2'.trans (hb3.mono hb2'.size)
          clear d1 d3 hb3
          go_wp2_with fail
          refine (HRI2.out _ hT3).mono ?_
          rintro e w4 ⟨rfl, hb4⟩
          have hb4' := hb3'.trans (hb4.mono hb3'.size)
          go_wp2
          go_ret
          exact ⟨rfl, hb4'⟩
      · obtain ⟨a, rfl⟩ : ∃ a : Nat, n = (a : Int) := ⟨n.toNat, by omega⟩
        go_wp2_with fail
        refine (refNumber_any a _ (by omega)).mono ?_
        rintro e w2 ⟨rfl, hb2⟩
        have hT2 := HT1.out.1.next hb2
        have hb2' := HT1.out.2.trans (hb2.mono HT1.out.2.size)
        have d1 := (hb2.cell (p := ⟨p0, 1, none⟩) hw2).trans c1
        obtain ⟨R, hR⟩ : ∃ R, R = (SS.toList == (numS a).toList) := ⟨_, rfl⟩
        have HI2 := Lib.hid (fun W (h : TwoR W p q) => HI.out W (numS a) h)
        have HRI2 := Lib.hid (fun W (h : TwoR W p q) => HRI.out W (numS a) h)
        rw [← hR] at HI2 HRI2
        clear hR c0 c1 c3 hb2 wn'
        cases R
        all_goals
          go_wp2_with fail
          refine (HI2.out _ hT2).mono ?_
          rintro e w3 ⟨rfl, hb3⟩
          have hT3 := hT2.next hb3
          have hb3' := hb2'.trans (hb3.mono hb2'.size)
          clear d1 hb3
          go_wp2_with fail
          refine (HRI2.out _ hT3).mono ?_
          rintro e w4 ⟨rfl, hb4⟩
          have hb4' := hb3'.trans (hb4.mono hb3'.size)
          go_wp2
          go_ret
          exact ⟨rfl, hb4'⟩

set_option maxHeartbeats 1000000 in
theorem marksReals_walk (w : World) (ao : Option Addr) (len cap : Nat) (ol : (Kd.sl opK).ok w [.slice ao len cap]) :
    Calls Try.prog 10 #[.slice ao len cap] w fun e w' => e = .returned (.bool true) ∧ Below w.heap.size w w' := by
  obtain ⟨os, hR, hos⟩ := ops_of ol
  clear ol
  have hlen := hR.2.2.1
  have HL := Lib.hid hlen
  clear hlen
  have hz := refR_run
  go_enter Try.func10, Try.ntmps10
  go_wp2_with fail
  refine (real_any _).mono ?_
  rintro e w1 ⟨p, rfl, hI, hp, hB⟩
  have hT : TwoR (w1.alloc (.cells #[.bool true, .slice none 0 0] 33)) p w1.heap.size :=
    ⟨hI.next (below_alloc _ _), Blk.new w1 [.bool true, .slice none 0 0] _⟩
  have hB1 : Below w.heap.size w (w1.alloc (.cells #[.bool true, .slice none 0 0] 33)) := hB.alloc hB.size _
  clear hI hB hp
  go_wp2
  obtain ⟨q, hq⟩ : ∃ q, q = w1.heap.size := ⟨_, rfl⟩
  rw [← hq] at hT
  rw [← hq]
  go_loopw [5] (fun i wr => ∃ (k : Nat), k ≤ len ∧ k ≤ 4 ∧ i = .int .i64 k ∧ TwoR wr p q ∧ Below w.heap.size w wr) (fun i _ => 4 - (intOf i).toNat)
  case atStart => exact ⟨0, by omega, by omega, rfl, hT, hB1⟩
  case round =>
    clear hT hB1 hq
    obtain ⟨k, hk, hk80, rfl, hT, hB⟩ := hrel
    have HT := Lib.hid hT
    clear hT
    by_cases hlt : k < len ∧ k < 4
    · obtain ⟨h1, h2⟩ := hlt
      obtain ⟨b, off, rfl, hbw, hc⟩ := rs_cell4r hR (by omega)
      have hks : k < os.length := by rw [HL.out]; exact h1
      obtain ⟨c0, c1, c2, c3⟩ := hc k hks
      have hok := hos _ (List.getElem_mem hks)
      obtain ⟨o, ho⟩ : ∃ o, o = os[k] := ⟨_, rfl⟩
      rw [← ho] at c0 c1 c2 c3 hok
      obtain ⟨kd, n, t, mk⟩ := o
      have HO := Lib.hid hok
      clear ho hok hc hos hR
      have d0 := (hB.cell (p := ⟨b, off + k * 4, none⟩) hbw).trans c0
      have d1 := (hB.cell (p := ⟨b, off + k * 4 + 1, none⟩) hbw).trans c1
      have d2 := (hB.cell (p := ⟨b, off + k * 4 + 2, none⟩) hbw).trans c2
      have d3 := (hB.cell (p := ⟨b, off + k * 4 + 3, none⟩) hbw).trans c3
      dsimp only at d0 d1 d2 d3
      clear c0 c1 c2 c3 hks
      go_wp2_with fail
      refine (step_real _ _ _ _ _ _ _ HT.out HO.out.2.1 HO.out.2.2.1).mono ?_
      rintro e w2 ⟨rfl, hb2⟩
      have hT2 := HT.out.next hb2
      have hB2 := hB.trans (hb2.mono hB.size)
      clear hB hb2 d0 d1 d2 d3
      go_wp2
      go_roundw
      case rel => exact ⟨k + 1, by omega, by omega, by go_num, hT2, hB2⟩
      case measure => simp [intOf]; omega
    · by_cases h1 : k < len
      · have h2 : ¬ k < 4 := fun h => hlt ⟨h1, h⟩
        clear hlt
        go_wp2_with fail
        refine (ready_real _ _ HT.out.1).mono ?_
        rintro e w2 ⟨rfl, rfl⟩
        go_wp2_with fail
        refine (awake_any _).mono ?_
        rintro e w3 ⟨rfl, hb3⟩
        have hB3 : Below w.heap.size w w3 := hB.trans (hb3.mono hB.size)
        go_wp2
        go_ret
        exact ⟨rfl, hB3⟩
      · clear hlt
        go_wp2_with fail
        refine (ready_real _ _ HT.out.1).mono ?_
        rintro e w2 ⟨rfl, rfl⟩
        go_wp2_with fail
        refine (awake_any _).mono ?_
        rintro e w3 ⟨rfl, hb3⟩
        have hB3 : Below w.heap.size w w3 := hB.trans (hb3.mono hB.size)
        go_wp2
        go_ret
        exact ⟨rfl, hB3⟩
end Go.Proofs.Ytjahdladcijhoaa
