/- The policies' functions, Ints, awake. Conditions: as named in each theorem. -/
import Derived.Test.YtoibbeiieelccaaKeepRef
namespace Go.Proofs.Ytoibbeiieelccaa
open Go.RowKit
set_option linter.unusedVariables false

def rightB (l e : Int) : Bool := decide (1 ≤ l ∧ l ≤ 1048576 ∧ 0 ≤ e ∧ e ≤ 1048576)
theorem rightB_iff {l e : Int} : rightB l e = true ↔ (1 ≤ l ∧ l ≤ 1048576 ∧ 0 ≤ e ∧ e ≤ 1048576) := by simp [rightB]
def keepsB (l e g t : Int) : Bool := rightB l e && (decide (0 ≤ g) && (decide (g ≤ t) && (decide (t - g < l) || (decide (0 < e) && decide (g % e = 0)))))
def floorI (l e t : Int) : Int := if rightB l e = true ∧ l ≤ t then t - l + 1 else 0

theorem right_any (w : World) (l e : Int) (R : Bool) (hr : R = rightB l e) :
    Calls Try.prog 15 #[.agg #[.int .i64 l, .int .i64 e]] w fun x w' => x = .returned (.bool R) ∧ Below w.heap.size w w' := by
  have HR := Lib.hid hr
  clear hr
  have hB := below_alloc w (.cells #[.int .i64 l, .int .i64 e] 32)
  have c0 := (Blk.new w [.int .i64 l, .int .i64 e] 32).cell (i := 0) rfl
  have c1 := (Blk.new w [.int .i64 l, .int .i64 e] 32).cell (i := 1) rfl
  by_cases h1 : 1 ≤ l
  · by_cases h2 : l ≤ 1048576
    · by_cases h3 : 0 ≤ e
      · by_cases h4 : e ≤ 1048576
        · have h : R = true := by rw [HR.out]; unfold rightB; simp; omega
          clear HR
          subst h
          go_enter Try.func15, Try.ntmps15
          go_wp2
          go_ret
          exact ⟨rfl, hB⟩
        · have h : R = false := by rw [HR.out]; unfold rightB; simp; omega
          clear HR
          subst h
          go_enter Try.func15, Try.ntmps15
          go_wp2
          go_ret
          exact ⟨rfl, hB⟩
      · have h : R = false := by rw [HR.out]; unfold rightB; simp; omega
        clear HR
        subst h
        go_enter Try.func15, Try.ntmps15
        go_wp2
        go_ret
        exact ⟨rfl, hB⟩
    · have h : R = false := by rw [HR.out]; unfold rightB; simp; omega
      clear HR
      subst h
      go_enter Try.func15, Try.ntmps15
      go_wp2
      go_ret
      exact ⟨rfl, hB⟩
  · have h : R = false := by rw [HR.out]; unfold rightB; simp; omega
    clear HR
    subst h
    go_enter Try.func15, Try.ntmps15
    go_wp2
    go_ret
    exact ⟨rfl, hB⟩

theorem refRight_any (w : World) (l e : Int) (R : Bool) (hr : R = rightB l e) :
    Calls Try.prog 16 #[.agg #[.int .i64 l, .int .i64 e]] w fun x w' => x = .returned (.bool R) ∧ Below w.heap.size w w' := by
  have HR := Lib.hid hr
  clear hr
  have hB := below_alloc w (.cells #[.int .i64 l, .int .i64 e] 32)
  have c0 := (Blk.new w [.int .i64 l, .int .i64 e] 32).cell (i := 0) rfl
  have c1 := (Blk.new w [.int .i64 l, .int .i64 e] 32).cell (i := 1) rfl
  by_cases h1 : 1 ≤ l
  · by_cases h2 : l ≤ 1048576
    · by_cases h3 : 0 ≤ e
      · by_cases h4 : e ≤ 1048576
        · have h : R = true := by rw [HR.out]; unfold rightB; simp; omega
          clear HR
          subst h
          go_enter Try.func16, Try.ntmps16
          go_wp2
          go_ret
          exact ⟨rfl, hB⟩
        · have h : R = false := by rw [HR.out]; unfold rightB; simp; omega
          clear HR
          subst h
          go_enter Try.func16, Try.ntmps16
          go_wp2
          go_ret
          exact ⟨rfl, hB⟩
      · have h : R = false := by rw [HR.out]; unfold rightB; simp; omega
        clear HR
        subst h
        go_enter Try.func16, Try.ntmps16
        go_wp2
        go_ret
        exact ⟨rfl, hB⟩
    · have h : R = false := by rw [HR.out]; unfold rightB; simp; omega
      clear HR
      subst h
      go_enter Try.func16, Try.ntmps16
      go_wp2
      go_ret
      exact ⟨rfl, hB⟩
  · have h : R = false := by rw [HR.out]; unfold rightB; simp; omega
    clear HR
    subst h
    go_enter Try.func16, Try.ntmps16
    go_wp2
    go_ret
    exact ⟨rfl, hB⟩

set_option maxHeartbeats 2000000 in
theorem keeps_any (w : World) (l e g t : Int) (R : Bool) (wt : (Lit.int .i64 t).wf = true) (hr : R = keepsB l e g t) :
    Calls Try.prog 17 #[.agg #[.int .i64 l, .int .i64 e], .int .i64 g, .int .i64 t] w fun x w' => x = .returned (.bool R) ∧ Below w.heap.size w w' := by
  have HR := Lib.hid hr
  clear hr
  have hB := below_alloc w (.cells #[.int .i64 l, .int .i64 e] 32)
  have c0 := (Blk.new w [.int .i64 l, .int .i64 e] 32).cell (i := 0) rfl
  have c1 := (Blk.new w [.int .i64 l, .int .i64 e] 32).cell (i := 1) rfl
  have htb := bounds_i64 wt
  by_cases h0 : rightB l e = true
  · have hp := rightB_iff.1 h0
    have HRT := Lib.hid h0.symm
    clear h0
    by_cases h1 : 0 ≤ g
    · by_cases h2 : g ≤ t
      · by_cases h3 : t - g < l
        · have h : R = true := by rw [HR.out]; unfold keepsB; rw [← HRT.out]; simp [h1, h2, h3]
          clear HR
          subst h
          go_enter Try.func17, Try.ntmps17
          go_wp2_with fail
          refine (right_any _ _ _ _ HRT.out).mono ?_
          rintro x w1 ⟨rfl, hb1⟩
          have hB1 := hB.trans (hb1.mono (by simp))
          have d0 := (hb1.cell (p := ⟨w.heap.size, 0, none⟩) (by simp)).trans c0
          have d1 := (hb1.cell (p := ⟨w.heap.size, 1, none⟩) (by simp)).trans c1
          clear hB hb1 c0 c1
          go_wp2
          go_ret
          exact ⟨rfl, hB1⟩
        · have h3d : decide (t - g < l) = false := by simpa using h3
          by_cases h4 : 0 < e
          · by_cases h5 : g % e = 0
            · have h : R = true := by rw [HR.out]; unfold keepsB; rw [← HRT.out]; simp [h1, h2, h4, h5]
              clear HR
              subst h
              have h5' : (g % e == 0) = true := by simp [h5]
              go_enter Try.func17, Try.ntmps17
              go_wp2_with fail
              refine (right_any _ _ _ _ HRT.out).mono ?_
              rintro x w1 ⟨rfl, hb1⟩
              have hB1 := hB.trans (hb1.mono (by simp))
              have d0 := (hb1.cell (p := ⟨w.heap.size, 0, none⟩) (by simp)).trans c0
              have d1 := (hb1.cell (p := ⟨w.heap.size, 1, none⟩) (by simp)).trans c1
              clear hB hb1 c0 c1
              go_wp2
              go_ret
              exact ⟨rfl, hB1⟩
            · have h : R = false := by rw [HR.out]; unfold keepsB; rw [← HRT.out]; simp [h3, h5]
              clear HR
              subst h
              have h5' : (g % e == 0) = false := by simp [h5]
              go_enter Try.func17, Try.ntmps17
              go_wp2_with fail
              refine (right_any _ _ _ _ HRT.out).mono ?_
              rintro x w1 ⟨rfl, hb1⟩
              have hB1 := hB.trans (hb1.mono (by simp))
              have d0 := (hb1.cell (p := ⟨w.heap.size, 0, none⟩) (by simp)).trans c0
              have d1 := (hb1.cell (p := ⟨w.heap.size, 1, none⟩) (by simp)).trans c1
              clear hB hb1 c0 c1
              go_wp2
              go_ret
              exact ⟨rfl, hB1⟩
          · have h : R = false := by rw [HR.out]; unfold keepsB; simp [h3, h4]
            clear HR
            subst h
            go_enter Try.func17, Try.ntmps17
            go_wp2_with fail
            refine (right_any _ _ _ _ HRT.out).mono ?_
            rintro x w1 ⟨rfl, hb1⟩
            have hB1 := hB.trans (hb1.mono (by simp))
            have d0 := (hb1.cell (p := ⟨w.heap.size, 0, none⟩) (by simp)).trans c0
            have d1 := (hb1.cell (p := ⟨w.heap.size, 1, none⟩) (by simp)).trans c1
            clear hB hb1 c0 c1
            go_wp2
            go_ret
            exact ⟨rfl, hB1⟩
      · have h : R = false := by rw [HR.out]; unfold keepsB; simp [h2]
        clear HR
        subst h
        go_enter Try.func17, Try.ntmps17
        go_wp2_with fail
        refine (right_any _ _ _ _ HRT.out).mono ?_
        rintro x w1 ⟨rfl, hb1⟩
        have hB1 := hB.trans (hb1.mono (by simp))
        have d0 := (hb1.cell (p := ⟨w.heap.size, 0, none⟩) (by simp)).trans c0
        have d1 := (hb1.cell (p := ⟨w.heap.size, 1, none⟩) (by simp)).trans c1
        clear hB hb1 c0 c1
        go_wp2
        go_ret
        exact ⟨rfl, hB1⟩
    · have h : R = false := by rw [HR.out]; unfold keepsB; simp [h1]
      clear HR
      subst h
      go_enter Try.func17, Try.ntmps17
      go_wp2_with fail
      refine (right_any _ _ _ _ HRT.out).mono ?_
      rintro x w1 ⟨rfl, hb1⟩
      have hB1 := hB.trans (hb1.mono (by simp))
      have d0 := (hb1.cell (p := ⟨w.heap.size, 0, none⟩) (by simp)).trans c0
      have d1 := (hb1.cell (p := ⟨w.heap.size, 1, none⟩) (by simp)).trans c1
      clear hB hb1 c0 c1
      go_wp2
      go_ret
      exact ⟨rfl, hB1⟩
  · have h0' : rightB l e = false := by simpa using h0
    have HRT := Lib.hid h0'.symm
    clear h0
    have h : R = false := by rw [HR.out]; unfold keepsB; simp [h0']
    clear HR h0'
    subst h
    go_enter Try.func17, Try.ntmps17
    go_wp2_with fail
    refine (right_any _ _ _ _ HRT.out).mono ?_
    rintro x w1 ⟨rfl, hb1⟩
    have hB1 := hB.trans (hb1.mono (by simp))
    have d0 := (hb1.cell (p := ⟨w.heap.size, 0, none⟩) (by simp)).trans c0
    have d1 := (hb1.cell (p := ⟨w.heap.size, 1, none⟩) (by simp)).trans c1
    clear hB hb1 c0 c1
    go_wp2
    go_ret
    exact ⟨rfl, hB1⟩

set_option maxHeartbeats 2000000 in
theorem refKeeps_any (w : World) (l e g t : Int) (R : Bool) (wt : (Lit.int .i64 t).wf = true) (hr : R = keepsB l e g t) :
    Calls Try.prog 18 #[.agg #[.int .i64 l, .int .i64 e], .int .i64 g, .int .i64 t] w fun x w' => x = .returned (.bool R) ∧ Below w.heap.size w w' := by
  have HR := Lib.hid hr
  clear hr
  have hB := below_alloc w (.cells #[.int .i64 l, .int .i64 e] 32)
  have c0 := (Blk.new w [.int .i64 l, .int .i64 e] 32).cell (i := 0) rfl
  have c1 := (Blk.new w [.int .i64 l, .int .i64 e] 32).cell (i := 1) rfl
  have htb := bounds_i64 wt
  by_cases h0 : rightB l e = true
  · have hp := rightB_iff.1 h0
    have HRT := Lib.hid h0.symm
    clear h0
    by_cases h1 : 0 ≤ g
    · by_cases h2 : g ≤ t
      · by_cases h3 : t - g < l
        · have h : R = true := by rw [HR.out]; unfold keepsB; rw [← HRT.out]; simp [h1, h2, h3]
          clear HR
          subst h
          go_enter Try.func18, Try.ntmps18
          go_wp2_with fail
          refine (refRight_any _ _ _ _ HRT.out).mono ?_
          rintro x w1 ⟨rfl, hb1⟩
          have hB1 := hB.trans (hb1.mono (by simp))
          have d0 := (hb1.cell (p := ⟨w.heap.size, 0, none⟩) (by simp)).trans c0
          have d1 := (hb1.cell (p := ⟨w.heap.size, 1, none⟩) (by simp)).trans c1
          clear hB hb1 c0 c1
          go_wp2
          go_ret
          exact ⟨rfl, hB1⟩
        · have h3d : decide (t - g < l) = false := by simpa using h3
          by_cases h4 : 0 < e
          · by_cases h5 : g % e = 0
            · have h : R = true := by rw [HR.out]; unfold keepsB; rw [← HRT.out]; simp [h1, h2, h4, h5]
              clear HR
              subst h
              have h5' : (g % e == 0) = true := by simp [h5]
              go_enter Try.func18, Try.ntmps18
              go_wp2_with fail
              refine (refRight_any _ _ _ _ HRT.out).mono ?_
              rintro x w1 ⟨rfl, hb1⟩
              have hB1 := hB.trans (hb1.mono (by simp))
              have d0 := (hb1.cell (p := ⟨w.heap.size, 0, none⟩) (by simp)).trans c0
              have d1 := (hb1.cell (p := ⟨w.heap.size, 1, none⟩) (by simp)).trans c1
              clear hB hb1 c0 c1
              go_wp2
              go_ret
              exact ⟨rfl, hB1⟩
            · have h : R = false := by rw [HR.out]; unfold keepsB; rw [← HRT.out]; simp [h3, h5]
              clear HR
              subst h
              have h5' : (g % e == 0) = false := by simp [h5]
              go_enter Try.func18, Try.ntmps18
              go_wp2_with fail
              refine (refRight_any _ _ _ _ HRT.out).mono ?_
              rintro x w1 ⟨rfl, hb1⟩
              have hB1 := hB.trans (hb1.mono (by simp))
              have d0 := (hb1.cell (p := ⟨w.heap.size, 0, none⟩) (by simp)).trans c0
              have d1 := (hb1.cell (p := ⟨w.heap.size, 1, none⟩) (by simp)).trans c1
              clear hB hb1 c0 c1
              go_wp2
              go_ret
              exact ⟨rfl, hB1⟩
          · have h : R = false := by rw [HR.out]; unfold keepsB; simp [h3, h4]
            clear HR
            subst h
            go_enter Try.func18, Try.ntmps18
            go_wp2_with fail
            refine (refRight_any _ _ _ _ HRT.out).mono ?_
            rintro x w1 ⟨rfl, hb1⟩
            have hB1 := hB.trans (hb1.mono (by simp))
            have d0 := (hb1.cell (p := ⟨w.heap.size, 0, none⟩) (by simp)).trans c0
            have d1 := (hb1.cell (p := ⟨w.heap.size, 1, none⟩) (by simp)).trans c1
            clear hB hb1 c0 c1
            go_wp2
            go_ret
            exact ⟨rfl, hB1⟩
      · have h : R = false := by rw [HR.out]; unfold keepsB; simp [h2]
        clear HR
        subst h
        go_enter Try.func18, Try.ntmps18
        go_wp2_with fail
        refine (refRight_any _ _ _ _ HRT.out).mono ?_
        rintro x w1 ⟨rfl, hb1⟩
        have hB1 := hB.trans (hb1.mono (by simp))
        have d0 := (hb1.cell (p := ⟨w.heap.size, 0, none⟩) (by simp)).trans c0
        have d1 := (hb1.cell (p := ⟨w.heap.size, 1, none⟩) (by simp)).trans c1
        clear hB hb1 c0 c1
        go_wp2
        go_ret
        exact ⟨rfl, hB1⟩
    · have h : R = false := by rw [HR.out]; unfold keepsB; simp [h1]
      clear HR
      subst h
      go_enter Try.func18, Try.ntmps18
      go_wp2_with fail
      refine (refRight_any _ _ _ _ HRT.out).mono ?_
      rintro x w1 ⟨rfl, hb1⟩
      have hB1 := hB.trans (hb1.mono (by simp))
      have d0 := (hb1.cell (p := ⟨w.heap.size, 0, none⟩) (by simp)).trans c0
      have d1 := (hb1.cell (p := ⟨w.heap.size, 1, none⟩) (by simp)).trans c1
      clear hB hb1 c0 c1
      go_wp2
      go_ret
      exact ⟨rfl, hB1⟩
  · have h0' : rightB l e = false := by simpa using h0
    have HRT := Lib.hid h0'.symm
    clear h0
    have h : R = false := by rw [HR.out]; unfold keepsB; simp [h0']
    clear HR h0'
    subst h
    go_enter Try.func18, Try.ntmps18
    go_wp2_with fail
    refine (refRight_any _ _ _ _ HRT.out).mono ?_
    rintro x w1 ⟨rfl, hb1⟩
    have hB1 := hB.trans (hb1.mono (by simp))
    have d0 := (hb1.cell (p := ⟨w.heap.size, 0, none⟩) (by simp)).trans c0
    have d1 := (hb1.cell (p := ⟨w.heap.size, 1, none⟩) (by simp)).trans c1
    clear hB hb1 c0 c1
    go_wp2
    go_ret
    exact ⟨rfl, hB1⟩

set_option maxHeartbeats 1000000 in
theorem floor_any (w : World) (l e t : Int) (R : Int) (wt : (Lit.int .i64 t).wf = true) (hr : R = floorI l e t) :
    Calls Try.prog 19 #[.agg #[.int .i64 l, .int .i64 e], .int .i64 t] w fun x w' => x = .returned (.int .i64 R) ∧ Below w.heap.size w w' := by
  have HR := Lib.hid hr
  clear hr
  have hB := below_alloc w (.cells #[.int .i64 l, .int .i64 e] 32)
  have c0 := (Blk.new w [.int .i64 l, .int .i64 e] 32).cell (i := 0) rfl
  have c1 := (Blk.new w [.int .i64 l, .int .i64 e] 32).cell (i := 1) rfl
  have htb := bounds_i64 wt
  by_cases h0 : rightB l e = true
  · have hp := rightB_iff.1 h0
    have HRT := Lib.hid h0.symm
    by_cases h1 : l ≤ t
    · have h : R = t - l + 1 := by rw [HR.out, floorI, if_pos ⟨h0, h1⟩]
      clear HR h0
      subst h
      go_enter Try.func19, Try.ntmps19
      go_wp2_with fail
      refine (right_any _ _ _ _ HRT.out).mono ?_
      rintro x w1 ⟨rfl, hb1⟩
      have hB1 := hB.trans (hb1.mono (by simp))
      have d0 := (hb1.cell (p := ⟨w.heap.size, 0, none⟩) (by simp)).trans c0
      have d1 := (hb1.cell (p := ⟨w.heap.size, 1, none⟩) (by simp)).trans c1
      clear hB hb1 c0 c1
      go_wp2
      go_ret
      exact ⟨rfl, hB1⟩
    · have h : R = 0 := by rw [HR.out, floorI, if_neg (fun h => h1 h.2)]
      clear HR h0
      subst h
      go_enter Try.func19, Try.ntmps19
      go_wp2_with fail
      refine (right_any _ _ _ _ HRT.out).mono ?_
      rintro x w1 ⟨rfl, hb1⟩
      have hB1 := hB.trans (hb1.mono (by simp))
      have d0 := (hb1.cell (p := ⟨w.heap.size, 0, none⟩) (by simp)).trans c0
      have d1 := (hb1.cell (p := ⟨w.heap.size, 1, none⟩) (by simp)).trans c1
      clear hB hb1 c0 c1
      go_wp2
      go_ret
      exact ⟨rfl, hB1⟩
  · have h0' : rightB l e = false := by simpa using h0
    have HRT := Lib.hid h0'.symm
    have h : R = 0 := by rw [HR.out, floorI, if_neg (fun h => h0 h.1)]
    clear HR h0 h0'
    subst h
    go_enter Try.func19, Try.ntmps19
    go_wp2_with fail
    refine (right_any _ _ _ _ HRT.out).mono ?_
    rintro x w1 ⟨rfl, hb1⟩
    have hB1 := hB.trans (hb1.mono (by simp))
    clear hB hb1 c0 c1
    go_wp2
    go_ret
    exact ⟨rfl, hB1⟩

theorem ints_eq (a b : Value) (n : Nat) (g : Nat → Int) (w : World) (hn : n ≤ 1000000000) (ha : RowV w a n 1 (fun j => .int .i64 (g j))) (hb : RowV w b n 1 (fun j => .int .i64 (g j))) :
    Calls Try.prog 13 #[a, b] w fun e w' => e = .returned (.bool true) ∧ ∃ m, w' = w.drewN m := by
  rcases ha with ⟨rfl, ao, cap, rfl⟩ | ⟨b1, o1, c1, rfl, h1⟩
  · rcases hb with ⟨_, bo, cap2, rfl⟩ | ⟨b2, o2, c2, rfl, h2⟩
    all_goals
      go_enter Try.func13, Try.ntmps13
      go_wp2
      refine wp_loop_rounds 1 ?_
      rw [rounds_succ]
      go_wp2
      go_ret
      exact ⟨rfl, 0, rfl⟩
  · rcases hb with ⟨rfl, bo, cap2, rfl⟩ | ⟨b2, o2, c2, rfl, h2⟩
    · go_enter Try.func13, Try.ntmps13
      go_wp2
      refine wp_loop_rounds 1 ?_
      rw [rounds_succ]
      go_wp2
      go_ret
      exact ⟨rfl, 0, rfl⟩
    · rw [Nat.mul_one] at h1 h2
      have H1 := Lib.hid h1
      have H2 := Lib.hid h2
      clear h1 h2
      go_enter Try.func13, Try.ntmps13
      go_wp2
      go_loopw [5] (fun i wr => ∃ k m : Nat, k ≤ n ∧ i = .int .i64 k ∧ wr = w.drewN m) (fun i _ => n - (intOf i).toNat)
      case atStart => exact ⟨0, 0, by omega, rfl, rfl⟩
      case round =>
        obtain ⟨k, m, hk, rfl, rfl⟩ := hrel
        by_cases hlt : k < n
        · have x1 := H1.out k hlt
          have x2 := H2.out k hlt
          have i1 : (k : Int) < (n : Int) := by omega
          go_wp2
          go_quiet (fail)
          go_wp2
          go_roundw
          case rel => exact ⟨k + 1, _, by omega, by go_num, rfl⟩
          case measure => simp [intOf]; omega
        · go_wp2
          go_ret
          exact ⟨rfl, m, rfl⟩

end Go.Proofs.Ytoibbeiieelccaa
