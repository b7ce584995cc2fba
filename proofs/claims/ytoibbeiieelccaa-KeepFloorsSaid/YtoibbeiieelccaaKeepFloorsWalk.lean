/- KeepFloors: the walk. No conditions. -/
import Derived.Test.YtoibbeiieelccaaKeepPoliciesWalk
namespace Go.Proofs.Ytoibbeiieelccaa
open Go.RowKit
set_option linter.unusedVariables false

set_option maxRecDepth 100000 in
set_option maxHeartbeats 4000000 in
theorem keepFloors_walk (w : World) (c : Array Value) (oc : Kd.ok w (.agg [.int .i64, .int .i64]) c.toList) (t : Int) (wt : (Lit.int .i64 t).wf = true) (g : Int) (wg : (Lit.int .i64 g).wf = true) :
    Calls Try.prog 5 #[.agg c, .int .i64 t, .int .i64 g] w fun e w' => e = .returned (.bool true) ∧ Below w.heap.size w w' := by
  obtain ⟨l, e, rfl, hl, he⟩ := pol_of oc
  have hB : Below w.heap.size w (w.alloc (.cells #[.int .i64 l, .int .i64 e] 32)) := below_alloc w _
  have hk1 := Blk.new w [.int .i64 l, .int .i64 e] 32
  have c0 : (w.alloc (.cells #[.int .i64 l, .int .i64 e] 32)).cell? ⟨w.heap.size, 0, none⟩ = some (.int .i64 l) := hk1.cell (i := 0) rfl
  have c1 : (w.alloc (.cells #[.int .i64 l, .int .i64 e] 32)).cell? ⟨w.heap.size, 1, none⟩ = some (.int .i64 e) := hk1.cell (i := 1) rfl
  obtain ⟨F, hF⟩ : ∃ F, F = floorI l e t := ⟨_, rfl⟩
  have HF := Lib.hid hF
  have HWT := Lib.hid wt
  have htb := bounds_i64 wt
  clear hk1 oc hl he wg wt
  by_cases h0 : rightB l e = true
  · have hp := rightB_iff.1 h0
    have HR := Lib.hid h0.symm
    by_cases ht : t < 0
    · have hF0 : F = 0 := by rw [hF, floorI, if_neg (by omega)]
      subst hF0
      clear hF h0
      go_enter Try.func5, Try.ntmps5
      go_wp2_with fail
      refine (floor_any _ _ _ _ _ HWT.out HF.out).mono ?_
      rintro x w1 ⟨rfl, hb1⟩
      have hb := below_via hB hb1
      have d0 := (hb1.cell (p := ⟨w.heap.size, 0, none⟩) (by simp)).trans c0
      have d1 := (hb1.cell (p := ⟨w.heap.size, 1, none⟩) (by simp)).trans c1
      have hs : w.heap.size < w1.heap.size := Nat.lt_of_lt_of_le (by simp) hb1.size
      clear hb1 hB c0 c1
      go_wp2_with fail
      refine (refRight_any _ _ _ _ HR.out).mono ?_
      rintro x w2 ⟨rfl, hb2⟩
      have hbb := below_via hb hb2
      have e0 := (hb2.cell (p := ⟨w.heap.size, 0, none⟩) hs).trans d0
      have e1 := (hb2.cell (p := ⟨w.heap.size, 1, none⟩) hs).trans d1
      have hs2 := Nat.lt_of_lt_of_le hs hb2.size
      clear hb2 hb d0 d1 hs
      have HB := hbb
      go_wp2_with fail
      refine (awake_any _).mono ?_
      rintro x w9 ⟨rfl, hb9⟩
      have hb10 := below_via HB hb9
      go_wp2
      go_ret
      exact ⟨rfl, hb10⟩
    · have ht0 : 0 ≤ t := by omega
      by_cases hlt : l ≤ t
      · have hF1 : F = t - l + 1 := by rw [hF, floorI, if_pos ⟨h0, hlt⟩]
        have b1 : 0 ≤ F := by omega
        have b2 : F ≤ t := by omega
        have b3 : t - F < l := by omega
        have b4 : t - F = l - 1 := by omega
        have b5 : 0 < F := by omega
        have HF1 := Lib.hid hF1
        clear hF1
        by_cases he0 : 0 < e
        · by_cases hg1 : F ≤ g
          · by_cases hg2 : g ≤ t
            · have hkg : true = keepsB l e g t := by rw [keepsB, ← HR.out]; simp; omega
              clear hF h0
              go_enter Try.func5, Try.ntmps5
              go_wp2_with fail
              refine (floor_any _ _ _ _ _ HWT.out HF.out).mono ?_
              rintro x w1 ⟨rfl, hb1⟩
              have hb := below_via hB hb1
              have d0 := (hb1.cell (p := ⟨w.heap.size, 0, none⟩) (by simp)).trans c0
              have d1 := (hb1.cell (p := ⟨w.heap.size, 1, none⟩) (by simp)).trans c1
              have hs : w.heap.size < w1.heap.size := Nat.lt_of_lt_of_le (by simp) hb1.size
              clear hb1 hB c0 c1
              go_wp2_with fail
              refine (refRight_any _ _ _ _ HR.out).mono ?_
              rintro x w2 ⟨rfl, hb2⟩
              have hbb := below_via hb hb2
              have e0 := (hb2.cell (p := ⟨w.heap.size, 0, none⟩) hs).trans d0
              have e1 := (hb2.cell (p := ⟨w.heap.size, 1, none⟩) hs).trans d1
              have hs2 := Nat.lt_of_lt_of_le hs hb2.size
              clear hb2 hb d0 d1 hs
              have HK := Lib.hid hkg
              clear hkg
              go_wp2_with fail
              refine (keeps_any _ _ _ _ _ true HWT.out HK.out).mono ?_
              rintro x w3 ⟨rfl, hb3⟩
              have hb4 := below_via hbb hb3
              have f0 := (hb3.cell (p := ⟨w.heap.size, 0, none⟩) hs2).trans e0
              have f1 := (hb3.cell (p := ⟨w.heap.size, 1, none⟩) hs2).trans e1
              clear hb3 hbb e0 e1
              have HB := hb4
              go_wp2_with fail
              refine (awake_any _).mono ?_
              rintro x w9 ⟨rfl, hb9⟩
              have hb10 := below_via HB hb9
              go_wp2
              go_ret
              exact ⟨rfl, hb10⟩
            · have hkg : True := trivial
              clear hF h0
              go_enter Try.func5, Try.ntmps5
              go_wp2_with fail
              refine (floor_any _ _ _ _ _ HWT.out HF.out).mono ?_
              rintro x w1 ⟨rfl, hb1⟩
              have hb := below_via hB hb1
              have d0 := (hb1.cell (p := ⟨w.heap.size, 0, none⟩) (by simp)).trans c0
              have d1 := (hb1.cell (p := ⟨w.heap.size, 1, none⟩) (by simp)).trans c1
              have hs : w.heap.size < w1.heap.size := Nat.lt_of_lt_of_le (by simp) hb1.size
              clear hb1 hB c0 c1
              go_wp2_with fail
              refine (refRight_any _ _ _ _ HR.out).mono ?_
              rintro x w2 ⟨rfl, hb2⟩
              have hbb := below_via hb hb2
              have e0 := (hb2.cell (p := ⟨w.heap.size, 0, none⟩) hs).trans d0
              have e1 := (hb2.cell (p := ⟨w.heap.size, 1, none⟩) hs).trans d1
              have hs2 := Nat.lt_of_lt_of_le hs hb2.size
              clear hb2 hb d0 d1 hs
              clear hkg
              have HB := hbb
              go_wp2_with fail
              refine (awake_any _).mono ?_
              rintro x w9 ⟨rfl, hb9⟩
              have hb10 := below_via HB hb9
              go_wp2
              go_ret
              exact ⟨rfl, hb10⟩
          · have hkg : True := trivial
            clear hF h0
            go_enter Try.func5, Try.ntmps5
            go_wp2_with fail
            refine (floor_any _ _ _ _ _ HWT.out HF.out).mono ?_
            rintro x w1 ⟨rfl, hb1⟩
            have hb := below_via hB hb1
            have d0 := (hb1.cell (p := ⟨w.heap.size, 0, none⟩) (by simp)).trans c0
            have d1 := (hb1.cell (p := ⟨w.heap.size, 1, none⟩) (by simp)).trans c1
            have hs : w.heap.size < w1.heap.size := Nat.lt_of_lt_of_le (by simp) hb1.size
            clear hb1 hB c0 c1
            go_wp2_with fail
            refine (refRight_any _ _ _ _ HR.out).mono ?_
            rintro x w2 ⟨rfl, hb2⟩
            have hbb := below_via hb hb2
            have e0 := (hb2.cell (p := ⟨w.heap.size, 0, none⟩) hs).trans d0
            have e1 := (hb2.cell (p := ⟨w.heap.size, 1, none⟩) hs).trans d1
            have hs2 := Nat.lt_of_lt_of_le hs hb2.size
            clear hb2 hb d0 d1 hs
            clear hkg
            have HB := hbb
            go_wp2_with fail
            refine (awake_any _).mono ?_
            rintro x w9 ⟨rfl, hb9⟩
            have hb10 := below_via HB hb9
            go_wp2
            go_ret
            exact ⟨rfl, hb10⟩
        · have hk2 : false = keepsB l e (F - 1) t := by
            have h3 : ¬ (t - (F - 1) < l) := by omega
            rw [keepsB, ← HR.out]; simp [h3, he0]
          have HK2 := Lib.hid hk2
          have hed : decide (0 < e) = false := by simpa using he0
          clear hk2
          by_cases hg1 : F ≤ g
          · by_cases hg2 : g ≤ t
            · have hkg : true = keepsB l e g t := by rw [keepsB, ← HR.out]; simp; omega
              clear hF h0
              go_enter Try.func5, Try.ntmps5
              go_wp2_with fail
              refine (floor_any _ _ _ _ _ HWT.out HF.out).mono ?_
              rintro x w1 ⟨rfl, hb1⟩
              have hb := below_via hB hb1
              have d0 := (hb1.cell (p := ⟨w.heap.size, 0, none⟩) (by simp)).trans c0
              have d1 := (hb1.cell (p := ⟨w.heap.size, 1, none⟩) (by simp)).trans c1
              have hs : w.heap.size < w1.heap.size := Nat.lt_of_lt_of_le (by simp) hb1.size
              clear hb1 hB c0 c1
              go_wp2_with fail
              refine (refRight_any _ _ _ _ HR.out).mono ?_
              rintro x w2 ⟨rfl, hb2⟩
              have hbb := below_via hb hb2
              have e0 := (hb2.cell (p := ⟨w.heap.size, 0, none⟩) hs).trans d0
              have e1 := (hb2.cell (p := ⟨w.heap.size, 1, none⟩) hs).trans d1
              have hs2 := Nat.lt_of_lt_of_le hs hb2.size
              clear hb2 hb d0 d1 hs
              have HK := Lib.hid hkg
              clear hkg
              go_wp2_with fail
              refine (keeps_any _ _ _ _ _ true HWT.out HK.out).mono ?_
              rintro x w3 ⟨rfl, hb3⟩
              have hb4 := below_via hbb hb3
              have f0 := (hb3.cell (p := ⟨w.heap.size, 0, none⟩) hs2).trans e0
              have f1 := (hb3.cell (p := ⟨w.heap.size, 1, none⟩) hs2).trans e1
              clear hb3 hbb e0 e1
              go_wp2_with fail
              refine (keeps_any _ _ _ _ _ false HWT.out HK2.out).mono ?_
              rintro x w5 ⟨rfl, hb5⟩
              have HB := below_via hb4 hb5
              go_wp2_with fail
              refine (awake_any _).mono ?_
              rintro x w9 ⟨rfl, hb9⟩
              have hb10 := below_via HB hb9
              go_wp2
              go_ret
              exact ⟨rfl, hb10⟩
            · have hkg : True := trivial
              clear hF h0
              go_enter Try.func5, Try.ntmps5
              go_wp2_with fail
              refine (floor_any _ _ _ _ _ HWT.out HF.out).mono ?_
              rintro x w1 ⟨rfl, hb1⟩
              have hb := below_via hB hb1
              have d0 := (hb1.cell (p := ⟨w.heap.size, 0, none⟩) (by simp)).trans c0
              have d1 := (hb1.cell (p := ⟨w.heap.size, 1, none⟩) (by simp)).trans c1
              have hs : w.heap.size < w1.heap.size := Nat.lt_of_lt_of_le (by simp) hb1.size
              clear hb1 hB c0 c1
              go_wp2_with fail
              refine (refRight_any _ _ _ _ HR.out).mono ?_
              rintro x w2 ⟨rfl, hb2⟩
              have hbb := below_via hb hb2
              have e0 := (hb2.cell (p := ⟨w.heap.size, 0, none⟩) hs).trans d0
              have e1 := (hb2.cell (p := ⟨w.heap.size, 1, none⟩) hs).trans d1
              have hs2 := Nat.lt_of_lt_of_le hs hb2.size
              clear hb2 hb d0 d1 hs
              clear hkg
              go_wp2_with fail
              refine (keeps_any _ _ _ _ _ false HWT.out HK2.out).mono ?_
              rintro x w5 ⟨rfl, hb5⟩
              have HB := below_via hbb hb5
              go_wp2_with fail
              refine (awake_any _).mono ?_
              rintro x w9 ⟨rfl, hb9⟩
              have hb10 := below_via HB hb9
              go_wp2
              go_ret
              exact ⟨rfl, hb10⟩
          · have hkg : True := trivial
            clear hF h0
            go_enter Try.func5, Try.ntmps5
            go_wp2_with fail
            refine (floor_any _ _ _ _ _ HWT.out HF.out).mono ?_
            rintro x w1 ⟨rfl, hb1⟩
            have hb := below_via hB hb1
            have d0 := (hb1.cell (p := ⟨w.heap.size, 0, none⟩) (by simp)).trans c0
            have d1 := (hb1.cell (p := ⟨w.heap.size, 1, none⟩) (by simp)).trans c1
            have hs : w.heap.size < w1.heap.size := Nat.lt_of_lt_of_le (by simp) hb1.size
            clear hb1 hB c0 c1
            go_wp2_with fail
            refine (refRight_any _ _ _ _ HR.out).mono ?_
            rintro x w2 ⟨rfl, hb2⟩
            have hbb := below_via hb hb2
            have e0 := (hb2.cell (p := ⟨w.heap.size, 0, none⟩) hs).trans d0
            have e1 := (hb2.cell (p := ⟨w.heap.size, 1, none⟩) hs).trans d1
            have hs2 := Nat.lt_of_lt_of_le hs hb2.size
            clear hb2 hb d0 d1 hs
            clear hkg
            go_wp2_with fail
            refine (keeps_any _ _ _ _ _ false HWT.out HK2.out).mono ?_
            rintro x w5 ⟨rfl, hb5⟩
            have HB := below_via hbb hb5
            go_wp2_with fail
            refine (awake_any _).mono ?_
            rintro x w9 ⟨rfl, hb9⟩
            have hb10 := below_via HB hb9
            go_wp2
            go_ret
            exact ⟨rfl, hb10⟩
      · have hF1 : F = 0 := by rw [hF, floorI, if_neg (fun h => hlt h.2)]
        have b3 : t - F < l := by omega
        have b2 : F ≤ t := by omega
        subst hF1
        by_cases hg1 : 0 ≤ g
        · by_cases hg2 : g ≤ t
          · have hkg : true = keepsB l e g t := by rw [keepsB, ← HR.out]; simp; omega
            clear hF h0
            go_enter Try.func5, Try.ntmps5
            go_wp2_with fail
            refine (floor_any _ _ _ _ _ HWT.out HF.out).mono ?_
            rintro x w1 ⟨rfl, hb1⟩
            have hb := below_via hB hb1
            have d0 := (hb1.cell (p := ⟨w.heap.size, 0, none⟩) (by simp)).trans c0
            have d1 := (hb1.cell (p := ⟨w.heap.size, 1, none⟩) (by simp)).trans c1
            have hs : w.heap.size < w1.heap.size := Nat.lt_of_lt_of_le (by simp) hb1.size
            clear hb1 hB c0 c1
            go_wp2_with fail
            refine (refRight_any _ _ _ _ HR.out).mono ?_
            rintro x w2 ⟨rfl, hb2⟩
            have hbb := below_via hb hb2
            have e0 := (hb2.cell (p := ⟨w.heap.size, 0, none⟩) hs).trans d0
            have e1 := (hb2.cell (p := ⟨w.heap.size, 1, none⟩) hs).trans d1
            have hs2 := Nat.lt_of_lt_of_le hs hb2.size
            clear hb2 hb d0 d1 hs
            have HK := Lib.hid hkg
            clear hkg
            go_wp2_with fail
            refine (keeps_any _ _ _ _ _ true HWT.out HK.out).mono ?_
            rintro x w3 ⟨rfl, hb3⟩
            have hb4 := below_via hbb hb3
            have f0 := (hb3.cell (p := ⟨w.heap.size, 0, none⟩) hs2).trans e0
            have f1 := (hb3.cell (p := ⟨w.heap.size, 1, none⟩) hs2).trans e1
            clear hb3 hbb e0 e1
            have HB := hb4
            go_wp2_with fail
            refine (awake_any _).mono ?_
            rintro x w9 ⟨rfl, hb9⟩
            have hb10 := below_via HB hb9
            go_wp2
            go_ret
            exact ⟨rfl, hb10⟩
          · have hkg : True := trivial
            clear hF h0
            go_enter Try.func5, Try.ntmps5
            go_wp2_with fail
            refine (floor_any _ _ _ _ _ HWT.out HF.out).mono ?_
            rintro x w1 ⟨rfl, hb1⟩
            have hb := below_via hB hb1
            have d0 := (hb1.cell (p := ⟨w.heap.size, 0, none⟩) (by simp)).trans c0
            have d1 := (hb1.cell (p := ⟨w.heap.size, 1, none⟩) (by simp)).trans c1
            have hs : w.heap.size < w1.heap.size := Nat.lt_of_lt_of_le (by simp) hb1.size
            clear hb1 hB c0 c1
            go_wp2_with fail
            refine (refRight_any _ _ _ _ HR.out).mono ?_
            rintro x w2 ⟨rfl, hb2⟩
            have hbb := below_via hb hb2
            have e0 := (hb2.cell (p := ⟨w.heap.size, 0, none⟩) hs).trans d0
            have e1 := (hb2.cell (p := ⟨w.heap.size, 1, none⟩) hs).trans d1
            have hs2 := Nat.lt_of_lt_of_le hs hb2.size
            clear hb2 hb d0 d1 hs
            clear hkg
            have HB := hbb
            go_wp2_with fail
            refine (awake_any _).mono ?_
            rintro x w9 ⟨rfl, hb9⟩
            have hb10 := below_via HB hb9
            go_wp2
            go_ret
            exact ⟨rfl, hb10⟩
        · have hkg : True := trivial
          clear hF h0
          go_enter Try.func5, Try.ntmps5
          go_wp2_with fail
          refine (floor_any _ _ _ _ _ HWT.out HF.out).mono ?_
          rintro x w1 ⟨rfl, hb1⟩
          have hb := below_via hB hb1
          have d0 := (hb1.cell (p := ⟨w.heap.size, 0, none⟩) (by simp)).trans c0
          have d1 := (hb1.cell (p := ⟨w.heap.size, 1, none⟩) (by simp)).trans c1
          have hs : w.heap.size < w1.heap.size := Nat.lt_of_lt_of_le (by simp) hb1.size
          clear hb1 hB c0 c1
          go_wp2_with fail
          refine (refRight_any _ _ _ _ HR.out).mono ?_
          rintro x w2 ⟨rfl, hb2⟩
          have hbb := below_via hb hb2
          have e0 := (hb2.cell (p := ⟨w.heap.size, 0, none⟩) hs).trans d0
          have e1 := (hb2.cell (p := ⟨w.heap.size, 1, none⟩) hs).trans d1
          have hs2 := Nat.lt_of_lt_of_le hs hb2.size
          clear hb2 hb d0 d1 hs
          clear hkg
          have HB := hbb
          go_wp2_with fail
          refine (awake_any _).mono ?_
          rintro x w9 ⟨rfl, hb9⟩
          have hb10 := below_via HB hb9
          go_wp2
          go_ret
          exact ⟨rfl, hb10⟩
  · have h0' : rightB l e = false := by simpa using h0
    have HR := Lib.hid h0'.symm
    have hF0 : F = 0 := by rw [hF, floorI, if_neg (fun h => h0 h.1)]
    subst hF0
    clear hF h0 h0'
    go_enter Try.func5, Try.ntmps5
    go_wp2_with fail
    refine (floor_any _ _ _ _ _ HWT.out HF.out).mono ?_
    rintro x w1 ⟨rfl, hb1⟩
    have hb := below_via hB hb1
    have d0 := (hb1.cell (p := ⟨w.heap.size, 0, none⟩) (by simp)).trans c0
    have d1 := (hb1.cell (p := ⟨w.heap.size, 1, none⟩) (by simp)).trans c1
    have hs : w.heap.size < w1.heap.size := Nat.lt_of_lt_of_le (by simp) hb1.size
    clear hb1 hB c0 c1
    go_wp2_with fail
    refine (refRight_any _ _ _ _ HR.out).mono ?_
    rintro x w2 ⟨rfl, hb2⟩
    have hbb := below_via hb hb2
    have e0 := (hb2.cell (p := ⟨w.heap.size, 0, none⟩) hs).trans d0
    have e1 := (hb2.cell (p := ⟨w.heap.size, 1, none⟩) hs).trans d1
    have hs2 := Nat.lt_of_lt_of_le hs hb2.size
    clear hb2 hb d0 d1 hs
    have HB := hbb
    go_wp2_with fail
    refine (awake_any _).mono ?_
    rintro x w9 ⟨rfl, hb9⟩
    have hb10 := below_via HB hb9
    go_wp2
    go_ret
    exact ⟨rfl, hb10⟩
end Go.Proofs.Ytoibbeiieelccaa
