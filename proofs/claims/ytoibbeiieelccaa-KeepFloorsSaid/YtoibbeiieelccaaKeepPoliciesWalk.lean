/- KeepPolicies: the walk. No conditions. -/
import Derived.Test.YtoibbeiieelccaaKeepAwake
namespace Go.Proofs.Ytoibbeiieelccaa
open Go.RowKit
set_option linter.unusedVariables false

theorem pol_of {w : World} {c : Array Value} (h : Kd.ok w (.agg [.int .i64, .int .i64]) c.toList) : ∃ l e : Int, c = #[.int .i64 l, .int .i64 e] ∧ (Lit.int .i64 l).wf = true ∧ (Lit.int .i64 e).wf = true := by
  simp only [Kd.ok, Kd.okL, Kd.cells] at h
  obtain ⟨a, b, h1, _, ⟨k, rfl, hk⟩, a2, b2, rfl, _, ⟨n, rfl, hn⟩, rfl⟩ := h
  exact ⟨k, n, by rw [← Array.toArray_toList (xs := c), h1]; rfl, hk, hn⟩

set_option maxHeartbeats 4000000 in
theorem keepPolicies_walk (w : World) (c : Array Value) (oc : Kd.ok w (.agg [.int .i64, .int .i64]) c.toList) (g : Int) (wg : (Lit.int .i64 g).wf = true) (t : Int) (wt : (Lit.int .i64 t).wf = true) :
    Calls Try.prog 4 #[.agg c, .int .i64 g, .int .i64 t] w fun e w' => e = .returned (.bool true) ∧ Below w.heap.size w w' := by
  obtain ⟨l, e, rfl, hl, he⟩ := pol_of oc
  have hB1 : Below w.heap.size w (w.alloc (.cells #[.int .i64 l, .int .i64 e] 32)) := below_alloc w _
  have hk1 := Blk.new w [.int .i64 l, .int .i64 e] 32
  have hs1 := w.size_alloc (.cells #[.int .i64 l, .int .i64 e] 32)
  obtain ⟨R, hR⟩ : ∃ R, R = rightB l e := ⟨_, rfl⟩
  obtain ⟨K, hK⟩ : ∃ K, K = keepsB l e g t := ⟨_, rfl⟩
  have HR := Lib.hid hR
  have HK := Lib.hid hK
  have HWT := Lib.hid wt
  clear hR hK oc hl he wg wt
  go_enter Try.func4, Try.ntmps4
  go_wp2
  obtain ⟨W, hW⟩ : ∃ W, W = w.alloc (.cells #[.int .i64 l, .int .i64 e] 32) := ⟨_, rfl⟩
  have hW2 : w.alloc (.cells [Value.int .i64 l, .int .i64 e].toArray 32) = W := hW.symm
  rw [← hW] at hB1 hs1
  rw [hW2] at hk1
  rw [← hW]
  have c0 := hk1.cell (i := 0) rfl
  have c1 := hk1.cell (i := 1) rfl
  clear hW hW2 hk1
  have hlt : w.heap.size < W.heap.size := by omega
  have H : ∀ w1 w2 : World, Below w1.heap.size w1 w2 → (w1.cell? ⟨w.heap.size, 0, none⟩ = some (.int .i64 l) ∧ w1.cell? ⟨w.heap.size, 1, none⟩ = some (.int .i64 e) ∧ Below W.heap.size W w1) → (w2.cell? ⟨w.heap.size, 0, none⟩ = some (.int .i64 l) ∧ w2.cell? ⟨w.heap.size, 1, none⟩ = some (.int .i64 e) ∧ Below W.heap.size W w2) :=
    fun w1 w2 hb h => ⟨(hb.cell (p := ⟨w.heap.size, 0, none⟩) (Nat.lt_of_lt_of_le hlt h.2.2.size)).trans h.1, (hb.cell (p := ⟨w.heap.size, 1, none⟩) (Nat.lt_of_lt_of_le hlt h.2.2.size)).trans h.2.1, below_via h.2.2 hb⟩
  have hS0 : W.drew.cell? ⟨w.heap.size, 0, none⟩ = some (.int .i64 l) ∧ W.drew.cell? ⟨w.heap.size, 1, none⟩ = some (.int .i64 e) ∧ Below W.heap.size W W.drew := ⟨c0, c1, (Below.refl _ _).drew⟩
  clear c0 c1 hs1 hlt
  cases R <;> cases K
  all_goals
    go_region_held3 (fun w' => w'.cell? ⟨w.heap.size, 0, none⟩ = some (.int .i64 l) ∧ w'.cell? ⟨w.heap.size, 1, none⟩ = some (.int .i64 e) ∧ Below W.heap.size W w')
      (first | assumption | go_keep)
      (first
        | (go_at_call 15; refine (right_any _ _ _ _ HR.out).mono ?_; rintro x w4 ⟨rfl, hb4⟩; have hS2 := H _ _ hb4 (by assumption))
        | (go_at_call 16; refine (refRight_any _ _ _ _ HR.out).mono ?_; rintro x w4 ⟨rfl, hb4⟩; have hS2 := H _ _ hb4 (by assumption))
        | (go_at_call 17; refine (keeps_any _ _ _ _ _ _ HWT.out HK.out).mono ?_; rintro x w4 ⟨rfl, hb4⟩; have hS2 := H _ _ hb4 (by assumption))
        | (go_at_call 18; refine (refKeeps_any _ _ _ _ _ _ HWT.out HK.out).mono ?_; rintro x w4 ⟨rfl, hb4⟩; have hS2 := H _ _ hb4 (by assumption))
        | (go_at_call 14; refine (awake_any _).mono ?_; rintro x w4 ⟨rfl, hb4⟩; have hS2 := H _ _ hb4 (by assumption)))
    all_goals
      obtain ⟨_, _, hBW⟩ := hS2
      go_wp2
      go_ret
      exact ⟨rfl, below_via hB1 hBW⟩
end Go.Proofs.Ytoibbeiieelccaa
