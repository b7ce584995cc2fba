/- awake, few. Conditions: as named in each theorem. -/
import Derived.Test.YtoibbeiieelccaaKeepPol
namespace Go.Proofs.Ytoibbeiieelccaa
open Go.RowKit
set_option linter.unusedVariables false

theorem gc_len (g : G) : g.c.length = 4 := rfl
theorem flat_get : ∀ (gs : List G) (i j : Nat) (hi : i < gs.length), j < 4 → (gs.flatMap G.c)[i * 4 + j]? = (gs[i].c)[j]?
  | [], i, j, hi, _ => by simp at hi
  | g :: gs, 0, j, hi, hj => by
    rw [List.flatMap_cons, List.getElem?_append_left (by simp [gc_len]; omega)]
    simp
  | g :: gs, i + 1, j, hi, hj => by
    have ih := flat_get gs i j (by simpa using hi) hj
    rw [List.flatMap_cons, List.getElem?_append_right (by simp [gc_len]; omega)]
    rw [show (i + 1) * 4 + j - g.c.length = i * 4 + j by rw [gc_len]; omega, ih]
    simp
theorem flat_len (gs : List G) : (gs.flatMap G.c).length = gs.length * 4 := by
  induction gs with
  | nil => rfl
  | cons g gs ih => rw [List.flatMap_cons, List.length_append, ih, gc_len]; simp; omega
/-- a row of our own, as a list of generations -/
theorem rs_owns {w : World} {base n cap : Nat} {ao : Option Addr} {gs : List G} (hn : gs.length = n) (h : w.ownsRow base 40 4 (.slice ao n cap) n (gs.flatMap G.c)) : Rs w ao n cap 4 gs G.c := by
  have h2 := h.2
  rcases h2 with ⟨h1, h0⟩ | ⟨g, cap', cur, h1, hb, hg, hnc, hcm, hcs, htk⟩
  · simp only [Value.slice.injEq] at h1
    obtain ⟨rfl, rfl, rfl⟩ := h1
    exact ⟨Nat.le_refl _, by decide, hn, fun h => absurd h (by omega)⟩
  · simp only [Value.slice.injEq, true_and] at h1
    obtain ⟨rfl, rfl⟩ := h1
    refine ⟨hnc, hcm, hn, fun _ => ⟨g, 0, rfl, (Array.getElem?_eq_some_iff.1 hg).1, fun i hi j v hj => ?_⟩⟩
    have hj4 : j < 4 := by rw [← gc_len gs[i]]; exact (List.getElem?_eq_some_iff.1 hj).1
    have := h.cellAt (i * 4 + j) (by omega)
    rw [flat_get gs i j hi hj4, hj] at this
    simpa using this
theorem rowv_ints {w : World} {base : Nat} {v : Value} {L : List Int} (h : w.ownsRow base 3 1 v L.length (intV L)) : RowV w v L.length 1 (fun j => .int .i64 (L.getD j 0)) :=
  (RowV.of_owns h).congr (fun j hj => by
    have hj' : j < L.length := by omega
    simp [intV, List.getD, hj'])
theorem ints_lit (w : World) (L : List Int) (h : L.length ≤ maxLen) : (w.alloc (.cells (intV L).toArray 3)).ownsRow w.heap.size 3 1 (.slice (some ⟨w.heap.size, 0, none⟩) L.length L.length) L.length (intV L) := by
  have := World.ownsRow_lit (base := w.heap.size) (e := 3) (size := 1) w (intV L).toArray L.length (Nat.le_refl _) h (by simp [intV])
  simpa using this

theorem rs_ints {w : World} {base n cap : Nat} {ao : Option Addr} {L : List Int} (h : w.ownsRow base 3 1 (.slice ao n cap) n (intV L)) : Rs w ao n cap 1 L intC := by
  have h2 := h.2
  have hn : L.length = n := by have := h.1; simpa [intV] using this
  rcases h2 with ⟨h1, h0⟩ | ⟨g, cap', cur, h1, hb, hg, hnc, hcm, hcs, htk⟩
  · simp only [Value.slice.injEq] at h1
    obtain ⟨rfl, rfl, rfl⟩ := h1
    exact ⟨Nat.le_refl _, by decide, hn, fun h => absurd h (by omega)⟩
  · simp only [Value.slice.injEq, true_and] at h1
    obtain ⟨rfl, rfl⟩ := h1
    refine ⟨hnc, hcm, hn, fun _ => ⟨g, 0, rfl, (Array.getElem?_eq_some_iff.1 hg).1, fun i hi j v hj => ?_⟩⟩
    have hj0 : j = 0 := by have := (List.getElem?_eq_some_iff.1 hj).1; simp [intC] at this; omega
    subst hj0
    have := h.cellAt i (by omega)
    simp [intV, hi] at this
    simp [intC] at hj
    simp [this, hj]

def exG : List G := [⟨0, 0, 0, ByteArray.empty⟩, ⟨1, 0, 0, ByteArray.empty⟩, ⟨2, 1, 0, ByteArray.empty⟩]
theorem ex_chk : chk exG = 0 := by decide
theorem ex_road : roadE exG 2 = 0 ∧ roadR exG 2 = [0, 1, 2] := by decide
theorem ex_need : needE exG [1, 2] = 0 ∧ needR exG [1, 2] = [1] := by decide
theorem ex_ok : ∀ g ∈ exG, g.ok := by
  intro g hg
  simp only [exG, List.mem_cons, List.not_mem_nil, or_false] at hg
  rcases hg with rfl | rfl | rfl <;> exact ⟨by decide, by decide, by decide, by decide⟩
theorem ex_floor : (3 : Int) = floorI 3 0 5 := by decide

theorem ints_true (w : World) (L : List Int) (a b : Value) {base base2 : Nat} (hl : L.length ≤ 1000000000) (ha : w.ownsRow base 3 1 a L.length (intV L)) (hb : w.ownsRow base2 3 1 b L.length (intV L)) :
    Calls Try.prog 13 #[a, b] w fun e w' => e = .returned (.bool true) ∧ Below w.heap.size w w' :=
  (ints_eq a b L.length (fun j => L.getD j 0) w hl (rowv_ints ha) (rowv_ints hb)).mono fun e w' ⟨he, m, hm⟩ => ⟨he, by rw [hm]; exact below_drewN' (Below.refl _ _) _⟩

set_option maxHeartbeats 1000000 in
theorem awake_any (w : World) : Calls Try.prog 14 #[] w fun e w' => e = .returned (.bool true) ∧ Below w.heap.size w w' := by
  have hgz := genZ_run
  have hpz : ∀ w : World, (zeroValue 32).run Try.prog w = .ok (.agg #[.int .i64 0, .int .i64 0]) w := fun w => by kernel_rfl
  have hO0 : (w.alloc (.cells (exG.flatMap G.c).toArray 40)).ownsRow w.heap.size 40 4 (.slice (some ⟨w.heap.size, 0, none⟩) 3 3) 3 (exG.flatMap G.c) := by
    have := World.ownsRow_lit (base := w.heap.size) (e := 40) (size := 4) w (exG.flatMap G.c).toArray 3 (Nat.le_refl _) (by decide) rfl
    simpa using this
  have hR0 := rs_owns (gs := exG) rfl hO0
  have hB0 := below_alloc w (.cells (exG.flatMap G.c).toArray 40)
  obtain ⟨W, hW⟩ : ∃ W, W = w.alloc (.cells (exG.flatMap G.c).toArray 40) := ⟨_, rfl⟩
  have hWx : W = w.alloc (Obj.cells #[.int .i64 0, .int .i64 0, .int .i64 0, .string ByteArray.empty, .int .i64 1, .int .i64 0, .int .i64 0, .string ByteArray.empty, .int .i64 2, .int .i64 1, .int .i64 0, .string ByteArray.empty] 40) := hW
  rw [← hW] at hR0 hB0
  have HWX := Lib.hid hWx
  clear hO0 hW hWx
  go_enter Try.func14, Try.ntmps14
  go_wp2_with fail
  rw [← HWX.out]
  refine (road_any _ _ _ _ _ _ hR0 (by decide)).mono ?_
  rintro e w1 ⟨r, rfl, hO1, hB1⟩
  rw [ex_road.1]
  rw [ex_road.2] at hO1
  have hR1 := hR0.next hB1
  have hb1 := below_via hB0 hB1
  have hs0 := hB0.size
  clear hR0 hB0 hB1
  have hI := ints_lit w1 [1, 2] (by decide)
  have hR2 := hR1.next (below_alloc w1 (.cells #[.int .i64 1, .int .i64 2] 3))
  have hO2 := owns_below hO1 (below_alloc w1 (.cells #[.int .i64 1, .int .i64 2] 3))
  have hb2 : Below w.heap.size w (w1.alloc (.cells #[.int .i64 1, .int .i64 2] 3)) := hb1.alloc hb1.size _
  clear hR1 hO1
  go_wp2_with fail
  refine (need_any _ _ _ _ exG hR2 ex_ok (by decide) _ _ _ [1, 2] (rs_ints hI) (by decide) (by decide)).mono ?_
  rintro e w2 ⟨n, rfl, hO3, hB3⟩
  rw [ex_need.1]
  rw [ex_need.2] at hO3
  have hO4 := owns_below hO2 hB3
  have hb3 := below_via hb2 hB3
  clear hR2 hO2 hI hb2 hB3 hb1
  have hI := ints_lit w2 [0, 1, 2] (by decide)
  have hO5 := owns_below hO4 (below_alloc w2 (.cells #[.int .i64 0, .int .i64 1, .int .i64 2] 3))
  have hO6 := owns_below hO3 (below_alloc w2 (.cells #[.int .i64 0, .int .i64 1, .int .i64 2] 3))
  have hb4 : Below w.heap.size w (w2.alloc (.cells #[.int .i64 0, .int .i64 1, .int .i64 2] 3)) := hb3.alloc hb3.size _
  clear hO4 hO3 hb3
  go_wp2_with fail
  refine (ints_true _ [0, 1, 2] _ _ (by decide) hO5 hI).mono ?_
  rintro e w3 ⟨rfl, hB5⟩
  have hO7 := owns_below hO6 hB5
  have hb5 := below_via hb4 hB5
  clear hO5 hO6 hI hb4 hB5
  have hI := ints_lit w3 [1] (by decide)
  have hO8 := owns_below hO7 (below_alloc w3 (.cells #[.int .i64 1] 3))
  have hb6 : Below w.heap.size w (w3.alloc (.cells #[.int .i64 1] 3)) := hb5.alloc hb5.size _
  clear hO7 hb5
  go_wp2_with fail
  refine (ints_true _ [1] _ _ (by decide) hO8 hI).mono ?_
  rintro e w4 ⟨rfl, hB7⟩
  have hb7 := below_via hb6 hB7
  clear hO8 hI hb6 hB7
  go_wp2_with fail
  refine (floor_any _ 3 0 5 3 (by decide) ex_floor).mono ?_
  rintro e w5 ⟨rfl, hB8⟩
  have hb8 := below_via hb7 hB8
  go_wp2
  go_ret
  exact ⟨rfl, hb8⟩

/-- few: a list, or its first generations -/
theorem few_any (w : World) (ao : Option Addr) (len cap : Nat) (gs : List G) (hR : Rs w ao len cap 4 gs G.c) :
    Calls Try.prog 10 #[.slice ao len cap] w fun e w' => ∃ len' , e = .returned (.slice ao len' cap) ∧ len' ≤ 60 ∧ Rs w ao len' cap 4 (gs.take len') G.c ∧ w = w' := by
  by_cases h : 60 < len
  · obtain ⟨b, off, rfl, hbw, hc⟩ := rs_g hR (by omega)
    have hc1 := hR.1
    have hc2 := hR.2.1
    have HT := Lib.hid (hR.take (m := 60) (by omega))
    have i1 : (60 : Int) ≤ (cap : Int) := by omega
    have i2 : 60 ≤ cap := by omega
    clear hR hc
    go_enter Try.func10, Try.ntmps10
    go_wp2
    go_ret
    exact ⟨60, rfl, by omega, HT.out, rfl⟩
  · have hR2 : Rs w ao len cap 4 (gs.take len) G.c := hR.take (Nat.le_refl _)
    have HT := Lib.hid hR2
    clear hR hR2
    go_enter Try.func10, Try.ntmps10
    go_wp2
    go_ret
    exact ⟨len, rfl, by omega, HT.out, rfl⟩
end Go.Proofs.Ytoibbeiieelccaa
