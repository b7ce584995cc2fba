/- Steps alike; small; awake. Conditions: as named in each theorem. -/
import Derived.Test.YtabdmcgfiabaoaaQC
import Derived.Test.YtabdmcgfiabaoaaDlCore
import Derived.Test.YtabdmcgfiabaoaaChTidy
namespace Go.Proofs.Ytabdmcgfiabaoaa
open Go.RowKit
set_option linter.unusedVariables false
theorem OwnB.below {w w' : World} {base : Nat} {v : Value} {l : List By} (h : OwnB w base v l) (hb : Below w.heap.size w w') : OwnB w' base v l := World.ownsRow.kept h (below_grown hb none) (by cases v.ownBlock <;> simp)
theorem OwnB.rs {w : World} {base n cap : Nat} {ao : Option Addr} {l : List By} (hn : l.length = n) (h : OwnB w base (.slice ao n cap) l) : Rs w ao n cap 3 l By.c := by
  subst hn; exact Rs.of_owns bc_len rfl h
def exS : List St := [⟨0, 0, ⟨#[97]⟩⟩, ⟨0, 0, ⟨#[98]⟩⟩, ⟨0, 4, ByteArray.empty⟩, ⟨4, 2, ByteArray.empty⟩]
theorem ex_tidy : tidyL exS = [⟨0, 0, ⟨#[97, 98]⟩⟩, ⟨0, 6, ByteArray.empty⟩] := by rfl
theorem ex_weight : weight exS = 8 := by rfl
set_option maxRecDepth 100000 in
set_option maxHeartbeats 1000000 in
theorem chAwake_any (w : World) : Calls Try.prog 12 #[] w fun e w' => e = .returned (.bool true) ∧ Below w.heap.size w w' := by
  have hgz := stepZ_run
  have hO0 : Own (w.alloc (.cells (exS.flatMap St.c).toArray 55)) w.heap.size (.slice (some ⟨w.heap.size, 0, none⟩) 4 4) exS := by
    have := World.ownsRow_lit (base := w.heap.size) (e := 55) (size := 3) w (exS.flatMap St.c).toArray 4 (Nat.le_refl _) (by decide) rfl
    exact this
  have hR0 := hO0.rs rfl
  have hB0 := below_alloc w (.cells (exS.flatMap St.c).toArray 55)
  obtain ⟨W, hW⟩ : ∃ W, W = w.alloc (.cells (exS.flatMap St.c).toArray 55) := ⟨_, rfl⟩
  have hWx : W = w.alloc (Obj.cells #[.int .i64 0, .int .i64 0, .string ⟨#[97]⟩, .int .i64 0, .int .i64 0, .string ⟨#[98]⟩, .int .i64 0, .int .i64 4, .string ByteArray.empty, .int .i64 4, .int .i64 2, .string ByteArray.empty] 55) := hW
  rw [← hW] at hR0 hB0
  have HWX := Lib.hid hWx
  clear hO0 hW hWx
  go_enter Try.func12, Try.ntmps12
  go_wp2_with fail
  rw [← HWX.out]
  refine (tidy_any _ _ _ _ exS hR0 (by decide) (by rw [ex_weight]; decide)).mono ?_
  rintro e w1 ⟨v, rfl, hO1, hB1⟩
  rw [ex_tidy] at hO1
  obtain ⟨ao, cp, rfl⟩ := owns_slice hO1
  obtain ⟨b, off, rfl, hbw, hc⟩ := rs_s (hO1.rs rfl) (by decide)
  obtain ⟨c0, c1, c2⟩ := hc 0 (by decide)
  obtain ⟨d0, d1, d2⟩ := hc 1 (by decide)
  have hB := below_then hB0 hB1
  simp only [List.getElem_cons_zero, List.getElem_cons_succ] at c0 c1 c2 d0 d1 d2
  clear hc hO1 hB0 hB1 hR0
  go_wp2
  go_ret
  exact ⟨rfl, hB⟩
end Go.Proofs.Ytabdmcgfiabaoaa
