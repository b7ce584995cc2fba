/- ChainTidies: the walk. No conditions. -/
import Derived.Test.YtabdmcgfiabaoaaChainSmall
namespace Go.Proofs.Ytabdmcgfiabaoaa
open Go.RowKit
set_option linter.unusedVariables false

theorem deltaZ_run (w : World) : (zeroValue 25).run Try.prog w = .ok (.agg #[.string ByteArray.empty, .string ByteArray.empty, .int .i64 0, .slice none 0 0]) w := by kernel_rfl
theorem tidy_small {l : List St} (hl : ∀ x ∈ l, (Lit.int .i64 x.pos).wf = true) (hw : weight l ≤ 6000) : (tidyL l).length ≤ 6000 ∧ weight (tidyL l) ≤ 6000 := by
  have h := smallT_fold l l.length (Nat.le_refl _)
  rw [List.take_length] at h
  obtain ⟨h1, h2⟩ := h
  have ht := texts_len (l.foldl stepT ([], ByteArray.empty)).2
  constructor
  · unfold tidyL finB; rw [List.length_append]; omega
  · rw [← bytesL_len, tidy_bytes l hl, bytes_steps _ (wf_bytes l), bytesL_len]; exact hw

set_option maxRecDepth 100000 in
set_option maxHeartbeats 1000000 in
theorem chainTidies_walk (w : World) (ao : Option Addr) (len cap : Nat) (ol : (Kd.sl stK).ok w [.slice ao len cap]) :
    Calls Try.prog 3 #[.slice ao len cap] w fun e w' => e = .returned (.bool true) ∧ Below w.heap.size w w' := by
  obtain ⟨l, hR, hok⟩ := steps_of ol
  have hgz := deltaZ_run
  clear ol
  go_enter Try.func3, Try.ntmps3
  go_wp2_with fail
  refine (small_any w _ _ _ rfl rfl rfl ao len cap l hR hok (Nat.le_trans hR.1 hR.2.1)).mono ?_
  rintro e w1 ⟨⟨r, rfl, hT⟩, hb1⟩
  cases r with
  | false =>
    clear hT
    go_wp2_with fail
    refine (awake_any _).mono ?_
    rintro e w2 ⟨rfl, hb2⟩
    have hB := below_then hb1 hb2
    go_wp2
    go_ret
    exact ⟨rfl, hB⟩
  | true =>
    have hT := hT rfl
    have hwl := Nat.le_trans (weight_sum2 l) hT.2.1
    have hlen : len ≤ 100 := by have := hT.1; have := hR.2.2.1; omega
    have hpos : ∀ x ∈ l, (Lit.int .i64 x.pos).wf = true := fun x hx => (hok x hx).1
    obtain ⟨hs1, hs2⟩ := tidy_small hpos hwl
    have HTB := Lib.hid (tidy_bytes l hpos)
    have HTT := Lib.hid (tidy_twice l hpos)
    have hbl : (bytesL l).length ≤ 6000 := by rw [bytesL_len]; exact hwl
    have hR1 := hR.next hb1
    clear hR hT hok hpos
    go_wp2_with fail
    refine (tidy_any _ _ _ _ l hR1 (by omega) (by omega)).mono ?_
    rintro e w2 ⟨v2, rfl, hO2, hb2⟩
    have hR2 := hR1.next hb2
    have hB2 := below_then hb1 hb2
    obtain ⟨a2, c2, rfl⟩ := owns_slice hO2
    clear hR1 hb1 hb2
    go_wp2_with fail
    refine (refBytes_any _ _ _ _ l hR2 (by omega) (by omega)).mono ?_
    rintro e w3 ⟨v3, rfl, hO3, hb3⟩
    have hO23 := hO2.below hb3
    have hB3 := below_then hB2 hb3
    obtain ⟨a3, c3, rfl⟩ := owns_slice hO3
    have hR3 := hO3.rs rfl
    clear hR2 hb3 hB2 hO3 hO2
    go_wp2_with fail
    refine (refSteps_any _ _ _ _ (bytesL l) hR3 (by omega)).mono ?_
    rintro e w4 ⟨v4, rfl, hO4, hb4⟩
    rw [← HTB.out] at hO4
    have hO24 := hO23.below hb4
    have hB4 := below_then hB3 hb4
    clear hR3 hb4 hB3 hO23
    go_wp2_with fail
    refine (steps_true _ (tidyL l) _ _ (by omega) hO24 hO4).mono ?_
    rintro e w5 ⟨rfl, hb5⟩
    have hO25 := hO24.below hb5
    have hR5 := hO25.rs rfl
    have hB5 := below_then hB4 hb5
    clear hO24 hO4 hb5 hB4
    go_wp2_with fail
    refine (tidy_any _ _ _ _ (tidyL l) hR5 (by omega) (by omega)).mono ?_
    rintro e w6 ⟨v6, rfl, hO6, hb6⟩
    rw [HTT.out] at hO6
    have hO26 := hO25.below hb6
    have hB6 := below_then hB5 hb6
    clear hO25 hR5 hb6 hB5
    go_wp2_with fail
    refine (steps_true _ (tidyL l) _ _ (by omega) hO6 hO26).mono ?_
    rintro e w7 ⟨rfl, hb7⟩
    have hB7 := below_then hB6 hb7
    clear hO6 hO26 hb7 hB6
    go_wp2_with fail
    refine (awake_any _).mono ?_
    rintro e w8 ⟨rfl, hb8⟩
    have hB8 := below_then hB7 hb8
    go_wp2
    go_ret
    exact ⟨rfl, hB8⟩
end Go.Proofs.Ytabdmcgfiabaoaa
