/- DeltaRuns: the walk. Conditions: as named in each theorem. -/
import Derived.Test.YtgemhgllifhckaaDlRun
namespace Go.Proofs.Ytgemhgllifhckaa
open Go.RowKit Sg
set_option linter.unusedVariables false
set_option linter.unusedSimpArgs false

theorem i64_err (b : ByteArray) (l : List St) (o : ByteArray) : (runS b l o).2 = 0 ∨ (runS b l o).2 = 2 ∨ (runS b l o).2 = 4 := by
  induction l generalizing o with
  | nil => exact .inl rfl
  | cons x l ih =>
    by_cases h : rightS x ∧ x.pos + x.len ≤ b.size
    · by_cases h2 : 524288 < (o.size : Int) + x.len + x.text.size
      · rw [runS_long h h2]; exact .inr (.inr rfl)
      · rw [runS_go h h2]; exact ih _
    · rw [runS_no h]; exact .inr (.inl rfl)
set_option maxRecDepth 100000 in
set_option maxHeartbeats 2000000 in
theorem runs_tail (w : World) (b : ByteArray) (ao : Option Addr) (n cap : Nat) (l : List St) (hb : b.size ≤ 3000) (hR : Rs w ao n cap 3 l St.c) (hn : n ≤ 200) (hok : ∀ x ∈ l, x.ok) :
    ∃ (r : ByteArray) (c : Int), (Calls Try.prog 22 #[.string b, .slice ao n cap] w fun e w' => e = .returned (.tuple #[.string r, .int .i64 c]) ∧ Below w.heap.size w w') ∧
      ∀ w1, Below w.heap.size w w1 → Calls Try.prog 23 #[.string b, .slice ao n cap] w1 fun e w' => e = .returned (.tuple #[.string r, .int .i64 c]) ∧ Below w1.heap.size w1 w' :=
  ⟨_, _, run_any w b ao n cap l (by omega) hR (by omega) hok, fun w1 h => refRun_any w1 b ao n cap l (by omega) (hR.next h) (by omega) hok⟩

set_option maxRecDepth 100000 in
set_option maxHeartbeats 2000000 in
theorem deltaRuns_walk (w : World) (s0 : ByteArray) (hs0 : s0.size ≤ 140737488351232) (ao : Option Addr) (len cap : Nat) (ol : (Kd.sl (.agg [.int .i64, .int .i64, .str])).ok w [.slice ao len cap]) :
    Calls Try.prog 5 #[.string s0, .slice ao len cap] w fun e w' => e = .returned (.bool true) ∧ Below w.heap.size w w' := by
  obtain ⟨l, hR, hok⟩ := steps_of ol
  have hcl : len ≤ cap := hR.1
  have hcm : cap ≤ maxLen := hR.2.1
  unfold maxLen at hcm
  have hcs := cutS_size s0 3000
  clear ol
  go_enter Try.func5, Try.ntmps5
  go_wp2_with fail
  refine (cut_any s0 3000 _ (by omega) (by decide)).mono ?_
  rintro e w' ⟨rfl, rfl⟩
  obtain ⟨s, hs⟩ : ∃ s, s = cutS s0 3000 := ⟨_, rfl⟩
  rw [← hs] at hcs
  rw [← hs]
  clear hs hs0
  by_cases h2 : 200 < len
  · obtain ⟨r, c, h3, h4⟩ := runs_tail w s ao 200 cap (l.take 200) hcs (hR.take (by omega)) (by omega) (fun x hx => hok x (List.mem_of_mem_take hx))
    have i1 : (200 : Int) < (len : Int) := by omega
    have i2 : (200 : Int) ≤ (cap : Int) := by omega
    have H3 := Lib.hid h3
    have H4 := Lib.hid h4
    clear hR hok h3 h4
    go_wp2_with fail
    refine H3.out.mono ?_
    rintro e w1 ⟨rfl, hb1⟩
    have HC := Lib.hid (H4.out w1 hb1)
    go_wp2_with fail
    refine HC.out.mono ?_
    rintro e w2 ⟨rfl, hb2⟩
    have hB2 := bl_nx hb1 hb2
    clear hb1 hb2
    go_wp2_with fail
    refine (awake_any _).mono ?_
    rintro e w5 ⟨rfl, hb5⟩
    have HB5 := Lib.hid (bl_nx hB2 hb5)
    clear hb5
    go_wp2
    go_ret
    exact ⟨rfl, HB5.out⟩
  · obtain ⟨r, c, h3, h4⟩ := runs_tail w s ao len cap l hcs hR (by omega) hok
    have H3 := Lib.hid h3
    have H4 := Lib.hid h4
    clear hR hok h3 h4
    go_wp2_with fail
    refine H3.out.mono ?_
    rintro e w1 ⟨rfl, hb1⟩
    have HC := Lib.hid (H4.out w1 hb1)
    go_wp2_with fail
    refine HC.out.mono ?_
    rintro e w2 ⟨rfl, hb2⟩
    have hB2 := bl_nx hb1 hb2
    clear hb1 hb2
    go_wp2_with fail
    refine (awake_any _).mono ?_
    rintro e w5 ⟨rfl, hb5⟩
    have HB5 := Lib.hid (bl_nx hB2 hb5)
    clear hb5
    go_wp2
    go_ret
    exact ⟨rfl, HB5.out⟩
end Go.Proofs.Ytgemhgllifhckaa
