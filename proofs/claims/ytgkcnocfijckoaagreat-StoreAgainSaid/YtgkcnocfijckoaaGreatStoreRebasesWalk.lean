/- StoreRebases, walked: when all that hangs on what goes is made whole first, all below a floor can go, and what stays is what it was. No conditions. -/
import Derived.Test.YtgkcnocfijckoaaGreatSK
namespace Go.Proofs.YtgkcnocfijckoaaGreat
open Go.RowKit Sg
set_option linter.unusedVariables false
set_option linter.unusedSimpArgs false
theorem opZ_run (w : World) : (zeroValue 71).run Tryz.prog w = .ok (.agg #[.int .i64 0, .int .i64 0, .int .i64 0, .string ByteArray.empty]) w := by kernel_rfl
theorem PW.step {w0 w : World} {pw ps p m : Nat} {v vl : Value} {S : Bk} {l : List Gn} {im : Int → ByteArray} (h : PW w0 w pw ps p m v vl S l im) (hS : S.length ≤ 70000000) (hl : l.length < 4000) (kd n mm : Int) (wn : (Lit.int .i64 n).wf = true) (wm : (Lit.int .i64 mm).wf = true) (t : ByteArray) (ht : t.size ≤ maxLen) :
    Calls Tryz.prog 31 #[.pointer (some ⟨pw, 0, none⟩), .agg #[.int .i64 kd, .int .i64 n, .int .i64 mm, .string t]] w fun e w' => e = .returned (.bool true) ∧ ∃ v' vl' S' l' im', PW w0 w' pw ps p m v' vl' S' l' im' ∧ S'.length ≤ S.length + 3000020 ∧ l'.length ≤ l.length + 1 := by
  refine (step_any w pw ps p m v vl S l im h.ww hS hl kd n mm wn wm t ht).mono ?_
  rintro e w' ⟨rfl, v', vl', S', l', im', a1, a2, a3, a4, a5⟩
  exact ⟨rfl, v', vl', S', l', im', h.move a1 a2, a4, a5⟩
set_option maxRecDepth 100000 in
set_option maxHeartbeats 4000000 in
theorem storeRebases_walk (w : World) (ao : Option Addr) (n cap : Nat) (o0 : (Kd.sl (.agg [.int .i64, .int .i64, .int .i64, .str])).ok w [.slice ao n cap]) (f : Int) (wf : (Lit.int .i64 f).wf = true) :
    Calls Tryz.prog 8 #[.slice ao n cap, .int .i64 f] w fun e w' => e = .returned (.bool true) ∧ Below w.heap.size w w' := by
  have hoz := opZ_run
  obtain ⟨ops, hR, hok⟩ := ops_of (show (Kd.sl op4K).ok w [.slice ao n cap] from o0)
  have HPL := Lib.hid (played_any w ao n cap ops hR hok)
  clear o0 hR hok
  go_enter Tryz.func8, Tryz.ntmps8
  go_wp2_with fail
  refine HPL.out.mono ?_
  rintro e w1 ⟨pw, ps, p, m, v, vl, S, l, im, rfl, hP, hS, hl⟩
  have HP := Lib.hid hP
  have HAW := Lib.hid (awake_in w w1 hP.bel)
  have HST := Lib.hid (hP.step (by omega) (by omega) 4 f 0 wf (by decide) ByteArray.empty (Nat.zero_le _))
  clear hP HPL
  by_cases h0 : f < 0
  case pos =>
    have d0 : decide (f < 0) = true := decide_eq_true h0
    clear h0
    go_wp2_with fail
    refine HAW.out.mono ?_
    rintro e w3 ⟨rfl, hb3⟩
    have HB3 := Lib.hid hb3
    clear hb3
    go_wp2
    go_ret
    exact ⟨rfl, HB3.out⟩
  have d0 : decide (f < 0) = false := decide_eq_false h0
  by_cases h1 : 1000 < f
  case pos =>
    have d1 : decide (1000 < f) = true := decide_eq_true h1
    clear h0 h1
    go_wp2_with fail
    refine HAW.out.mono ?_
    rintro e w3 ⟨rfl, hb3⟩
    have HB3 := Lib.hid hb3
    clear hb3
    go_wp2
    go_ret
    exact ⟨rfl, HB3.out⟩
  have d1 : decide (1000 < f) = false := decide_eq_false h1
  clear h0 h1 HAW
  go_wp2_with fail
  refine HST.out.mono ?_
  rintro e w2 ⟨rfl, v', vl', S', l', im', hP2, hS2, hl2⟩
  have c0 := hP2.ww.ob.cell (i := 0) rfl
  have HS2 := Lib.hid (hP2.stands (by omega))
  clear hP2 hS2 hl2 HST
  go_wp2_with fail
  refine HS2.out.mono ?_
  rintro e w3 ⟨rfl, hP3⟩
  have HAW := Lib.hid (awake_in w w3 hP3.bel)
  clear hP3 c0 HS2
  go_wp2_with fail
  refine HAW.out.mono ?_
  rintro e w4 ⟨rfl, hb4⟩
  have HB4 := Lib.hid hb4
  clear hb4
  go_wp2
  go_ret
  exact ⟨rfl, HB4.out⟩
end Go.Proofs.YtgkcnocfijckoaaGreat
