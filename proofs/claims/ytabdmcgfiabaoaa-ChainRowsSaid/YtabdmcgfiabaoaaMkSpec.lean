/- The steps that delta's maker makes: what is computed; the book that it asks. No conditions. -/
import Derived.Test.YtabdmcgfiabaoaaMkCopy
import Derived.Test.YtabdmcgfiabaoaaSgMatchMath
import Derived.Test.YtabdmcgfiabaoaaDlRollSkip
namespace Go.Proofs.Ytabdmcgfiabaoaa
open Go.RowKit
set_option linter.unusedVariables false
set_option linter.unusedSimpArgs false
structure Ms where
  L : List St
  t : List UInt8
  at_ : Nat
  wn : Int
/-- one window -/
def mkStep (mf : ByteArray → Int → Int) (s : ByteArray) (b : Nat) (x : Ms) : Ms :=
  if mf (s.extract x.at_ (x.at_ + b)) x.wn < 0 then ⟨x.L, x.t ++ (s.data.toList.drop x.at_).take 1, x.at_ + 1, x.wn⟩
  else ⟨copyL (x.L ++ texts (toS x.t)) (mf (s.extract x.at_ (x.at_ + b)) x.wn * b) b, [], x.at_ + b, mf (s.extract x.at_ (x.at_ + b)) x.wn + 1⟩
theorem mkStep_at (mf : ByteArray → Int → Int) (s : ByteArray) (b : Nat) (x : Ms) (h : 0 < b) : x.at_ < (mkStep mf s b x).at_ := by
  unfold mkStep; split
  · simp
  · simp; omega
def mkRun (mf : ByteArray → Int → Int) (s : ByteArray) (b : Nat) (x : Ms) : Ms := if h : 0 < b ∧ x.at_ + b ≤ s.size then mkRun mf s b (mkStep mf s b x) else x
termination_by s.size - x.at_
decreasing_by have := mkStep_at mf s b x h.1; omega
theorem mkRun_go {mf : ByteArray → Int → Int} {s : ByteArray} {b : Nat} {x : Ms} (h : 0 < b) (h2 : x.at_ + b ≤ s.size) : mkRun mf s b x = mkRun mf s b (mkStep mf s b x) := by
  rw [mkRun, dif_pos ⟨h, h2⟩]
theorem mkRun_end {mf : ByteArray → Int → Int} {s : ByteArray} {b : Nat} {x : Ms} (h2 : ¬ x.at_ + b ≤ s.size) : mkRun mf s b x = x := by
  rw [mkRun, dif_neg (fun h => h2 h.2)]
/-- what is left behind the last window -/
def endL (tf : ByteArray → Bool) (z b : Nat) (L : List St) (t : List UInt8) (r : ByteArray) : List St :=
  if z % b ≤ r.size ∧ tf (r.extract (r.size - z % b) r.size) = true then copyL (L ++ texts (toS (t ++ r.data.toList.take (r.size - z % b)))) ((z - z % b : Nat) : Int) ((z % b : Nat) : Int)
  else L ++ texts (toS (t ++ r.data.toList))
def ms0 : Ms := ⟨[], [], 0, 0⟩
def stepsM (mf : ByteArray → Int → Int) (tf : ByteArray → Bool) (s : ByteArray) (z b : Nat) : List St :=
  endL tf z b (mkRun mf s b ms0).L (mkRun mf s b ms0).t (s.extract (mkRun mf s b ms0).at_ s.size)
/-- what a book says of blocks; how often it was asked -/
structure BkC (p : Nat) (ro : Option Nat) (B0 b z : Nat) (Wk : List Int) (T : List ByteArray) (N : Nat) (KS : Nat → World → Prop) (mf : ByteArray → Int → Int) (tf : ByteArray → Bool) : Prop where
  kept : ∀ c a w', KS c a → Kept (fun k => B0 ≤ k) a w' → KS c w'
  ro_lt : ∀ m, ro = some m → m < B0
  mf_lt : ∀ t wn, mf t wn < N
  tf_pos : ∀ t, tf t = true → 0 < z % b
  mtch : ∀ c W t wn pt vI vS kv pv f, KS c W → c ≤ 1000000 → t.size = b → Sg.Tab B0 W pt b z vI vS kv pv Wk T (Sg.plc N f) → Srt (wtOf Wk) f 0 N → InB f 0 N →
    Calls Try.prog 52 #[.pointer (some ⟨pt, 0, none⟩), .pointer (some ⟨p, 0, none⟩), .int .i64 (Sg.weakI t), .string t, .int .i64 wn] W fun e w' => e = .returned (.int .i64 (mf t wn)) ∧ KS (c + 1) w' ∧ W.grownBy w' ro
  tail : ∀ c W t pt vI vS kv pv f, KS c W → c ≤ 1000000 → t.size ≤ 1024 → Sg.Tab B0 W pt b z vI vS kv pv Wk T (Sg.plc N f) → Srt (wtOf Wk) f 0 N → InB f 0 N →
    Calls Try.prog 74 #[.pointer (some ⟨pt, 0, none⟩), .pointer (some ⟨p, 0, none⟩), .string t] W fun e w' => e = .returned (.bool (tf t)) ∧ KS (c + 1) w' ∧ W.grownBy w' ro
end Go.Proofs.Ytabdmcgfiabaoaa
