/- Which steps may be. Conditions: as named in each theorem. -/
import Derived.Test.YtgemhgllifhckaaDlCore
namespace Go.Proofs.Ytgemhgllifhckaa
open Go.RowKit
set_option linter.unusedVariables false
set_option linter.unusedSimpArgs false

def textS (x : St) : Prop := x.pos = 0 ∧ x.len = 0 ∧ x.text.size ≤ 4096
def copyS (x : St) : Prop := 0 < x.len ∧ x.len ≤ 524288 ∧ 0 ≤ x.pos ∧ x.pos ≤ 524288 - x.len
def rightS (x : St) : Prop := (x.text.size ≠ 0 → textS x) ∧ (x.text.size = 0 → copyS x)
def fitS (z : Int) (x : St) : Prop := x.text.size = 0 → z < 0 ∨ x.pos + x.len ≤ z
def RightR (P : Prop) (e : Ending) : Prop := ∃ r : Bool, e = .returned (.bool r) ∧ (r = true ↔ P)
theorem RightR.yes {P : Prop} (h : P) : RightR P (.returned (.bool true)) := ⟨true, rfl, (fun _ => h), fun _ => rfl⟩
theorem RightR.no {P : Prop} (h : ¬ P) : RightR P (.returned (.bool false)) := ⟨false, rfl, (fun h => by cases h), fun h2 => absurd h2 h⟩

set_option maxRecDepth 100000 in
set_option maxHeartbeats 1000000 in
theorem step_any (w : World) (p l : Int) (t : ByteArray) (hl : (Lit.int .i64 l).wf = true) (hp : (Lit.int .i64 p).wf = true) (hts : t.size ≤ maxLen) :
    Calls Try.prog 50 #[.agg #[.int .i64 p, .int .i64 l, .string t]] w fun e w' => RightR (rightS ⟨p, l, t⟩) e ∧ Below w.heap.size w w' := by
  have hB : Below w.heap.size w (w.alloc (Obj.cells #[.int .i64 p, .int .i64 l, .string t] 76)) := below_alloc _ _
  have c0 := (Blk.new w [.int .i64 p, .int .i64 l, .string t] 76).cell (i := 0) rfl
  have c1 := (Blk.new w [.int .i64 p, .int .i64 l, .string t] 76).cell (i := 1) rfl
  have c2 := (Blk.new w [.int .i64 p, .int .i64 l, .string t] 76).cell (i := 2) rfl
  go_enter Try.func50, Try.ntmps50
  by_cases ht : t.size ≠ 0
  · have hne := strNe ht
    by_cases h1 : p = 0
    · have eh1 : (p == 0) = true := by simpa using h1
      by_cases h2 : l = 0
      · have eh2 : (l == 0) = true := by simpa using h2
        by_cases h3 : (t.size : Int) ≤ 4096
        · have eh3 : decide ((t.size : Int) ≤ 4096) = true := by simpa using h3
          have HPF : Hid ((rightS ⟨p, l, t⟩)) := Lib.hid (by unfold rightS textS copyS; simp only; omega)
          clear h1 h2 h3 ht
          go_wp2
          go_ret
          exact ⟨RightR.yes HPF.out, hB⟩
        · have eh3 : decide ((t.size : Int) ≤ 4096) = false := by simpa using h3
          have HPF : Hid (¬ (rightS ⟨p, l, t⟩)) := Lib.hid (fun h => by unfold rightS textS copyS at h; simp only at h; omega)
          clear h1 h2 h3 ht
          go_wp2
          go_ret
          exact ⟨RightR.no HPF.out, hB⟩
      · have eh2 : (l == 0) = false := by simpa using h2
        have HPF : Hid (¬ (rightS ⟨p, l, t⟩)) := Lib.hid (fun h => by unfold rightS textS copyS at h; simp only at h; omega)
        clear h1 h2 ht
        go_wp2
        go_ret
        exact ⟨RightR.no HPF.out, hB⟩
    · have eh1 : (p == 0) = false := by simpa using h1
      have HPF : Hid (¬ (rightS ⟨p, l, t⟩)) := Lib.hid (fun h => by unfold rightS textS copyS at h; simp only at h; omega)
      clear h1 ht
      go_wp2
      go_ret
      exact ⟨RightR.no HPF.out, hB⟩
  · have ht0 : t.size = 0 := by omega
    obtain rfl := strEmpty ht0
    have hes : ByteArray.empty.size = 0 := rfl
    by_cases h1 : 0 < l
    · by_cases h2 : l ≤ 524288
      · by_cases h3 : 0 ≤ p
        · by_cases h4 : p ≤ 524288 - l
          · have HPF : Hid ((rightS ⟨p, l, ByteArray.empty⟩)) := Lib.hid (by unfold rightS textS copyS; simp only; omega)
            clear ht
            go_wp2
            go_ret
            exact ⟨RightR.yes HPF.out, hB⟩
          · have HPF : Hid (¬ (rightS ⟨p, l, ByteArray.empty⟩)) := Lib.hid (fun h => by unfold rightS textS copyS at h; simp only at h; omega)
            clear ht
            go_wp2
            go_ret
            exact ⟨RightR.no HPF.out, hB⟩
        · have HPF : Hid (¬ (rightS ⟨p, l, ByteArray.empty⟩)) := Lib.hid (fun h => by unfold rightS textS copyS at h; simp only at h; omega)
          clear ht
          go_wp2
          go_ret
          exact ⟨RightR.no HPF.out, hB⟩
      · have HPF : Hid (¬ (rightS ⟨p, l, ByteArray.empty⟩)) := Lib.hid (fun h => by unfold rightS textS copyS at h; simp only at h; omega)
        clear ht
        go_wp2
        go_ret
        exact ⟨RightR.no HPF.out, hB⟩
    · have HPF : Hid (¬ (rightS ⟨p, l, ByteArray.empty⟩)) := Lib.hid (fun h => by unfold rightS textS copyS at h; simp only at h; omega)
      clear ht
      go_wp2
      go_ret
      exact ⟨RightR.no HPF.out, hB⟩

set_option maxRecDepth 100000 in
set_option maxHeartbeats 1000000 in
theorem right_any (w : World) (p l : Int) (t : ByteArray) (hl : (Lit.int .i64 l).wf = true) (hp : (Lit.int .i64 p).wf = true) (hts : t.size ≤ maxLen) (z : Int) (hz : (Lit.int .i64 z).wf = true) :
    Calls Try.prog 46 #[.agg #[.int .i64 p, .int .i64 l, .string t], .int .i64 z] w fun e w' => RightR (rightS ⟨p, l, t⟩ ∧ fitS z ⟨p, l, t⟩) e ∧ Below w.heap.size w w' := by
  have hB : Below w.heap.size w (w.alloc (Obj.cells #[.int .i64 p, .int .i64 l, .string t] 76)) := below_alloc _ _
  have c0 := (Blk.new w [.int .i64 p, .int .i64 l, .string t] 76).cell (i := 0) rfl
  have c1 := (Blk.new w [.int .i64 p, .int .i64 l, .string t] 76).cell (i := 1) rfl
  have c2 := (Blk.new w [.int .i64 p, .int .i64 l, .string t] 76).cell (i := 2) rfl
  go_enter Try.func46, Try.ntmps46
  by_cases ht : t.size ≠ 0
  · have hne := strNe ht
    by_cases h1 : p = 0
    · have eh1 : (p == 0) = true := by simpa using h1
      by_cases h2 : l = 0
      · have eh2 : (l == 0) = true := by simpa using h2
        by_cases h3 : (t.size : Int) ≤ 4096
        · have eh3 : decide ((t.size : Int) ≤ 4096) = true := by simpa using h3
          have HPF : Hid ((rightS ⟨p, l, t⟩ ∧ fitS z ⟨p, l, t⟩)) := Lib.hid (by unfold rightS textS copyS fitS; simp only; omega)
          clear h1 h2 h3 ht
          go_wp2
          go_ret
          exact ⟨RightR.yes HPF.out, hB⟩
        · have eh3 : decide ((t.size : Int) ≤ 4096) = false := by simpa using h3
          have HPF : Hid (¬ (rightS ⟨p, l, t⟩ ∧ fitS z ⟨p, l, t⟩)) := Lib.hid (fun h => by unfold rightS textS copyS fitS at h; simp only at h; omega)
          clear h1 h2 h3 ht
          go_wp2
          go_ret
          exact ⟨RightR.no HPF.out, hB⟩
      · have eh2 : (l == 0) = false := by simpa using h2
        have HPF : Hid (¬ (rightS ⟨p, l, t⟩ ∧ fitS z ⟨p, l, t⟩)) := Lib.hid (fun h => by unfold rightS textS copyS fitS at h; simp only at h; omega)
        clear h1 h2 ht
        go_wp2
        go_ret
        exact ⟨RightR.no HPF.out, hB⟩
    · have eh1 : (p == 0) = false := by simpa using h1
      have HPF : Hid (¬ (rightS ⟨p, l, t⟩ ∧ fitS z ⟨p, l, t⟩)) := Lib.hid (fun h => by unfold rightS textS copyS fitS at h; simp only at h; omega)
      clear h1 ht
      go_wp2
      go_ret
      exact ⟨RightR.no HPF.out, hB⟩
  · have ht0 : t.size = 0 := by omega
    obtain rfl := strEmpty ht0
    have hes : ByteArray.empty.size = 0 := rfl
    by_cases h1 : 0 < l
    · by_cases h3 : 0 ≤ p
      · by_cases h2 : l ≤ 524288
        · by_cases h4 : p ≤ 524288 - l
          · by_cases h5 : z < 0
            · have HPF : Hid ((rightS ⟨p, l, ByteArray.empty⟩ ∧ fitS z ⟨p, l, ByteArray.empty⟩)) := Lib.hid (by unfold rightS textS copyS fitS; simp only; omega)
              clear ht
              go_wp2
              go_ret
              exact ⟨RightR.yes HPF.out, hB⟩
            · by_cases h6 : p + l ≤ z
              · have HPF : Hid ((rightS ⟨p, l, ByteArray.empty⟩ ∧ fitS z ⟨p, l, ByteArray.empty⟩)) := Lib.hid (by unfold rightS textS copyS fitS; simp only; omega)
                clear ht
                go_wp2
                go_ret
                exact ⟨RightR.yes HPF.out, hB⟩
              · have HPF : Hid (¬ (rightS ⟨p, l, ByteArray.empty⟩ ∧ fitS z ⟨p, l, ByteArray.empty⟩)) := Lib.hid (fun h => by unfold rightS textS copyS fitS at h; simp only at h; omega)
                clear ht
                go_wp2
                go_ret
                exact ⟨RightR.no HPF.out, hB⟩
          · have HPF : Hid (¬ (rightS ⟨p, l, ByteArray.empty⟩ ∧ fitS z ⟨p, l, ByteArray.empty⟩)) := Lib.hid (fun h => by unfold rightS textS copyS fitS at h; simp only at h; omega)
            clear ht
            go_wp2
            go_ret
            exact ⟨RightR.no HPF.out, hB⟩
        · have HPF : Hid (¬ (rightS ⟨p, l, ByteArray.empty⟩ ∧ fitS z ⟨p, l, ByteArray.empty⟩)) := Lib.hid (fun h => by unfold rightS textS copyS fitS at h; simp only at h; omega)
          clear ht
          go_wp2
          go_ret
          exact ⟨RightR.no HPF.out, hB⟩
      · have HPF : Hid (¬ (rightS ⟨p, l, ByteArray.empty⟩ ∧ fitS z ⟨p, l, ByteArray.empty⟩)) := Lib.hid (fun h => by unfold rightS textS copyS fitS at h; simp only at h; omega)
        clear ht
        go_wp2
        go_ret
        exact ⟨RightR.no HPF.out, hB⟩
    · have HPF : Hid (¬ (rightS ⟨p, l, ByteArray.empty⟩ ∧ fitS z ⟨p, l, ByteArray.empty⟩)) := Lib.hid (fun h => by unfold rightS textS copyS fitS at h; simp only at h; omega)
      clear ht
      go_wp2
      go_ret
      exact ⟨RightR.no HPF.out, hB⟩
end Go.Proofs.Ytgemhgllifhckaa
