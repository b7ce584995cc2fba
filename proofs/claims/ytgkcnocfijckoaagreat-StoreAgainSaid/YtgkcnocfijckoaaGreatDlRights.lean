/- Which deltas may be: delta's Right and the reference's. Conditions: as named in each theorem. -/
import Derived.Test.YtgkcnocfijckoaaGreatDlCore
namespace Go.Proofs.YtgkcnocfijckoaaGreat
open Go.RowKit
set_option linter.unusedVariables false
set_option linter.unusedSimpArgs false
def textS (x : St) : Prop := x.pos = 0 ∧ x.len = 0 ∧ x.text.size ≤ 4096
def copyS (x : St) : Prop := 0 < x.len ∧ x.len ≤ 524288 ∧ 0 ≤ x.pos ∧ x.pos ≤ 524288 - x.len
def rightS (x : St) : Prop := (x.text.size ≠ 0 → textS x) ∧ (x.text.size = 0 → copyS x)
def fitS (z : Int) (x : St) : Prop := x.text.size = 0 → z < 0 ∨ x.pos + x.len ≤ z
def RightR (P : Prop) (e : Ending) : Prop := ∃ r : Bool, e = .returned (.bool r) ∧ (r = true ↔ P)
theorem RightR.yes {P : Prop} (h : P) : RightR P (.returned (.bool true)) := ⟨true, rfl, (fun _ => h), fun _ => rfl⟩
theorem RightR.no {P : Prop} (h : ¬ P) : RightR P (.returned (.bool false)) := ⟨false, rfl, (fun h => by cases h), fun h2 => absurd h2 h⟩
set_option maxRecDepth 100000 in
set_option maxHeartbeats 1000000 in
theorem right_any (w : World) (p l : Int) (t : ByteArray) (hl : (Lit.int .i64 l).wf = true) (hp : (Lit.int .i64 p).wf = true) (hts : t.size ≤ maxLen) (z : Int) (hz : (Lit.int .i64 z).wf = true) :
    Calls Tryz.prog 61 #[.agg #[.int .i64 p, .int .i64 l, .string t], .int .i64 z] w fun e w' => RightR (rightS ⟨p, l, t⟩ ∧ fitS z ⟨p, l, t⟩) e ∧ Below w.heap.size w w' := by
  have hB : Below w.heap.size w (w.alloc (Obj.cells #[.int .i64 p, .int .i64 l, .string t] 107)) := below_alloc _ _
  have c0 := (Blk.new w [.int .i64 p, .int .i64 l, .string t] 107).cell (i := 0) rfl
  have c1 := (Blk.new w [.int .i64 p, .int .i64 l, .string t] 107).cell (i := 1) rfl
  have c2 := (Blk.new w [.int .i64 p, .int .i64 l, .string t] 107).cell (i := 2) rfl
  go_enter Tryz.func61, Tryz.ntmps61
  by_cases ht : t.size ≠ 0
  · have hne := strNe ht
    by_cases h1 : p = 0
    · have eh1 : (p == 0) = true := by simpa using h1
      by_cases h2 : l = 0
      · have eh2 : (l == 0) = true := by simpa using h2
        by_cases h3 : (t.size : Int) ≤ 4096
        · have eh3 : decide ((t.size : Int) ≤ 4096) = true := by simpa using h3
          have HPF : Hid ((rightS ⟨p, l, t⟩ ∧ fitS z ⟨p, l, t⟩)) := Lib.hid (by unfold rightS textS copyS fitS; simp only; omega)
          clear h1 h2 h3 ht
          go_wp2
          go_ret
          exact ⟨RightR.yes HPF.out, hB⟩
        · have eh3 : decide ((t.size : Int) ≤ 4096) = false := by simpa using h3
          have HPF : Hid (¬ (rightS ⟨p, l, t⟩ ∧ fitS z ⟨p, l, t⟩)) := Lib.hid (fun h => by unfold rightS textS copyS fitS at h; simp only at h; omega)
          clear h1 h2 h3 ht
          go_wp2
          go_ret
          exact ⟨RightR.no HPF.out, hB⟩
      · have eh2 : (l == 0) = false := by simpa using h2
        have HPF : Hid (¬ (rightS ⟨p, l, t⟩ ∧ fitS z ⟨p, l, t⟩)) := Lib.hid (fun h => by unfold rightS textS copyS fitS at h; simp only at h; omega)
        clear h1 h2 ht
        go_wp2
        go_ret
        exact ⟨RightR.no HPF.out, hB⟩
    · have eh1 : (p == 0) = false := by simpa using h1
      have HPF : Hid (¬ (rightS ⟨p, l, t⟩ ∧ fitS z ⟨p, l, t⟩)) := Lib.hid (fun h => by unfold rightS textS copyS fitS at h; simp only at h; omega)
      clear h1 ht
      go_wp2
      go_ret
      exact ⟨RightR.no HPF.out, hB⟩
  · have ht0 : t.size = 0 := by omega
    obtain rfl := strEmpty ht0
    have hes : ByteArray.empty.size = 0 := rfl
    by_cases h1 : 0 < l
    · by_cases h3 : 0 ≤ p
      · by_cases h2 : l ≤ 524288
        · by_cases h4 : p ≤ 524288 - l
          · by_cases h5 : z < 0
            · have HPF : Hid ((rightS ⟨p, l, ByteArray.empty⟩ ∧ fitS z ⟨p, l, ByteArray.empty⟩)) := Lib.hid (by unfold rightS textS copyS fitS; simp only; omega)
              clear ht
              go_wp2
              go_ret
              exact ⟨RightR.yes HPF.out, hB⟩
            · by_cases h6 : p + l ≤ z
              · have HPF : Hid ((rightS ⟨p, l, ByteArray.empty⟩ ∧ fitS z ⟨p, l, ByteArray.empty⟩)) := Lib.hid (by unfold rightS textS copyS fitS; simp only; omega)
                clear ht
                go_wp2
                go_ret
                exact ⟨RightR.yes HPF.out, hB⟩
              · have HPF : Hid (¬ (rightS ⟨p, l, ByteArray.empty⟩ ∧ fitS z ⟨p, l, ByteArray.empty⟩)) := Lib.hid (fun h => by unfold rightS textS copyS fitS at h; simp only at h; omega)
                clear ht
                go_wp2
                go_ret
                exact ⟨RightR.no HPF.out, hB⟩
          · have HPF : Hid (¬ (rightS ⟨p, l, ByteArray.empty⟩ ∧ fitS z ⟨p, l, ByteArray.empty⟩)) := Lib.hid (fun h => by unfold rightS textS copyS fitS at h; simp only at h; omega)
            clear ht
            go_wp2
            go_ret
            exact ⟨RightR.no HPF.out, hB⟩
        · have HPF : Hid (¬ (rightS ⟨p, l, ByteArray.empty⟩ ∧ fitS z ⟨p, l, ByteArray.empty⟩)) := Lib.hid (fun h => by unfold rightS textS copyS fitS at h; simp only at h; omega)
          clear ht
          go_wp2
          go_ret
          exact ⟨RightR.no HPF.out, hB⟩
      · have HPF : Hid (¬ (rightS ⟨p, l, ByteArray.empty⟩ ∧ fitS z ⟨p, l, ByteArray.empty⟩)) := Lib.hid (fun h => by unfold rightS textS copyS fitS at h; simp only at h; omega)
        clear ht
        go_wp2
        go_ret
        exact ⟨RightR.no HPF.out, hB⟩
    · have HPF : Hid (¬ (rightS ⟨p, l, ByteArray.empty⟩ ∧ fitS z ⟨p, l, ByteArray.empty⟩)) := Lib.hid (fun h => by unfold rightS textS copyS fitS at h; simp only at h; omega)
      clear ht
      go_wp2
      go_ret
      exact ⟨RightR.no HPF.out, hB⟩
end Go.Proofs.YtgkcnocfijckoaaGreat
namespace Go.Proofs.YtgkcnocfijckoaaGreat
open Go.RowKit
set_option linter.unusedVariables false
set_option linter.unusedSimpArgs false
structure Dl where
  basis : ByteArray
  mark : ByteArray
  size : Int
  steps : List St
def RightP (d : Dl) : Prop := d.basis.size = 32 ∧ d.mark.size = 32 ∧ 0 ≤ d.size ∧ d.size ≤ 524288 ∧ (∀ x ∈ d.steps, rightS x) ∧ (sum2 d.steps : Int) = d.size
theorem rightS_sum {x : St} (h : rightS x) : 0 ≤ x.len ∧ x.len ≤ 524288 ∧ x.text.size ≤ 4096 ∧ 1 ≤ sum1 x ∧ (sum1 x : Int) = x.len + x.text.size := by
  unfold rightS textS copyS at h
  unfold sum1
  by_cases ht : x.text.size = 0
  · have := h.2 ht; omega
  · have := h.1 ht; omega
theorem sum2_take (l : List St) (k : Nat) : sum2 (l.take k) ≤ sum2 l := by
  have : sum2 l = sum2 (l.take k) + sum2 (l.drop k) := by
    unfold sum2; rw [← List.sum_append, ← List.map_append, List.take_append_drop]
  omega
theorem sum2_len {l : List St} (h : ∀ x ∈ l, rightS x) : l.length ≤ sum2 l := by
  induction l with
  | nil => exact Nat.zero_le _
  | cons x l ih =>
    have h1 := ih (fun y hy => h y (by simp [hy]))
    have h2 := rightS_sum (h x (by simp))
    unfold sum2 at *
    rw [List.map_cons, List.sum_cons, List.length_cons]
    omega
theorem all_succ {P : St → Prop} {l : List St} {k : Nat} (hk : k < l.length) (h : ∀ x ∈ l.take k, P x) (hx : P l[k]) : ∀ x ∈ l.take (k + 1), P x := by
  intro x hm
  rw [List.take_succ_eq_append_getElem hk] at hm
  rcases List.mem_append.1 hm with h1 | h1
  · exact h x h1
  · rw [List.mem_singleton.1 h1]; exact hx
set_option maxRecDepth 100000 in
set_option maxHeartbeats 1000000 in
theorem deltaRight_any (w : World) (b m : ByteArray) (s : Int) (ao : Option Addr) (len cap : Nat) (l : List St) (hs : (Lit.int .i64 s).wf = true) (hbs : b.size ≤ maxLen) (hms : m.size ≤ maxLen) (hR : Rs w ao len cap 3 l St.c) (hok : ∀ x ∈ l, x.ok) :
    Calls Tryz.prog 53 #[.agg #[.string b, .string m, .int .i64 s, .slice ao len cap]] w fun e w' => RightR (RightP ⟨b, m, s, l⟩) e ∧ Below w.heap.size w w' := by
  have hgz := stepZ_run
  have HLEN := Lib.hid hR.2.2.1
  have hlm : len ≤ maxLen := Nat.le_trans hR.1 hR.2.1
  obtain ⟨V, hV⟩ : ∃ V, V = w.alloc (Obj.cells #[.string b, .string m, .int .i64 s, .slice ao len cap] 55) := ⟨_, rfl⟩
  obtain ⟨pd, hpd⟩ : ∃ pd, pd = w.heap.size := ⟨_, rfl⟩
  have hBLK : Blk V pd [.string b, .string m, .int .i64 s, .slice ao len cap] 55 := by rw [hV, hpd]; exact Blk.new w _ _
  have hBV : Below w.heap.size w V := by rw [hV]; exact below_alloc _ _
  have HB := Lib.hid hBLK
  have hq0 := hBLK.cell (i := 0) rfl
  have hq1 := hBLK.cell (i := 1) rfl
  have hq2 := hBLK.cell (i := 2) rfl
  have hq3 := hBLK.cell (i := 3) rfl
  have hpV : pd < V.heap.size := hBLK.lt
  rw [hV, hpd] at hq0 hq1 hq2 hq3
  have HV := Lib.hid hV
  have HPD := Lib.hid hpd
  clear hV hpd hBLK
  go_enter Tryz.func53, Tryz.ntmps53
  by_cases h1 : b.size = 32
  · by_cases h2 : m.size = 32
    · by_cases h3 : s < 0
      · have HN : Hid (¬ RightP ⟨b, m, s, l⟩) := Lib.hid (fun h => by have := h.2.2.1; simp only at this; omega)
        rw [HV.out] at hBV
        go_wp2
        go_ret
        exact ⟨RightR.no HN.out, hBV⟩
      · by_cases h4 : 524288 < s
        · have HN : Hid (¬ RightP ⟨b, m, s, l⟩) := Lib.hid (fun h => by have := h.2.2.2.1; simp only at this; omega)
          rw [HV.out] at hBV
          go_wp2
          go_ret
          exact ⟨RightR.no HN.out, hBV⟩
        · by_cases h5 : 524288 < len
          · have HN : Hid (¬ RightP ⟨b, m, s, l⟩) := Lib.hid (fun h => by
              have a := sum2_len h.2.2.2.2.1
              have c := h.2.2.2.2.2
              have d := HLEN.out
              simp only at a c
              omega)
            rw [HV.out] at hBV
            go_wp2
            go_ret
            exact ⟨RightR.no HN.out, hBV⟩
          · have H1 := Lib.hid h1
            have H2 := Lib.hid h2
            go_wp2
            clear hq0 hq1 hq2 hq3 h1 h2
            rw [← HV.out, ← HPD.out]
            go_loopw [3, 35] (fun v i wr => ∃ k : Nat, k ≤ len ∧ i = .int .i64 k ∧ v = .int .i64 (sum2 (l.take k) : Nat) ∧ (sum2 (l.take k) : Int) ≤ s ∧ (∀ x ∈ l.take k, rightS x) ∧ Below V.heap.size V wr) (fun _ i _ => len - (intOf i).toNat)
            case atStart => exact ⟨0, by omega, rfl, rfl, by simp [sum2]; omega, by simp, Below.refl _ _⟩
            case round =>
              obtain ⟨k, hk, rfl, rfl, hsm, hall, hB⟩ := hrel
              have HALL := Lib.hid hall
              clear hall
              have hBB := hBV.trans (hB.mono hBV.size)
              have hBX := HB.out.below hB hpV
              by_cases hlt : k < len
              · obtain ⟨g, off, rfl, hbw, hc⟩ := rs_s hR (by omega)
                have hks : k < l.length := by rw [HLEN.out]; exact hlt
                obtain ⟨c0, c1, c2⟩ := hc k hks
                have hsu := sum2_succ l k hks
                have hxo := hok _ (List.getElem_mem hks)
                have HSU2 := Lib.hid (fun h => all_succ hks HALL.out h)
                have HMEM := Lib.hid (List.getElem_mem hks)
                obtain ⟨x, hx⟩ : ∃ x, x = l[k] := ⟨_, rfl⟩
                rw [← hx] at c0 c1 c2 hsu hxo HSU2 HMEM
                obtain ⟨S, hS⟩ : ∃ S, S = sum2 (l.take k) := ⟨_, rfl⟩
                rw [← hS] at hsm hsu
                rw [← hS]
                obtain ⟨p, n, t⟩ := x
                have d0 := (hBB.cell (p := ⟨g, off + k * 3, none⟩) hbw).trans c0
                have d1 := (hBB.cell (p := ⟨g, off + k * 3 + 1, none⟩) hbw).trans c1
                have d2 := (hBB.cell (p := ⟨g, off + k * 3 + 2, none⟩) hbw).trans c2
                simp only at d0 d1 d2
                obtain ⟨hpw, hnw, htw⟩ := hxo
                simp only at hpw hnw htw
                have HSU := Lib.hid hsu
                have i1 : (k : Int) < (len : Int) := by omega
                have hBW : Below wr.heap.size wr (wr.alloc (Obj.cells #[.int .i64 p, .int .i64 n, .string t] 107)) := below_alloc _ _
                have hXN := Blk.new wr [.int .i64 p, .int .i64 n, .string t] 107
                have HBW := Lib.hid hBW
                have HXN := Lib.hid hXN
                have HBX := Lib.hid hBX
                clear c0 c1 c2 hc hx hsu hS hks hBW hXN hBX
                have y0 := HXN.out.cell (i := 0) rfl
                have y1 := HXN.out.cell (i := 1) rfl
                have y2 := HXN.out.cell (i := 2) rfl
                go_wp2_with fail
                refine (right_any _ p n t hnw hpw htw (-1) rfl).mono ?_
                rintro e w3 ⟨⟨r, rfl, hr⟩, hb3⟩
                have hX3 := HXN.out.below hb3 HXN.out.lt
                have hD3 := (HBX.out.below HBW.out HBX.out.lt).below hb3 (Nat.lt_of_lt_of_le HBX.out.lt HBW.out.size)
                have hB3 := (hB.trans (HBW.out.mono hB.size)).trans (hb3.mono (Nat.le_trans hB.size HBW.out.size))
                have hBB3 := hBV.trans (hB3.mono hBV.size)
                clear y0 y1 y2 d0 d1 d2 hb3 hB hBB
                cases r with
                | false =>
                  have HN : Hid (¬ RightP ⟨b, m, s, l⟩) := Lib.hid (fun h => by
                    have := hr.2 ⟨h.2.2.2.2.1 _ HMEM.out, fun _ => .inl (by decide)⟩
                    cases this)
                  clear hr hX3 hD3
                  go_wp2
                  go_ret
                  exact ⟨RightR.no HN.out, hBB3⟩
                | true =>
                  have hrx := (hr.1 rfl).1
                  obtain ⟨r1, r2, r3, r4, r5⟩ := rightS_sum hrx
                  simp only at r1 r2 r3 r5
                  have HRX := Lib.hid hrx
                  have z1 := hX3.cell (i := 1) rfl
                  have z2 := hX3.cell (i := 2) rfl
                  have z3 := hD3.cell (i := 2) rfl
                  have hsum : ((sum2 (l.take (k + 1)) : Nat) : Int) = (S : Int) + (n + t.size) := by rw [HSU.out]; omega
                  have HS := Lib.hid hsum
                  clear hr hX3 hD3 hrx r4 r5 hsum
                  by_cases h6 : s < (S : Int) + (n + t.size)
                  · have HN : Hid (¬ RightP ⟨b, m, s, l⟩) := Lib.hid (fun h => by
                      have a := sum2_take l (k + 1)
                      have c := h.2.2.2.2.2
                      have d := HS.out
                      simp only at c
                      omega)
                    go_wp2
                    go_ret
                    exact ⟨RightR.no HN.out, hBB3⟩
                  · go_wp2
                    go_roundw
                    case rel => exact ⟨k + 1, by omega, by go_num, by rw [HS.out], by rw [HS.out]; omega, HSU2.out HRX.out, hB3⟩
                    case measure => simp [intOf]; omega
              · have hkk : l.take k = l := List.take_of_length_le (by rw [HLEN.out]; omega)
                rw [hkk] at hsm HALL
                have z3 := hBX.cell (i := 2) rfl
                rw [hkk]
                by_cases h7 : ((sum2 l : Nat) : Int) = s
                · have HY : Hid (RightP ⟨b, m, s, l⟩) := Lib.hid ⟨H1.out, H2.out, by simp only; omega, by simp only; omega, HALL.out, h7⟩
                  have e7 : (((sum2 l : Nat) : Int) == s) = true := by simpa using h7
                  obtain ⟨S, hS⟩ : ∃ S, S = sum2 l := ⟨_, rfl⟩
                  rw [← hS] at e7
                  rw [← hS]
                  clear h7 hS hkk hsm hBX
                  go_wp2
                  go_ret
                  exact ⟨RightR.yes HY.out, hBB⟩
                · have HN : Hid (¬ RightP ⟨b, m, s, l⟩) := Lib.hid (fun h => h7 h.2.2.2.2.2)
                  have e7 : (((sum2 l : Nat) : Int) == s) = false := by simpa using h7
                  obtain ⟨S, hS⟩ : ∃ S, S = sum2 l := ⟨_, rfl⟩
                  rw [← hS] at e7
                  rw [← hS]
                  clear h7 hS hkk hsm hBX
                  go_wp2
                  go_ret
                  exact ⟨RightR.no HN.out, hBB⟩
    · have HN : Hid (¬ RightP ⟨b, m, s, l⟩) := Lib.hid (fun h => h2 h.2.1)
      rw [HV.out] at hBV
      go_wp2
      go_ret
      exact ⟨RightR.no HN.out, hBV⟩
  · have HN : Hid (¬ RightP ⟨b, m, s, l⟩) := Lib.hid (fun h => h1 h.1)
    rw [HV.out] at hBV
    go_wp2
    go_ret
    exact ⟨RightR.no HN.out, hBV⟩
open Classical in
noncomputable def rightD (d : Dl) : Bool := decide (RightP d)
open Classical in
theorem right_ret {d : Dl} {e : Ending} (h : RightR (RightP d) e) : e = .returned (.bool (rightD d)) := by
  obtain ⟨r, rfl, hr⟩ := h
  have : r = rightD d := by
    unfold rightD
    by_cases hp : RightP d
    · rw [decide_eq_true hp]; exact hr.2 hp
    · rw [decide_eq_false hp]; cases r with
      | false => rfl
      | true => exact absurd (hr.1 rfl) hp
  rw [this]
end Go.Proofs.YtgkcnocfijckoaaGreat
