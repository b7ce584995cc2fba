/- Which messages may be, in the program. Conditions: as named in each theorem. -/
import Derived.Test.YtlcpnpoleaanmaaMsgHas
import Derived.Deep.Cut
namespace Go.Proofs.Ytlcpnpoleaanmaa
open Go.RowKit
set_option linter.unusedVariables false

theorem toList_nil (s : ByteArray) : s.toList = [] ↔ s.size = 0 := by
  rw [ByteArray.toList_eq]
  constructor
  · intro h
    have h2 := congrArg List.length h
    rw [Array.length_toList] at h2
    exact h2
  · intro h
    exact List.eq_nil_of_length_eq_zero (by rw [Array.length_toList]; exact h)

set_option maxRecDepth 100000 in
set_option maxHeartbeats 1000000 in
theorem part_any (w : World) (m : Mg) (ao : Option Addr) (n cap : Nat) :
    Calls Try.prog 29 #[.agg (mgC m (.slice ao n cap)).toArray] w fun e w' => AnsR (okPart m) e ∧ Below w.heap.size w w' := by
  have hB : Below w.heap.size w ((w.alloc (.cells (mgC m (.slice ao n cap)).toArray 26)).alloc (.cells #[.int .i64 m.pat, .int .i64 m.pof, .string m.ptext] 23)) := ((Below.refl _ _).alloc (Nat.le_refl _) _).alloc (by simp) _
  unfold mgC at hB ⊢
  have HB := Lib.hid hB
  clear hB
  have hd : okPart m ↔ ((hasF m.kind 80 = true → 0 ≤ m.pat ∧ 0 ≤ m.pof ∧ m.pat ≤ 4096 ∧ m.pof ≤ 4096 ∧ m.ptext.size ≤ 1024) ∧ (hasF m.kind 80 = false → m.pat = 0 ∧ m.pof = 0 ∧ m.ptext.size = 0)) := Iff.rfl
  by_cases hh : hasF m.kind 80 = true
  · have hd2 : okPart m ↔ (0 ≤ m.pat ∧ 0 ≤ m.pof ∧ m.pat ≤ 4096 ∧ m.pof ≤ 4096 ∧ m.ptext.size ≤ 1024) := by rw [hd, hh]; simp
    have HH := Lib.hid hh
    clear hd hh
    have fin : ∀ (b : Bool), (b = true ↔ okPart m) → AnsR (okPart m) (.returned (.bool b)) := fun b h => ⟨b, rfl, h⟩
    by_cases h1 : 0 ≤ m.pat
    · by_cases h2 : 0 ≤ m.pof
      · by_cases h3 : m.pat ≤ 4096
        · by_cases h4 : m.pof ≤ 4096
          · by_cases h5 : (m.ptext.size : Int) ≤ 1024
            · have d5 : decide ((m.ptext.size : Int) ≤ 1024) = true := decide_eq_true h5
              have HF : Hid (okPart m) := Lib.hid (hd2.2 ⟨h1, h2, h3, h4, by omega⟩)
              clear hd2
              go_enter Try.func29, Try.ntmps29
              go_wp2_with fail
              refine (has_any _ m.kind 112 80 (by decide)).mono ?_
              rintro e w1 ⟨rfl, rfl⟩
              rw [HH.out]
              go_wp2
              go_ret
              exact ⟨AnsR.yes HF.out, HB.out⟩
            · have d5 : decide ((m.ptext.size : Int) ≤ 1024) = false := decide_eq_false h5
              have HF : Hid (¬ okPart m) := Lib.hid (fun h => by have := hd2.1 h; omega)
              clear hd2
              go_enter Try.func29, Try.ntmps29
              go_wp2_with fail
              refine (has_any _ m.kind 112 80 (by decide)).mono ?_
              rintro e w1 ⟨rfl, rfl⟩
              rw [HH.out]
              go_wp2
              go_ret
              exact ⟨AnsR.no HF.out, HB.out⟩
          · have d5 : decide (m.pof ≤ 4096) = false := decide_eq_false h4
            have HF : Hid (¬ okPart m) := Lib.hid (fun h => by have := hd2.1 h; omega)
            clear hd2
            go_enter Try.func29, Try.ntmps29
            go_wp2_with fail
            refine (has_any _ m.kind 112 80 (by decide)).mono ?_
            rintro e w1 ⟨rfl, rfl⟩
            rw [HH.out]
            go_wp2
            go_ret
            exact ⟨AnsR.no HF.out, HB.out⟩
        · have HF : Hid (¬ okPart m) := Lib.hid (fun h => by have := hd2.1 h; omega)
          clear hd2
          go_enter Try.func29, Try.ntmps29
          go_wp2_with fail
          refine (has_any _ m.kind 112 80 (by decide)).mono ?_
          rintro e w1 ⟨rfl, rfl⟩
          rw [HH.out]
          go_wp2
          go_ret
          exact ⟨AnsR.no HF.out, HB.out⟩
      · have HF : Hid (¬ okPart m) := Lib.hid (fun h => by have := hd2.1 h; omega)
        clear hd2
        go_enter Try.func29, Try.ntmps29
        go_wp2_with fail
        refine (has_any _ m.kind 112 80 (by decide)).mono ?_
        rintro e w1 ⟨rfl, rfl⟩
        rw [HH.out]
        go_wp2
        go_ret
        exact ⟨AnsR.no HF.out, HB.out⟩
    · have HF : Hid (¬ okPart m) := Lib.hid (fun h => by have := hd2.1 h; omega)
      clear hd2
      go_enter Try.func29, Try.ntmps29
      go_wp2_with fail
      refine (has_any _ m.kind 112 80 (by decide)).mono ?_
      rintro e w1 ⟨rfl, rfl⟩
      rw [HH.out]
      go_wp2
      go_ret
      exact ⟨AnsR.no HF.out, HB.out⟩
  · have hh2 : hasF m.kind 80 = false := by simpa using hh
    have hd2 : okPart m ↔ (m.pat = 0 ∧ m.pof = 0 ∧ m.ptext.size = 0) := by rw [hd, hh2]; simp
    have HH := Lib.hid hh2
    clear hd hh hh2
    have HD := Lib.hid hd2
    clear hd2
    go_enter Try.func29, Try.ntmps29
    go_wp2_with fail
    refine (has_any _ m.kind 112 80 (by decide)).mono ?_
    rintro e w1 ⟨rfl, rfl⟩
    rw [HH.out]
    go_wp2
    all_goals
      go_ret
      refine ⟨?_, ((Below.refl _ _).alloc (Nat.le_refl _) _).alloc (by simp) _⟩
      first
        | exact AnsR.yes (HD.out.2 ⟨by assumption, by assumption, (toList_nil _).1 (by assumption)⟩)
        | exact AnsR.no (fun h => absurd ((toList_nil _).2 (HD.out.1 h).2.2) (by assumption))
        | exact AnsR.no (fun h => absurd (HD.out.1 h).2.1 (by assumption))
        | exact AnsR.no (fun h => absurd (HD.out.1 h).1 (by assumption))

def LstOk (m : Mg) : Prop := ∀ x ∈ m.list, x.mark.size ≤ maxLen
def EnAns (l : List En) (i : Nat) (e : Bool) : Prop := e = true ↔ enAt l i

set_option maxRecDepth 100000 in
set_option maxHeartbeats 1000000 in
theorem list_any (w : World) (m : Mg) (ao : Option Addr) (n cap : Nat) (hR : Rs w ao n cap 3 m.list enC) (hm : n ≤ maxLen) :
    Calls Try.prog 30 #[.agg (mgC m (.slice ao n cap)).toArray] w fun e w' => AnsR (okList m) e ∧ Below w.heap.size w w' := by
  obtain ⟨V, hV⟩ : ∃ V, V = w.alloc (.cells (mgC m (.slice ao n cap)).toArray 26) := ⟨_, rfl⟩
  obtain ⟨p, hp⟩ : ∃ p, p = w.heap.size := ⟨_, rfl⟩
  have hG : Blk V p (mgC m (.slice ao n cap)) 26 := by rw [hV, hp]; exact Blk.new _ _ _
  have hB : Below w.heap.size w V := by rw [hV]; exact below_alloc' _ _
  have hRV := hR.below hB (Nat.le_refl _)
  have hl : m.list.length = n := hR.2.2.1
  have hd : okList m ↔ ((hasF m.kind 76 = true → n ≤ 64 ∧ ∀ i, i < n → enAt m.list i) ∧ (hasF m.kind 76 = false → n = 0)) := by rw [← hl]; exact Iff.rfl
  have c0 := hG.cell (i := 0) rfl
  have c11 := hG.cell (i := 13) rfl
  unfold mgC at hV ⊢
  have HV := Lib.hid hV
  have HP := Lib.hid hp
  have HB := Lib.hid hB
  have HG := Lib.hid hG
  have HL := Lib.hid hl
  have HRV := Lib.hid hRV
  unfold maxLen at hm
  clear hV hp hG hB hR hRV hl
  by_cases hh : hasF m.kind 76 = true
  · have hd2 : okList m ↔ (n ≤ 64 ∧ ∀ i, i < n → enAt m.list i) := by rw [hd, hh]; simp
    have HH := Lib.hid hh
    have HD := Lib.hid hd2
    clear hd hh hd2
    by_cases h64 : n ≤ 64
    · go_enter Try.func30, Try.ntmps30
      go_upto_region 1 with fail
      rw [← HP.out, ← HV.out]
      go_wp2_with fail
      refine (has_any _ m.kind 108 76 (by decide)).mono ?_
      rintro e w1 ⟨rfl, rfl⟩
      rw [HH.out]
      go_wp2_with fail
      -- [list-round
      go_loopw [20] (fun i wr => ∃ k : Nat, k ≤ n ∧ i = .int .i64 k ∧ (∀ i, i < k → enAt m.list i) ∧ Below V.heap.size V wr) (fun i _ => n - (intOf i).toNat)
      case atStart => exact ⟨0, by omega, rfl, fun i h => absurd h (by omega), Below.refl _ _⟩
      case round =>
        clear c0 c11
        obtain ⟨k, hk, rfl, ha, hBw⟩ := hrel
        by_cases hlt : k < n
        · obtain ⟨b, off, rfl, hbw, hc⟩ := (HRV.out.below hBw (Nat.le_refl _)).2.2.2 (by omega)
          have hkl : k < m.list.length := by rw [HL.out]; exact hlt
          obtain ⟨x, hx⟩ : ∃ x, m.list[k]? = some x := ⟨_, List.getElem?_eq_getElem hkl⟩
          have hxe : m.list[k] = x := by rw [List.getElem?_eq_getElem hkl] at hx; exact Option.some.inj hx
          have hcx := hc k hkl
          rw [hxe] at hcx
          have a0 : wr.cell? ⟨b, off + k * 3, none⟩ = some (.int .i64 x.gen) := hcx 0 _ rfl
          have a1 : wr.cell? ⟨b, off + k * 3 + 1, none⟩ = some (.int .i64 x.ballot) := hcx 1 _ rfl
          have a2 : wr.cell? ⟨b, off + k * 3 + 2, none⟩ = some (.string x.mark) := hcx 2 _ rfl
          obtain ⟨X, hX⟩ : ∃ X, X = wr.alloc (Obj.cells #[.int .i64 x.gen, .int .i64 x.ballot, .string x.mark] 55) := ⟨_, rfl⟩
          obtain ⟨q, hq⟩ : ∃ q, q = wr.heap.size := ⟨_, rfl⟩
          have hxX : Blk X q [.int .i64 x.gen, .int .i64 x.ballot, .string x.mark] 55 := by rw [hX, hq]; exact Blk.new _ _ _
          have e0 := hxX.cell (i := 0) rfl
          have e1 := hxX.cell (i := 1) rfl
          have e2 := hxX.cell (i := 2) rfl
          have hBX : Below V.heap.size V X := by rw [hX]; exact hBw.alloc hBw.size _
          have g13 := (HG.out.below hBX HG.out.lt).cell (i := 13) rfl
          have HX := Lib.hid hx
          have HXX := Lib.hid hX
          have HQ := Lib.hid hq
          have HA := Lib.hid ha
          have HBX := Lib.hid hBX
          have i1 : (k : Int) < (n : Int) := by omega
          have hsz : x.mark.size ≤ maxLen ∨ True := .inr trivial
          have HRX := Lib.hid ((HRV.out.below hBX (Nat.le_refl _)).2.2.2 (by omega))
          clear hx hxe hcx hX hq hxX hBX ha hBw hc hbw hsz
          cases k with
          | zero =>
            clear HRX hkl
            simp only [Nat.zero_mul, Nat.add_zero] at a0 a1 a2
            go_upto_region 8 with fail
            rw [← HQ.out, ← HXX.out]
            clear a0 a1 a2
            by_cases t0 : x.gen < 0
            case pos =>
              have d0 : decide (x.gen < 0) = true := decide_eq_true t0
              have hno : ¬ okList m := by
                intro h
                have h2 := (HD.out.1 h).2 0 hlt x HX.out
                obtain ⟨⟨q1, q2, q3, q4, q5⟩, q6⟩ := h2
                omega
              have HF := Lib.hid hno
              clear hno
              clear hlt
              clear t0
              go_quiet (fail)
              go_wp2
              go_ret
              exact ⟨AnsR.no HF.out, below_drewN' (below_then' HB.out HBX.out) _⟩
            have d0 : decide (x.gen < 0) = false := decide_eq_false t0
            by_cases t1 : 4611686018427387903 < x.gen
            case pos =>
              have d1 : decide (4611686018427387903 < x.gen) = true := decide_eq_true t1
              have hno : ¬ okList m := by
                intro h
                have h2 := (HD.out.1 h).2 0 hlt x HX.out
                obtain ⟨⟨q1, q2, q3, q4, q5⟩, q6⟩ := h2
                omega
              have HF := Lib.hid hno
              clear hno
              clear hlt
              clear t0
              clear t1
              go_quiet (fail)
              go_wp2
              go_ret
              exact ⟨AnsR.no HF.out, below_drewN' (below_then' HB.out HBX.out) _⟩
            have d1 : decide (4611686018427387903 < x.gen) = false := decide_eq_false t1
            by_cases t2 : x.ballot < 0
            case pos =>
              have d2 : decide (x.ballot < 0) = true := decide_eq_true t2
              have hno : ¬ okList m := by
                intro h
                have h2 := (HD.out.1 h).2 0 hlt x HX.out
                obtain ⟨⟨q1, q2, q3, q4, q5⟩, q6⟩ := h2
                omega
              have HF := Lib.hid hno
              clear hno
              clear hlt
              clear t0
              clear t1
              clear t2
              go_quiet (fail)
              go_wp2
              go_ret
              exact ⟨AnsR.no HF.out, below_drewN' (below_then' HB.out HBX.out) _⟩
            have d2 : decide (x.ballot < 0) = false := decide_eq_false t2
            by_cases t3 : 4611686018427387903 < x.ballot
            case pos =>
              have d3 : decide (4611686018427387903 < x.ballot) = true := decide_eq_true t3
              have hno : ¬ okList m := by
                intro h
                have h2 := (HD.out.1 h).2 0 hlt x HX.out
                obtain ⟨⟨q1, q2, q3, q4, q5⟩, q6⟩ := h2
                omega
              have HF := Lib.hid hno
              clear hno
              clear hlt
              clear t0
              clear t1
              clear t2
              clear t3
              go_quiet (fail)
              go_wp2
              go_ret
              exact ⟨AnsR.no HF.out, below_drewN' (below_then' HB.out HBX.out) _⟩
            have d3 : decide (4611686018427387903 < x.ballot) = false := decide_eq_false t3
            by_cases t4 : x.mark.size = 32
            case neg =>
              have d4 : ((x.mark.size : Int) != 32) = true := by simp; omega
              have hno : ¬ okList m := by
                intro h
                have h2 := (HD.out.1 h).2 0 hlt x HX.out
                obtain ⟨⟨q1, q2, q3, q4, q5⟩, q6⟩ := h2
                omega
              have HF := Lib.hid hno
              clear hno
              clear hlt
              clear t0
              clear t1
              clear t2
              clear t3
              clear t4
              go_quiet (fail)
              go_wp2
              go_ret
              exact ⟨AnsR.no HF.out, below_drewN' (below_then' HB.out HBX.out) _⟩
            have d4 : ((x.mark.size : Int) != 32) = false := by simp; omega
            have hat : enAt m.list 0 := by
              intro x' hx'
              rw [HX.out] at hx'; cases hx'
              exact ⟨⟨by omega, by omega, by omega, by omega, by omega⟩, fun h => absurd h (by decide)⟩
            have HAT := Lib.hid hat
            clear hat
            clear hlt
            clear t0
            clear t1
            clear t2
            clear t3
            clear t4
            go_quiet (fail)
            go_wp2
            go_roundw
            case rel => exact ⟨0 + 1, by omega, by go_num, fun i hi => by
              rcases Nat.lt_or_ge i 0 with h | h
              · exact HA.out i h
              · obtain rfl : i = 0 := by omega
                exact HAT.out, below_drewN' HBX.out _⟩
            case measure => simp [intOf]; omega
          | succ j =>
            have hjl : j < m.list.length := by omega
            obtain ⟨y, hy⟩ : ∃ y, m.list[j]? = some y := ⟨_, List.getElem?_eq_getElem hjl⟩
            have hye : m.list[j] = y := by rw [List.getElem?_eq_getElem hjl] at hy; exact Option.some.inj hy
            have r0 : X.cell? ⟨b, off + j * 3, none⟩ = some (.int .i64 y.gen) := by
              obtain ⟨b', off', e, hb', hc'⟩ := HRX.out
              simp only [Option.some.injEq, Addr.mk.injEq, and_true] at e
              obtain ⟨rfl, rfl⟩ := e
              have := hc' j hjl
              rw [hye] at this
              exact this 0 _ rfl
            have HY := Lib.hid hy
            have j1 : IntKind.i64.wrap (((j + 1 : Nat) : Int) - 1) = (j : Int) := by rw [IntKind.wrap_i64]; omega
            have j2 : ((j + 1 : Nat) : Int) - 1 = (j : Int) := by omega
            have j3 : (0 : Int) ≤ (j : Int) := by omega
            have j4 : (j : Int) < (n : Int) := by omega
            have j5 : decide ((0 : Int) < ((j + 1 : Nat) : Int)) = true := decide_eq_true (by omega)
            clear HRX hkl hjl hy hye
            go_upto_region 8 with fail
            rw [← HQ.out, ← HXX.out]
            clear a0 a1 a2
            by_cases t0 : x.gen < 0
            case pos =>
              have d0 : decide (x.gen < 0) = true := decide_eq_true t0
              have hno : ¬ okList m := by
                intro h
                have h2 := (HD.out.1 h).2 (j + 1) hlt x HX.out
                obtain ⟨⟨q1, q2, q3, q4, q5⟩, q6⟩ := h2
                have q7 := q6 (by omega) y (by rw [Nat.add_sub_cancel]; exact HY.out)
                omega
              have HF := Lib.hid hno
              clear hno
              clear hlt
              clear t0
              go_quiet (fail)
              go_wp2
              go_ret
              exact ⟨AnsR.no HF.out, below_drewN' (below_then' HB.out HBX.out) _⟩
            have d0 : decide (x.gen < 0) = false := decide_eq_false t0
            by_cases t1 : 4611686018427387903 < x.gen
            case pos =>
              have d1 : decide (4611686018427387903 < x.gen) = true := decide_eq_true t1
              have hno : ¬ okList m := by
                intro h
                have h2 := (HD.out.1 h).2 (j + 1) hlt x HX.out
                obtain ⟨⟨q1, q2, q3, q4, q5⟩, q6⟩ := h2
                have q7 := q6 (by omega) y (by rw [Nat.add_sub_cancel]; exact HY.out)
                omega
              have HF := Lib.hid hno
              clear hno
              clear hlt
              clear t0
              clear t1
              go_quiet (fail)
              go_wp2
              go_ret
              exact ⟨AnsR.no HF.out, below_drewN' (below_then' HB.out HBX.out) _⟩
            have d1 : decide (4611686018427387903 < x.gen) = false := decide_eq_false t1
            by_cases t2 : x.ballot < 0
            case pos =>
              have d2 : decide (x.ballot < 0) = true := decide_eq_true t2
              have hno : ¬ okList m := by
                intro h
                have h2 := (HD.out.1 h).2 (j + 1) hlt x HX.out
                obtain ⟨⟨q1, q2, q3, q4, q5⟩, q6⟩ := h2
                have q7 := q6 (by omega) y (by rw [Nat.add_sub_cancel]; exact HY.out)
                omega
              have HF := Lib.hid hno
              clear hno
              clear hlt
              clear t0
              clear t1
              clear t2
              go_quiet (fail)
              go_wp2
              go_ret
              exact ⟨AnsR.no HF.out, below_drewN' (below_then' HB.out HBX.out) _⟩
            have d2 : decide (x.ballot < 0) = false := decide_eq_false t2
            by_cases t3 : 4611686018427387903 < x.ballot
            case pos =>
              have d3 : decide (4611686018427387903 < x.ballot) = true := decide_eq_true t3
              have hno : ¬ okList m := by
                intro h
                have h2 := (HD.out.1 h).2 (j + 1) hlt x HX.out
                obtain ⟨⟨q1, q2, q3, q4, q5⟩, q6⟩ := h2
                have q7 := q6 (by omega) y (by rw [Nat.add_sub_cancel]; exact HY.out)
                omega
              have HF := Lib.hid hno
              clear hno
              clear hlt
              clear t0
              clear t1
              clear t2
              clear t3
              go_quiet (fail)
              go_wp2
              go_ret
              exact ⟨AnsR.no HF.out, below_drewN' (below_then' HB.out HBX.out) _⟩
            have d3 : decide (4611686018427387903 < x.ballot) = false := decide_eq_false t3
            by_cases t4 : x.mark.size = 32
            case neg =>
              have d4 : ((x.mark.size : Int) != 32) = true := by simp; omega
              have hno : ¬ okList m := by
                intro h
                have h2 := (HD.out.1 h).2 (j + 1) hlt x HX.out
                obtain ⟨⟨q1, q2, q3, q4, q5⟩, q6⟩ := h2
                have q7 := q6 (by omega) y (by rw [Nat.add_sub_cancel]; exact HY.out)
                omega
              have HF := Lib.hid hno
              clear hno
              clear hlt
              clear t0
              clear t1
              clear t2
              clear t3
              clear t4
              go_quiet (fail)
              go_wp2
              go_ret
              exact ⟨AnsR.no HF.out, below_drewN' (below_then' HB.out HBX.out) _⟩
            have d4 : ((x.mark.size : Int) != 32) = false := by simp; omega
            by_cases t5 : x.gen ≤ y.gen
            case pos =>
              have d5 : decide (x.gen ≤ y.gen) = true := decide_eq_true t5
              have hno : ¬ okList m := by
                intro h
                have h2 := (HD.out.1 h).2 (j + 1) hlt x HX.out
                obtain ⟨⟨q1, q2, q3, q4, q5⟩, q6⟩ := h2
                have q7 := q6 (by omega) y (by rw [Nat.add_sub_cancel]; exact HY.out)
                omega
              have HF := Lib.hid hno
              clear hno
              clear hlt
              clear t0
              clear t1
              clear t2
              clear t3
              clear t4
              clear t5
              go_quiet (fail)
              go_wp2
              go_ret
              exact ⟨AnsR.no HF.out, below_drewN' (below_then' HB.out HBX.out) _⟩
            have d5 : decide (x.gen ≤ y.gen) = false := decide_eq_false t5
            have hat : enAt m.list (j + 1) := by
              intro x' hx'
              rw [HX.out] at hx'; cases hx'
              exact ⟨⟨by omega, by omega, by omega, by omega, by omega⟩, fun _ y' hy' => by rw [Nat.add_sub_cancel, HY.out] at hy'; cases hy'; omega⟩
            have HAT := Lib.hid hat
            clear hat
            clear hlt
            clear t0
            clear t1
            clear t2
            clear t3
            clear t4
            clear t5
            go_quiet (fail)
            go_wp2
            go_roundw
            case rel => exact ⟨(j + 1) + 1, by omega, by go_num, fun i hi => by
              rcases Nat.lt_or_ge i (j + 1) with h | h
              · exact HA.out i h
              · obtain rfl : i = j + 1 := by omega
                exact HAT.out, below_drewN' HBX.out _⟩
            case measure => simp [intOf]; omega
        · have hkn : k = n := by omega
          subst hkn
          have HF : Hid (okList m) := Lib.hid (HD.out.2 ⟨h64, ha⟩)
          have HBE := Lib.hid (below_then' HB.out hBw)
          clear ha hBw
          go_wp2
          go_ret
          exact ⟨AnsR.yes HF.out, HBE.out⟩
      -- list-round]
    · have HF : Hid (¬ okList m) := Lib.hid (fun h => h64 (HD.out.1 h).1)
      go_enter Try.func30, Try.ntmps30
      go_upto_region 1 with fail
      rw [← HP.out, ← HV.out]
      go_wp2_with fail
      refine (has_any _ m.kind 108 76 (by decide)).mono ?_
      rintro e w1 ⟨rfl, rfl⟩
      rw [HH.out]
      go_wp2
      go_ret
      exact ⟨AnsR.no HF.out, HB.out⟩
  · have hh2 : hasF m.kind 76 = false := by simpa using hh
    have hd2 : okList m ↔ n = 0 := by rw [hd, hh2]; simp
    have HH := Lib.hid hh2
    have HD := Lib.hid hd2
    clear hd hh hh2 hd2
    go_enter Try.func30, Try.ntmps30
    go_upto_region 1 with fail
    rw [← HP.out, ← HV.out]
    go_wp2_with fail
    refine (has_any _ m.kind 108 76 (by decide)).mono ?_
    rintro e w1 ⟨rfl, rfl⟩
    rw [HH.out]
    go_wp2
    go_ret
    exact ⟨⟨_, rfl, by rw [HD.out]; simp⟩, HB.out⟩
end Go.Proofs.Ytlcpnpoleaanmaa
