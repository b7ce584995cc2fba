/- Messages in memory; has, the document's Has, number, fits. Conditions: the letter is one of the nine. -/
import Derived.Test.YtlcpnpoleaanmaaMsgForm
import Derived.Test.YtlcpnpoleaanmaaShIndex
import Derived.Test.YtlcpnpoleaanmaaArgs
import Derived.Test.YtlcpnpoleaanmaaOwnsBase
import Derived.Lib.IndexAny
namespace Go.Proofs.Ytlcpnpoleaanmaa
open Go.RowKit
set_option linter.unusedVariables false

def mgC (m : Mg) (v : Value) : List Value := [.int .i64 m.kind, .int .i64 m.src, .int .i64 m.dst, .int .i64 m.ballot, .int .i64 m.gen, .int .i64 m.basis, .int .i64 m.floor, .int .i64 m.top, .int .i64 m.read, .string m.mark, .int .i64 m.pat, .int .i64 m.pof, .string m.ptext, v]
def enC (x : En) : List Value := [.int .i64 x.gen, .int .i64 x.ballot, .string x.mark]
theorem en_len (x : En) : (enC x).length = 3 := rfl
def AnsR (P : Prop) (e : Ending) : Prop := ∃ r : Bool, e = .returned (.bool r) ∧ (r = true ↔ P)
theorem AnsR.yes {P : Prop} (h : P) : AnsR P (.returned (.bool true)) := ⟨true, rfl, (fun _ => h), fun _ => rfl⟩
theorem AnsR.no {P : Prop} (h : ¬ P) : AnsR P (.returned (.bool false)) := ⟨false, rfl, (fun h => by cases h), fun h2 => absurd h2 h⟩
theorem strNe' {t : ByteArray} (h : t.size ≠ 0) : (t.toList == []) = false := by
  rw [ByteArray.toList_eq]
  cases ht : t.data.toList with
  | nil =>
    exfalso; apply h
    have : t.data.toList.length = 0 := by rw [ht]; rfl
    simpa using this
  | cons a l => rfl
theorem below_alloc' (w : World) (o : Obj) : Below w.heap.size w (w.alloc o) := (Below.refl _ _).alloc (Nat.le_refl _) _
theorem below_then' {a w w' : World} (h : Below a.heap.size a w) (h2 : Below w.heap.size w w') : Below a.heap.size a w' := h.trans (h2.mono h.size)

theorem low_mem (k : Int) (u : UInt8) : decide (0 ≤ Lib.indexByte (low (flds k)) (u + 32)) = hasF k u := by
  rw [← Lib.contains_iff_indexByte]
  unfold hasF low
  rw [List.contains_eq_mem]
  congr 1
  rw [eq_iff_iff, List.mem_map]
  constructor
  · rintro ⟨a, ha, e⟩
    have : a = u := by simpa using e
    exact this ▸ ha
  · intro h; exact ⟨u, h, rfl⟩
theorem byte_of (u : UInt8) : ((u.toNat : Int)).toNat.toUInt8 = u := by simp
theorem has_any (w : World) (k : Int) (c : UInt8) (u : UInt8) (hc : c = u + 32) :
    Calls Try.prog 28 #[.int .i64 k, .int .u8 (c.toNat : Nat)] w fun e w' => e = .returned (.bool (hasF k u)) ∧ w = w' := by
  have hl := low_mem k u
  rw [← hc] at hl
  have HL := Lib.hid hl
  clear hl hc
  go_enter Try.func28, Try.ntmps28
  go_wp2_with fail
  refine (form_any w k).mono ?_
  rintro e w1 ⟨rfl, rfl⟩
  go_wp2_with fail
  refine (Any.strings_IndexByte shIndex (lowS k) (c.toNat : Nat) _).mono ?_
  rintro e w1 ⟨rfl, rfl⟩
  have hx : Lib.indexByte (lowS k).data.toList ((c.toNat : Nat) : Int).toNat.toUInt8 = Lib.indexByte (low (flds k)) c := by rw [byte_of]; rfl
  rw [hx]
  obtain ⟨X, hX⟩ : ∃ X, X = Lib.indexByte (low (flds k)) c := ⟨_, rfl⟩
  rw [← hX]
  rw [← hX] at HL
  clear hX hx
  go_wp2
  go_ret
  exact ⟨ret_v (congrArg Value.bool HL.out), rfl⟩

theorem getS (l : List UInt8) (k : Nat) (h : k < l.length) (h2 : k < (⟨l.toArray⟩ : ByteArray).size) : (⟨l.toArray⟩ : ByteArray)[k] = l[k] := rfl
theorem rhas_any (w : World) (k : Int) (u : UInt8) :
    Calls Try.prog 33 #[.int .i64 k, .int .u8 (u.toNat : Nat)] w fun e w' => e = .returned (.bool (hasF k u)) ∧ w = w' := by
  have hsz : (fldS k).size = (flds k).length := rfl
  have hl5 := flds_len k
  have hb : (fldS k).size ≤ 5 := by rw [hsz]; exact hl5
  have HZ := Lib.hid hsz
  clear hsz hl5
  go_enter Try.func33, Try.ntmps33
  go_wp2_with fail
  refine (fields_any w k).mono ?_
  rintro e w1 ⟨rfl, rfl⟩
  go_wp2_with fail
  go_loop [6] (fun i => ∃ j : Nat, j ≤ (fldS k).size ∧ i = .int .i64 j ∧ u ∉ (flds k).take j) (fun i => (fldS k).size - (intOf i).toNat)
  case atStart => exact ⟨0, by omega, rfl, by simp⟩
  case round =>
    obtain ⟨j, hj, rfl, hn⟩ := hrel
    by_cases hlt : j < (fldS k).size
    · have hj2 : j < (flds k).length := by rw [← HZ.out]; exact hlt
      have hg : (fldS k)[j] = (flds k)[j] := rfl
      have htk : (flds k).take (j + 1) = (flds k).take j ++ [(fldS k)[j]] := by rw [List.take_succ_eq_append_getElem hj2, hg]
      have hmem : (fldS k)[j] ∈ flds k := by rw [hg]; exact List.getElem_mem hj2
      by_cases he : (fldS k)[j] = u
      · have hr : hasF k u = true := by unfold hasF; rw [he] at hmem; simpa using hmem
        have heb : (((fldS k)[j].toNat : Int) == (u.toNat : Int)) = true := by rw [he]; simp
        have HR := Lib.hid hr
        clear htk hmem hg hn he hr
        go_wp2
        go_ret
        exact ⟨ret_v (congrArg Value.bool HR.out.symm), rfl⟩
      · have heb : (((fldS k)[j].toNat : Int) == (u.toNat : Int)) = false := by
          simp only [beq_eq_false_iff_ne, ne_eq, Int.natCast_inj]
          intro h; exact he (UInt8.toNat_inj.1 h)
        have hn2 : u ∉ (flds k).take (j + 1) := by
          rw [htk]; simp only [List.mem_append, List.mem_singleton, not_or]
          exact ⟨hn, fun h => he h.symm⟩
        have HN := Lib.hid hn2
        clear htk hmem hg hn he hn2
        go_wp2
        go_round
        case rel => exact ⟨j + 1, by omega, by go_num, HN.out⟩
        case measure => simp [intOf]; omega
    · have hr : hasF k u = false := by
        unfold hasF
        rw [List.take_of_length_le (by rw [← HZ.out]; omega)] at hn
        simpa using hn
      have HR := Lib.hid hr
      clear hn hr
      go_wp2
      go_ret
      exact ⟨ret_v (congrArg Value.bool HR.out.symm), rfl⟩

theorem fits_any (w : World) (n : Int) :
    Calls Try.prog 34 #[.int .i64 n] w fun e w' => e = .returned (.bool (inNum n)) ∧ w = w' := by
  by_cases h1 : 0 ≤ n
  · by_cases h2 : n ≤ 4611686018427387903
    · have d2 : decide (n ≤ 4611686018427387903) = true := decide_eq_true h2
      have HR : Hid (inNum n = true) := Lib.hid (by unfold inNum; exact decide_eq_true ⟨h1, h2⟩)
      go_enter Try.func34, Try.ntmps34
      go_wp2
      go_ret
      exact ⟨ret_v (congrArg Value.bool HR.out.symm), rfl⟩
    · have d2 : decide (n ≤ 4611686018427387903) = false := decide_eq_false h2
      have HR : Hid (inNum n = false) := Lib.hid (by unfold inNum; exact decide_eq_false (fun h => h2 h.2))
      go_enter Try.func34, Try.ntmps34
      go_wp2
      go_ret
      exact ⟨ret_v (congrArg Value.bool HR.out.symm), rfl⟩
  · have HR : Hid (inNum n = false) := Lib.hid (by unfold inNum; exact decide_eq_false (fun h => h1 h.1))
    go_enter Try.func34, Try.ntmps34
    go_wp2
    go_ret
    exact ⟨ret_v (congrArg Value.bool HR.out.symm), rfl⟩

set_option maxHeartbeats 1000000 in
/-- the program's closure 'number' -/
theorem isnum_any (w : World) (p : Nat) (m : Mg) (v : Value) (hG : Blk w p (mgC m v) 26) (c u : UInt8) (hc : c = u + 32) (n : Int) :
    Calls Try.prog 27 #[.int .u8 (c.toNat : Nat), .int .i64 n, .pointer (some ⟨p, 0, none⟩)] w fun e w' => e = .returned (.bool (okNum m.kind u n)) ∧ w = w' := by
  have c0 := hG.cell (i := 0) rfl
  obtain ⟨R, hR⟩ : ∃ R, R = okNum m.kind u n := ⟨_, rfl⟩
  rw [← hR]
  unfold okNum at hR
  have HC := Lib.hid hc
  clear hG hc
  by_cases hh : hasF m.kind u = true
  · rw [if_pos hh] at hR
    by_cases h1 : 0 ≤ n
    · by_cases h2 : n ≤ 4611686018427387903
      · have hr : R = true := by rw [hR]; unfold inNum; exact decide_eq_true ⟨h1, h2⟩
        clear hR
        subst hr
        have HH := Lib.hid hh
        have d2 := (decide_eq_true h2 : decide (n ≤ 4611686018427387903) = true)
        clear hh
        go_enter Try.func27, Try.ntmps27
        go_wp2_with fail
        refine (has_any w m.kind c u HC.out).mono ?_
        rintro e w1 ⟨rfl, rfl⟩
        rw [HH.out]
        go_wp2
        go_ret
        exact ⟨rfl, rfl⟩
      · have hr : R = false := by rw [hR]; unfold inNum; exact decide_eq_false (fun h => h2 h.2)
        clear hR
        subst hr
        have HH := Lib.hid hh
        have d2 := (decide_eq_false h2 : decide (n ≤ 4611686018427387903) = false)
        clear hh
        go_enter Try.func27, Try.ntmps27
        go_wp2_with fail
        refine (has_any w m.kind c u HC.out).mono ?_
        rintro e w1 ⟨rfl, rfl⟩
        rw [HH.out]
        go_wp2
        go_ret
        exact ⟨rfl, rfl⟩
    · have hr : R = false := by rw [hR]; unfold inNum; exact decide_eq_false (fun h => h1 h.1)
      clear hR
      subst hr
      have HH := Lib.hid hh
      clear hh
      go_enter Try.func27, Try.ntmps27
      go_wp2_with fail
      refine (has_any w m.kind c u HC.out).mono ?_
      rintro e w1 ⟨rfl, rfl⟩
      rw [HH.out]
      go_wp2
      go_ret
      exact ⟨rfl, rfl⟩
  · rw [if_neg hh] at hR
    have hh2 : hasF m.kind u = false := by simpa using hh
    have HH := Lib.hid hh2
    have HR := Lib.hid hR
    clear hh hh2 hR
    go_enter Try.func27, Try.ntmps27
    go_wp2_with fail
    refine (has_any w m.kind c u HC.out).mono ?_
    rintro e w1 ⟨rfl, rfl⟩
    rw [HH.out]
    go_wp2
    go_ret
    exact ⟨by rw [HR.out]; first | rfl | (congr 2; simp [BEq.beq]), rfl⟩

theorem chEq {c d : UInt8} {x : Int} (hx : ((d.toNat : Nat) : Int) = x) (h : c = d) : ((c.toNat : Int) == x) = true := by subst h; simpa using hx
theorem chNe {c d : UInt8} {x : Int} (hx : ((d.toNat : Nat) : Int) = x) (h : c ≠ d) : ((c.toNat : Int) == x) = false := by
  subst hx
  simp only [beq_eq_false_iff_ne, ne_eq, Int.natCast_inj]
  intro e; exact h (UInt8.toNat_inj.1 e)

set_option maxRecDepth 100000 in
set_option maxHeartbeats 1000000 in
/-- the document's number by its letter -/
theorem number_any (w : World) (m : Mg) (ao : Option Addr) (n cap : Nat) (c : UInt8) :
    Calls Try.prog 32 #[.agg (mgC m (.slice ao n cap)).toArray, .int .u8 (c.toNat : Nat)] w fun e w' => e = .returned (.int .i64 (numM m c)) ∧ w' = w.alloc (.cells (mgC m (.slice ao n cap)).toArray 26) := by
  obtain ⟨N, hN⟩ : ∃ N, N = numM m c := ⟨_, rfl⟩
  rw [← hN]
  unfold numM at hN
  unfold mgC
  by_cases h0 : c = 66
  · rw [if_pos h0] at hN
    have b0 := chEq (x := 66) rfl h0
    clear h0
    have HN : Hid (N = m.ballot) := Lib.hid hN
    clear hN
    go_enter Try.func32, Try.ntmps32
    go_wp2
    go_ret
    exact ⟨ret_v (int_v HN.out.symm), rfl⟩
  rw [if_neg h0] at hN
  have b0 := chNe (x := 66) rfl h0
  clear h0
  by_cases h1 : c = 71
  · rw [if_pos h1] at hN
    have b1 := chEq (x := 71) rfl h1
    clear h1
    have HN : Hid (N = m.gen) := Lib.hid hN
    clear hN
    go_enter Try.func32, Try.ntmps32
    go_wp2
    go_ret
    exact ⟨ret_v (int_v HN.out.symm), rfl⟩
  rw [if_neg h1] at hN
  have b1 := chNe (x := 71) rfl h1
  clear h1
  by_cases h2 : c = 83
  · rw [if_pos h2] at hN
    have b2 := chEq (x := 83) rfl h2
    clear h2
    have HN : Hid (N = m.basis) := Lib.hid hN
    clear hN
    go_enter Try.func32, Try.ntmps32
    go_wp2
    go_ret
    exact ⟨ret_v (int_v HN.out.symm), rfl⟩
  rw [if_neg h2] at hN
  have b2 := chNe (x := 83) rfl h2
  clear h2
  by_cases h3 : c = 70
  · rw [if_pos h3] at hN
    have b3 := chEq (x := 70) rfl h3
    clear h3
    have HN : Hid (N = m.floor) := Lib.hid hN
    clear hN
    go_enter Try.func32, Try.ntmps32
    go_wp2
    go_ret
    exact ⟨ret_v (int_v HN.out.symm), rfl⟩
  rw [if_neg h3] at hN
  have b3 := chNe (x := 70) rfl h3
  clear h3
  by_cases h4 : c = 84
  · rw [if_pos h4] at hN
    have b4 := chEq (x := 84) rfl h4
    clear h4
    have HN : Hid (N = m.top) := Lib.hid hN
    clear hN
    go_enter Try.func32, Try.ntmps32
    go_wp2
    go_ret
    exact ⟨ret_v (int_v HN.out.symm), rfl⟩
  rw [if_neg h4] at hN
  have b4 := chNe (x := 84) rfl h4
  clear h4
  have HN : Hid (N = m.read) := Lib.hid hN
  clear hN
  go_enter Try.func32, Try.ntmps32
  go_wp2
  go_ret
  exact ⟨ret_v (int_v HN.out.symm), rfl⟩
end Go.Proofs.Ytlcpnpoleaanmaa
