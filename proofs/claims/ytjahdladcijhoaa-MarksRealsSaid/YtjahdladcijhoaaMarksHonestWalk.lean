/- MarksHonest: the walk. No conditions. -/
import Derived.Test.YtjahdladcijhoaaMarksAwake
import Derived.Test.YtjahdladcijhoaaArgs
namespace Go.Proofs.Ytjahdladcijhoaa
open Go.RowKit
set_option linter.unusedVariables false

/-- does a book take a mark for a text? -/
def takes (seen : List (List UInt8)) (s mk : List UInt8) : Bool := decide (s ∈ seen ∧ mk = numB (seen.idxOf s + 1))
theorem takes_add (seen : List (List UInt8)) (t s mk : List UInt8) : takes (addS seen t) s mk = (takes seen s mk || (decide (t = s) && decide (mk = numB (seen.idxOf t + 1)))) := by
  by_cases e : t = s
  · subst e
    unfold takes
    rw [idx_self]
    have : t ∈ addS seen t := (mem_addS _ _ _).2 (.inr rfl)
    by_cases h : t ∈ seen <;> simp [this, h]
  · have h1 : s ∈ addS seen t ↔ s ∈ seen := by rw [mem_addS]; constructor
                                               · rintro (h | h)
                                                 · exact h
                                                 · exact absurd h.symm e
                                               · exact .inl
    unfold takes
    by_cases h : s ∈ seen
    · rw [idx_addS h]; simp [h1, h, e]
    · simp [h1, h, e]

theorem is_takes {w : World} {p m : Nat} {seen : List (List UInt8)} {s mk : ByteArray} (h : BookI w p m seen) (hs : s.size ≤ maxLen) (hn : seen.length ≤ 1000000000000) (R : Bool) (hR : R = takes seen s.data.toList mk.data.toList) :
    Calls Try.prog 13 #[.pointer (some ⟨p, 0, none⟩), .string s, .string mk] w fun e w' => e = .returned (.bool R) ∧ Below w.heap.size w w' := by
  subst hR
  exact is_ideal w p m seen s mk h hs hn

set_option maxRecDepth 100000 in
theorem marksHonest_walk (w : World) (ao0 : Option Addr) (len0 cap : Nat) (ol : (Kd.sl .str).ok w [.slice ao0 len0 cap]) (s : ByteArray) (hs : s.size ≤ 140737488351232) (mk : ByteArray) (hmk : mk.size ≤ 140737488351232) :
    Calls Try.prog 4 #[.slice ao0 len0 cap, .string s, .string mk] w fun e w' => e = .returned (.bool true) ∧ Below w.heap.size w w' := by
  obtain ⟨ss0, hR0, hss0⟩ := strs_of ol
  clear ol
  have hsm : s.size ≤ maxLen := by unfold maxLen; omega
  have HSM := Lib.hid hsm
  clear hsm
  by_cases hcut : 40 < len0
  case' pos =>
    obtain ⟨b, off, rfl, hbw, hc⟩ := hR0.cell1 (by omega)
    have hR := hR0.take (m := 40) (by omega)
    have hss : ∀ x ∈ ss0.take 40, x.size ≤ maxLen := fun x hx => hss0 x (List.mem_of_mem_take hx)
    obtain ⟨ss, hsse⟩ : ∃ ss, ss = ss0.take 40 := ⟨_, rfl⟩
    rw [← hsse] at hR hss
    have hc40 : (40 : Int) ≤ (cap : Int) := by have := hR0.1; omega
    have hc41 : 40 ≤ cap := by have := hR0.1; omega
    have d0 : decide ((40 : Int) < (len0 : Int)) = true := by simp; omega
    clear hR0 hss0 hc hsse
    go_enter Try.func4, Try.ntmps4
    go_wp2_with fail
    obtain ⟨len, hlee⟩ : ∃ len : Nat, len = 40 := ⟨_, rfl⟩
    obtain ⟨ao, haoe⟩ : ∃ ao, ao = some (⟨b, off, none⟩ : Addr) := ⟨_, rfl⟩
    rw [← hlee, ← haoe] at hR
    rw [← hlee, ← haoe]
    have h40 : len ≤ 40 := by omega
    clear hlee haoe hbw hc40 hc41 d0 hcut
  case' neg =>
    obtain ⟨ss, hsse⟩ : ∃ ss, ss = ss0 := ⟨_, rfl⟩
    obtain ⟨ao, haoe⟩ : ∃ ao, ao = ao0 := ⟨_, rfl⟩
    obtain ⟨len, hlee⟩ : ∃ len, len = len0 := ⟨_, rfl⟩
    subst hsse
    subst haoe
    subst hlee
    have hR := hR0
    have hss := hss0
    have d0 : decide ((40 : Int) < (len : Int)) = false := by simp; omega
    have h40 : len ≤ 40 := by omega
    clear hR0 hss0
    go_enter Try.func4, Try.ntmps4
    go_wp2_with fail
    clear d0 hcut
  all_goals
    have hlen := hR.2.2.1
    have HL := Lib.hid hlen
    clear hlen
    refine (ideal_any _).mono ?_
    rintro e w1 ⟨rfl, hI, hB⟩
    obtain ⟨ts, hts⟩ : ∃ ts, ts = ss.map (fun x : ByteArray => x.data.toList) := ⟨_, rfl⟩
    have HT := Lib.hid hts
    clear hts
    go_wp2
    go_loopw [8, 9] (fun u i wr => ∃ k : Nat, k ≤ len ∧ i = .int .i64 k ∧ u = .bool (takes (seenL (ts.take k)) s.data.toList mk.data.toList) ∧ BookI wr (w.heap.size + 1) w.heap.size (seenL (ts.take k)) ∧ Below w.heap.size w wr) (fun _ i _ => len - (intOf i).toNat)
    case atStart => exact ⟨0, by omega, rfl, rfl, hI, hB⟩
    case round =>
      clear hI hB
      obtain ⟨k, hk, rfl, hu, hI, hB⟩ := hrel
      by_cases hlt : k < len
      · obtain ⟨b, off, rfl, hbw, hc⟩ := hR.cell1 (by omega)
        have hks : k < ss.length := by rw [HL.out]; exact hlt
        obtain ⟨t, ht⟩ : ∃ t, t = ss[k] := ⟨_, rfl⟩
        have hcell := (hB.cell (p := ⟨b, off + k, none⟩) hbw).trans (hc k hks _ rfl)
        have hcw := hc k hks _ rfl
        rw [← ht] at hcw
        have HCW := Lib.hid hcw
        clear hcw
        have hsz := hss _ (List.getElem_mem hks)
        have htk : ts.take (k + 1) = ts.take k ++ [t.data.toList] := by
          rw [List.take_succ_eq_append_getElem (by rw [HT.out]; simpa using hks)]
          congr 2
          simp [HT.out, ht]
        rw [← ht] at hcell hsz
        have HSZ := Lib.hid hsz
        have hsn : seenL (ts.take (k + 1)) = addS (seenL (ts.take k)) t.data.toList := by rw [htk, seenL_snoc]
        have hstep := takes_add (seenL (ts.take k)) t.data.toList s.data.toList mk.data.toList
        have hlk : (seenL (ts.take k)).length ≤ 1000000000000 := by
          have := seenL_len (ts.take k)
          have h2 := List.length_take_le k ts
          omega
        obtain ⟨A, hA⟩ : ∃ A, A = seenL (ts.take k) := ⟨_, rfl⟩
        rw [← hA] at hu hI hsn hstep hlk
        obtain ⟨N, hN⟩ : ∃ N, N = A.idxOf t.data.toList + 1 := ⟨_, rfl⟩
        rw [← hN] at hstep
        have HN := Lib.hid hN
        have HSN := Lib.hid hsn
        have HST := Lib.hid hstep
        subst hu
        clear hR hss hc hsz ht htk hsn hstep hA hN
        cases hold : takes A s.data.toList mk.data.toList
        · by_cases hq : t.data.toList = s.data.toList
          · have q1 : (t.toList == s.toList) = true := beqS_t hq
            have Q1 := Lib.hid (show decide (t.data.toList = s.data.toList) = true by simp [hq])
            by_cases hm : mk.data.toList = numB N
            · have q2 : ((numS N).toList == mk.toList) = true := beqS_t hm.symm
              have Q2 := Lib.hid (show decide (mk.data.toList = numB N) = true by simp [hm])
              clear hq hm
              go_wp2_with fail
              refine (mark_as hI HSZ.out hlk N _ HN.out.symm rfl).mono ?_
              rintro e w4 ⟨rfl, hI4, hg4⟩
              have hB4 := book_step (p := 0) hB (Nat.le_refl _) hg4
              clear hI hB hg4 hcell
              have hc4 := (hB4.cell (p := ⟨b, off + k, none⟩) hbw).trans HCW.out
              go_wp2
              go_roundw
              case rel => exact ⟨k + 1, by omega, by go_num, by rw [HSN.out, HST.out, hold, Q1.out, Q2.out]; rfl, by rw [HSN.out]; exact hI4, hB4⟩
              case measure => simp [intOf]; omega
            · have q2 : ((numS N).toList == mk.toList) = false := beqS_f (fun e => hm e.symm)
              have Q2 := Lib.hid (show decide (mk.data.toList = numB N) = false by simp [hm])
              clear hq hm
              go_wp2_with fail
              refine (mark_as hI HSZ.out hlk N _ HN.out.symm rfl).mono ?_
              rintro e w4 ⟨rfl, hI4, hg4⟩
              have hB4 := book_step (p := 0) hB (Nat.le_refl _) hg4
              clear hI hB hg4 hcell
              have hc4 := (hB4.cell (p := ⟨b, off + k, none⟩) hbw).trans HCW.out
              go_wp2
              go_roundw
              case rel => exact ⟨k + 1, by omega, by go_num, by rw [HSN.out, HST.out, hold, Q1.out, Q2.out]; rfl, by rw [HSN.out]; exact hI4, hB4⟩
              case measure => simp [intOf]; omega
          · have q1 : (t.toList == s.toList) = false := beqS_f hq
            have Q1 := Lib.hid (show decide (t.data.toList = s.data.toList) = false by simp [hq])
            clear hq
            go_wp2_with fail
            refine (mark_as hI HSZ.out hlk N _ HN.out.symm rfl).mono ?_
            rintro e w4 ⟨rfl, hI4, hg4⟩
            have hB4 := book_step (p := 0) hB (Nat.le_refl _) hg4
            clear hI hB hg4 hcell
            have hc4 := (hB4.cell (p := ⟨b, off + k, none⟩) hbw).trans HCW.out
            go_wp2
            go_roundw
            case rel => exact ⟨k + 1, by omega, by go_num, by rw [HSN.out, HST.out, hold, Q1.out, Bool.false_and]; rfl, by rw [HSN.out]; exact hI4, hB4⟩
            case measure => simp [intOf]; omega
        · go_wp2_with fail
          refine (mark_as hI HSZ.out hlk N _ HN.out.symm rfl).mono ?_
          rintro e w4 ⟨rfl, hI4, hg4⟩
          have hB4 := book_step (p := 0) hB (Nat.le_refl _) hg4
          clear hI hB hg4 hcell
          have hc4 := (hB4.cell (p := ⟨b, off + k, none⟩) hbw).trans HCW.out
          go_wp2
          go_roundw
          case rel => exact ⟨k + 1, by omega, by go_num, by rw [HSN.out, HST.out, hold, Bool.true_or], by rw [HSN.out]; exact hI4, hB4⟩
          case measure => simp [intOf]; omega
      · have htt : ts.take k = ts := List.take_of_length_le (by rw [HT.out]; simp; have := HL.out; omega)
        rw [htt] at hI hu
        have hlk : (seenL ts).length ≤ 1000000000000 := by
          have := seenL_len ts
          have h3 := HL.out
          rw [HT.out] at this ⊢
          simp at this ⊢
          omega
        obtain ⟨A, hA⟩ : ∃ A, A = seenL ts := ⟨_, rfl⟩
        rw [← hA] at hu hI hlk
        obtain ⟨R, hRR⟩ : ∃ R, R = takes A s.data.toList mk.data.toList := ⟨_, rfl⟩
        have HR := Lib.hid hRR
        rw [← hRR] at hu
        subst hu
        clear htt hA hRR hss hR
        go_wp2_with fail
        refine (is_takes hI HSM.out hlk R HR.out).mono ?_
        rintro e w4 ⟨rfl, hb4⟩
        have hB4 : Below w.heap.size w w4 := hB.trans (hb4.mono hB.size)
        clear hI hB hb4
        go_wp2_with fail
        refine (awake_any _).mono ?_
        rintro e w5 ⟨rfl, hb5⟩
        have hB5 : Below w.heap.size w w5 := hB4.trans (hb5.mono hB4.size)
        clear hB4 hb5
        go_wp2
        go_ret
        exact ⟨rfl, hB5⟩
end Go.Proofs.Ytjahdladcijhoaa
