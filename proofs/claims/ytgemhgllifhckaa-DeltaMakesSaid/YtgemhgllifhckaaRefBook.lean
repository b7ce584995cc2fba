/- The document's book (not real): place, Mark. Conditions: as named in each theorem. -/
import Derived.Test.YtgemhgllifhckaaOwnsBase
import Derived.Test.YtgemhgllifhckaaMarksNumR
namespace Go.Proofs.Ytgemhgllifhckaa
open Go.RowKit
set_option linter.unusedVariables false

/-- the document's book at q, its row v behind q, has numbered these texts -/
def RefB (w : World) (q : Nat) (v : Value) (seen : List (List UInt8)) : Prop :=
  Blk w q [.bool false, v] 38 ∧ ∃ ss : List ByteArray, ss.map (fun s : ByteArray => s.data.toList) = seen ∧ w.ownsRow (q + 1) 9 1 v ss.length (ss.map .string)
theorem RefB.kept {w w' : World} {q : Nat} {v : Value} {seen : List (List UInt8)} (h : RefB w q v seen) {T : Nat → Prop} (hk : Kept T w w') (h1 : ¬ T q) (h2 : ∀ k, v.ownBlock = some k → ¬ T k) : RefB w' q v seen := by
  obtain ⟨hb, ss, hs, hO⟩ := h
  refine ⟨?_, ss, hs, owns_block hO (fun k e => hk.block k (owns_lt hO e) (h2 k e))⟩
  have hl := hb.lt
  unfold Blk at hb ⊢
  rw [hk.block q hl h1]; exact hb
theorem RefB.next {w w' : World} {q : Nat} {v : Value} {seen : List (List UInt8)} (h : RefB w q v seen) (hb : Below w.heap.size w w') : RefB w' q v seen :=
  h.kept (Kept.of_below (fun _ => False) hb) (by simp) (by simp)

set_option maxHeartbeats 1000000 in
theorem place_any (w : World) (q : Nat) (v : Value) (seen : List (List UInt8)) (s : ByteArray) (h : RefB w q v seen) (hn : seen.length ≤ 1000000000000) :
    Calls Try.prog 86 #[.pointer (some ⟨q, 0, none⟩), .string s] w fun e w' =>
      ∃ r : Int, e = .returned (.int .i64 r) ∧ (s.data.toList ∈ seen → r = seen.idxOf s.data.toList) ∧ (s.data.toList ∉ seen → r = -1) ∧ w = w' := by
  obtain ⟨hb, ss, hs, hO⟩ := h
  have c0 := hb.cell (i := 1) rfl
  have hlen : ss.length = seen.length := by rw [← hs]; simp
  have HL := Lib.hid hlen
  have HS := Lib.hid hs
  clear hlen hs
  rcases (RowV.of_owns hO) with ⟨h0, ao, cap, rfl⟩ | ⟨b, off, cap, rfl, hc⟩
  · have hnil : seen = [] := List.eq_nil_of_length_eq_zero (by rw [← HL.out]; exact h0)
    subst hnil
    clear hO h0 hb
    go_enter Try.func86, Try.ntmps86
    go_wp2
    go_loopw [5] (fun i wr => i = .int .i64 0 ∧ w = wr) (fun _ _ => 0)
    case atStart => exact ⟨rfl, rfl⟩
    case round =>
      obtain ⟨rfl, rfl⟩ := hrel
      go_wp2
      go_ret
      exact ⟨_, rfl, by simp, fun _ => rfl, rfl⟩
  · have hle : ss.length ≤ 1000000000000 := by rw [HL.out]; exact hn
    clear hO hb
    go_enter Try.func86, Try.ntmps86
    go_wp2
    go_loopw [5] (fun i wr => ∃ k : Nat, k ≤ ss.length ∧ i = .int .i64 k ∧ s.data.toList ∉ seen.take k ∧ w = wr) (fun i _ => ss.length - (intOf i).toNat)
    case atStart => exact ⟨0, by omega, rfl, by simp, rfl⟩
    case round =>
      obtain ⟨k, hk, rfl, hni, rfl⟩ := hrel
      have HNI := Lib.hid hni
      clear hni
      by_cases hlt : k < ss.length
      · have ck := hc k (by omega)
        rw [show (ss.map Value.string).getD k undef = .string ss[k] by simp [List.getD, hlt]] at ck
        have hks : k < seen.length := by rw [← HL.out]; exact hlt
        have hkt : seen[k] = (ss[k]).data.toList := by simp [← HS.out]
        have htk := List.take_succ_eq_append_getElem hks
        rw [hkt] at htk
        obtain ⟨t, ht⟩ : ∃ t, t = ss[k] := ⟨_, rfl⟩
        rw [← ht] at ck hkt htk
        have HT := Lib.hid htk
        have HKS := Lib.hid hks
        clear ht hkt htk hc hks
        by_cases he : t.data.toList = s.data.toList
        · have q1 : (t.toList == s.toList) = true := beqS_t he
          have HE := Lib.hid he
          clear he
          go_wp2
          go_ret
          refine ⟨_, rfl, fun hin => ?_, fun hno => absurd (List.mem_of_mem_take (i := k + 1) (by rw [HT.out, HE.out]; simp)) hno, rfl⟩
          congr 1
          have e1 : seen = seen.take (k + 1) ++ seen.drop (k + 1) := (List.take_append_drop _ _).symm
          rw [e1, HT.out, HE.out, List.idxOf_append, if_pos (by simp), List.idxOf_append, if_neg HNI.out]
          have := HKS.out
          simp; omega
        · have q1 : (t.toList == s.toList) = false := beqS_f he
          have HE := Lib.hid he
          clear he
          go_wp2
          go_roundw
          case rel => exact ⟨k + 1, by omega, by go_num, by rw [HT.out]; simp only [List.mem_append, List.mem_singleton, not_or]; exact ⟨HNI.out, fun e => HE.out e.symm⟩, by simp⟩
          case measure => simp [intOf]; omega
      · have hkk : seen.take k = seen := List.take_of_length_le (by rw [← HL.out]; omega)
        go_wp2
        go_ret
        exact ⟨_, rfl, fun hin => absurd hin (by have := HNI.out; rwa [hkk] at this), fun _ => rfl, rfl⟩

set_option maxRecDepth 100000 in
set_option maxHeartbeats 1000000 in
theorem refMark_any (w : World) (q : Nat) (v : Value) (seen : List (List UInt8)) (s : ByteArray) (h : RefB w q v seen) (hn : seen.length ≤ 1000000000) :
    Calls Try.prog 42 #[.pointer (some ⟨q, 0, none⟩), .string s] w fun e w' =>
      ∃ v', e = .returned (.string (numS (seen.idxOf s.data.toList + 1))) ∧ RefB w' q v' (addS seen s.data.toList) ∧ Kept (fun k => k = q ∨ v.ownBlock = some k) w w' ∧ (∀ k, v'.ownBlock = some k → v.ownBlock = some k ∨ w.heap.size ≤ k) := by
  obtain ⟨i0, hi, hz0, hz1, hz2⟩ := info_parts infoStr
  have HR := Lib.hid h
  obtain ⟨hb, ss, hs, hO⟩ := h
  have c0 := hb.cell (i := 0) rfl
  have c1 := hb.cell (i := 1) rfl
  have hf1 := hb.frozen 1
  have hq := hb.lt
  have hlen : ss.length = seen.length := by rw [← hs]; simp
  have HL := Lib.hid hlen
  have HS := Lib.hid hs
  have HB := Lib.hid hb
  clear hlen hs hb
  by_cases hm : s.data.toList ∈ seen
  · have hix := idx_some hm
    obtain ⟨A, hA⟩ : ∃ A, A = seen.idxOf s.data.toList := ⟨_, rfl⟩
    rw [← hA] at hix
    rw [← hA]
    have HA := Lib.hid hA
    clear hA
    go_enter Try.func42, Try.ntmps42
    go_wp2_with fail
    refine (place_any _ _ _ _ s HR.out (by omega)).mono ?_
    rintro e w1 ⟨r, rfl, hr, _, rfl⟩
    have hr' := hr hm
    clear hr
    rw [← HA.out] at hr'
    subst hr'
    go_wp2_with fail
    refine (refNumber_any (A + 1) _ (by omega)).mono ?_
    rintro e w2 ⟨rfl, hb2⟩
    go_wp2
    go_ret
    refine ⟨v, rfl, ?_, Kept.of_below _ hb2, fun k hk => .inl hk⟩
    rw [addS, if_pos hm]
    exact HR.out.next hb2
  · have hix : seen.idxOf s.data.toList = seen.length := List.idxOf_eq_length hm
    rw [hix]
    have hO2 := hO
    rw [HL.out] at hO2
    clear hix hO
    go_enter Try.func42, Try.ntmps42
    go_wp2_with fail
    refine (place_any _ _ _ _ s HR.out (by omega)).mono ?_
    rintro e w1 ⟨r, rfl, _, hr, rfl⟩
    have hr' := hr hm
    clear hr
    subst hr'
    obtain ⟨ao, cap, rfl⟩ := owns_slice hO2
    go_wp2_with (at_builtin; refine wpList_append_own_at _ rfl _ _ 36 rfl (q + 1) 9 i0 (.string ByteArray.empty) 1 16 Try.underlying36 hi hz0 hz1 hz2 rfl (by decide) _ _ _ rfl (hO2.alloc _) ⟨w.heap.size, 0, none⟩ 1 1 [.string s] rfl rfl (cell1_new _ _ _) (one1 _ rfl) (by unfold maxLen; omega) (by omega) (by simp; omega) ?_)
    intro v' w5 hO5 hg5 _ hat
    have hne : (Value.slice ao seen.length cap).ownBlock ≠ some q := fun e' => by have := World.ownsRow.lt hO2 _ e'; omega
    have hB5 : Blk w5 q [.bool false, .slice ao seen.length cap] 38 := Blk.grown (Blk.alloc HB.out _) hg5 (fun e' => hne e'.symm)
    have hK5 : Kept (fun k => k = q ∨ (Value.slice ao seen.length cap).ownBlock = some k) w w5 := (Kept.of_grown (World.grownBy_alloc w _ none)).mono (by simp) |>.trans (Kept.of_grown hg5) (fun i _ e => .inr e)
    have c51 := hB5.cell (i := 1) rfl
    have hf5 := hB5.frozen 1
    clear hg5 c0 c1 hf1
    obtain ⟨ao', cap', rfl⟩ := owns_slice hO5
    obtain ⟨v', hv'⟩ : ∃ v', v' = Value.slice ao' (seen.length + 1) cap' := ⟨_, rfl⟩
    go_wp2_with fail
    rw [← hv'] at hO5 hat
    rw [← hv']
    have hB6 := hB5.set 1 v'
    have hK6 := hK5.set (p := q) (.inl rfl) 1 v'
    have hne' : v'.ownBlock ≠ some q := fun e' => by have := World.ownsRow.lt hO5 _ e'; omega
    have hO6 : (w5.setCell ⟨q, 1, none⟩ v').ownsRow (q + 1) 9 1 v' (seen.length + 1) (ss.map .string ++ [.string s]) := owns_block hO5 (fun k hk => Below.heap_setCell _ _ _ _ (by intro e; exact hne' (by rw [hk, e])))
    obtain ⟨w6, hw6⟩ : ∃ w6, w6 = w5.setCell ⟨q, 1, none⟩ v' := ⟨_, rfl⟩
    rw [← hw6] at hB6 hK6 hO6
    rw [← hw6]
    clear hw6 hB5 hK5 hO5 c51 hf5
    have hR6 : RefB w6 q v' (addS seen s.data.toList) := by
      refine ⟨hB6, ss ++ [s], ?_, ?_⟩
      · rw [addS, if_neg hm, List.map_append, HS.out]; rfl
      · simp only [List.length_append, HL.out, List.map_append]; exact hO6
    refine (refNumber_any (seen.length + 1) _ (by omega)).mono ?_
    rintro e w7 ⟨rfl, hb7⟩
    go_wp2
    go_ret
    refine ⟨v', rfl, hR6.next hb7, hK6.trans (Kept.of_below _ hb7) (fun _ _ h => h), fun k hk => ?_⟩
    rcases hat with hat | hat
    · exact .inl (by rw [← hat]; exact hk)
    · right
      rw [hat] at hk
      simp at hk
      omega
end Go.Proofs.Ytgemhgllifhckaa
