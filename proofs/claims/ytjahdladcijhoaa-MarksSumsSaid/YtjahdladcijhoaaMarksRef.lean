/- The document's book (not real): Is; and cut. Conditions: as named in each theorem. -/
import Derived.Test.YtjahdladcijhoaaMarksHonestWalk
import Derived.Test.YtjahdladcijhoaaMarksNumR
import Derived.Test.YtjahdladcijhoaaRefBook
import Derived.Deep.RegionHeld3
import Derived.BigQuiet
import Derived.Maps.AppendAt
namespace Go.Proofs.Ytjahdladcijhoaa
open Go.RowKit
set_option linter.unusedVariables false

set_option maxHeartbeats 600000 in
theorem refIs_any (w : World) (q : Nat) (v : Value) (seen : List (List UInt8)) (s mk : ByteArray) (h : RefB w q v seen) (hn : seen.length ≤ 1000000000) (R : Bool) (hR : R = takes seen s.data.toList mk.data.toList) :
    Calls Try.prog 26 #[.pointer (some ⟨q, 0, none⟩), .string s, .string mk] w fun e w' => e = .returned (.bool R) ∧ Below w.heap.size w w' := by
  have HR := Lib.hid h
  obtain ⟨hb, ss, hs, hO⟩ := h
  have c0 := hb.cell (i := 0) rfl
  have c1 := hb.cell (i := 1) rfl
  clear hb hs hO
  unfold takes at hR
  by_cases hm : s.data.toList ∈ seen
  · have hix := idx_some hm
    obtain ⟨A, hA⟩ : ∃ A, A = seen.idxOf s.data.toList := ⟨_, rfl⟩
    rw [← hA] at hix hR
    have HA := Lib.hid hA
    clear hA
    by_cases he : mk.data.toList = numB (A + 1)
    · have q1 : (mk.toList == (numS (A + 1)).toList) = true := beqS_t he
      have hR2 : R = true := by rw [hR]; simp [hm, he]
      clear hR he
      subst hR2
      go_enter Try.func26, Try.ntmps26
      go_wp2_with fail
      refine (place_any _ _ _ _ s HR.out (by omega)).mono ?_
      rintro e w1 ⟨r, rfl, hr, _, rfl⟩
      have hr' := hr hm
      clear hr
      rw [← HA.out] at hr'
      subst hr'
      go_wp2_with fail
      refine (refNumber_any (A + 1) _ (by omega)).mono ?_
      rintro e w2 ⟨rfl, hb2⟩
      go_wp2
      go_ret
      exact ⟨rfl, hb2⟩
    · have q1 : (mk.toList == (numS (A + 1)).toList) = false := beqS_f he
      have hR2 : R = false := by rw [hR]; simp [hm, he]
      clear hR he
      subst hR2
      go_enter Try.func26, Try.ntmps26
      go_wp2_with fail
      refine (place_any _ _ _ _ s HR.out (by omega)).mono ?_
      rintro e w1 ⟨r, rfl, hr, _, rfl⟩
      have hr' := hr hm
      clear hr
      rw [← HA.out] at hr'
      subst hr'
      go_wp2_with fail
      refine (refNumber_any (A + 1) _ (by omega)).mono ?_
      rintro e w2 ⟨rfl, hb2⟩
      go_wp2
      go_ret
      exact ⟨rfl, hb2⟩
  · have hR2 : R = false := by rw [hR]; simp [hm]
    clear hR
    subst hR2
    go_enter Try.func26, Try.ntmps26
    go_wp2_with fail
    refine (place_any _ _ _ _ s HR.out (by omega)).mono ?_
    rintro e w1 ⟨r, rfl, _, hr, rfl⟩
    have hr' := hr hm
    clear hr
    subst hr'
    go_wp2
    go_ret
    exact ⟨rfl, Below.refl _ _⟩

def cutS (s : ByteArray) (n : Nat) : ByteArray := if n < s.size then s.extract 0 n else s
theorem cut_any (s : ByteArray) (n : Nat) (w : World) (hs : s.size ≤ maxLen) (hn : n ≤ 1000000) :
    Calls Try.prog 18 #[.string s, .int .i64 n] w fun e w' => ∃ t : ByteArray, e = .returned (.string t) ∧ t.size ≤ n ∧ w = w' := by
  unfold maxLen at hs
  by_cases h : n < s.size
  · go_enter Try.func18, Try.ntmps18
    go_wp2
    go_ret
    exact ⟨_, rfl, by simp; omega, rfl⟩
  · go_enter Try.func18, Try.ntmps18
    go_wp2
    go_ret
    exact ⟨_, rfl, by omega, rfl⟩
end Go.Proofs.Ytjahdladcijhoaa
