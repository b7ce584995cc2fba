/- MarksSums: the walk. No conditions. -/
import Derived.Test.YtjahdladcijhoaaShaRSum
import Derived.Test.YtjahdladcijhoaaMarksStep
import Derived.Test.YtjahdladcijhoaaMarksAwake
namespace Go.Proofs.Ytjahdladcijhoaa
open Go.RowKit
set_option linter.unusedVariables false

set_option maxHeartbeats 1000000 in
theorem marksSums_walk (w : World) (s : ByteArray) (hs0 : s.size ≤ 140737488351232) :
    Calls Try.prog 9 #[.string s] w fun e w' => e = .returned (.bool true) ∧ Below w.heap.size w w' := by
  have HM := Lib.hid (show s.size ≤ maxLen by unfold maxLen; omega)
  clear hs0
  go_enter Try.func9, Try.ntmps9
  go_wp2_with fail
  refine (cut_any _ _ _ HM.out (by decide)).mono ?_
  rintro e w1 ⟨t, rfl, ht, rfl⟩
  have HT := Lib.hid (show t.size ≤ 900000000 from Nat.le_trans ht (by decide))
  have HS := Lib.hid (rsum_any w t HT.out)
  have HM1 := Lib.hid (fun W => sum_s W t HT.out)
  have HM2 := Lib.hid (fun W p (h : RealB W p) => mark_real W p t h HT.out)
  obtain ⟨SS, hSS⟩ : ∃ SS, SS = shaS t := ⟨_, rfl⟩
  rw [← hSS] at HS HM1 HM2
  clear ht HM hSS
  have heq : (SS.toList == SS.toList) = true := by simp
  go_wp2_with fail
  refine HS.out.mono ?_
  rintro e w1 ⟨rfl, hb1⟩
  go_wp2_with fail
  refine (HM1.out _).mono ?_
  rintro e w2 ⟨rfl, hb2⟩
  have hb2' := hb1.trans (hb2.mono hb1.size)
  clear hb1 hb2
  go_wp2_with fail
  refine (real_any _).mono ?_
  rintro e w3 ⟨p, rfl, hR, hp, hb3⟩
  have hb3' := hb2'.trans (hb3.mono hb2'.size)
  clear hb2' hb3 hp
  go_wp2_with fail
  refine (HM2.out _ _ hR).mono ?_
  rintro e w4 ⟨rfl, hb4⟩
  have hb4' := hb3'.trans (hb4.mono hb3'.size)
  clear hb3' hb4 hR
  go_wp2_with fail
  refine (awake_any _).mono ?_
  rintro e w5 ⟨rfl, hb5⟩
  have hb5' := hb4'.trans (hb5.mono hb4'.size)
  clear hb4' hb5
  go_wp2
  go_ret
  exact ⟨rfl, hb5'⟩
end Go.Proofs.Ytjahdladcijhoaa
