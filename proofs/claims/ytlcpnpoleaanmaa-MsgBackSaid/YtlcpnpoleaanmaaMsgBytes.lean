/- A message as bytes, under the ideal book, and without one; chapter 17's example. Conditions: as named in each theorem. -/
import Derived.Test.YtlcpnpoleaanmaaMsgBodyA
import Derived.Test.YtlcpnpoleaanmaaMsgRefRight0
import Derived.Test.YtlcpnpoleaanmaaSeen
namespace Go.Proofs.Ytlcpnpoleaanmaa
open Go.RowKit
set_option linter.unusedVariables false

/-- a message's bytes, number n's mark behind -/
def mgS (m : Mg) (n : Nat) : ByteArray := bA (bodyL m) ++ numS n
theorem mgS_list (m : Mg) (n : Nat) : (mgS m n).data.toList = bodyL m ++ numB n := by
  unfold mgS
  rw [ByteArray.data_append, Array.toList_append]
  rfl
theorem body_bd {m : Mg} (h : rightM m) : (bodyL m).length ≤ 30000 := by rw [← pre_all]; exact pre_bd h _
theorem bodyS_bd {m : Mg} (h : rightM m) : (bA (bodyL m)).size ≤ 30000 := by rw [bA_size]; exact body_bd h

set_option maxRecDepth 100000 in
set_option maxHeartbeats 2000000 in
theorem bytes_no (w : World) (bp : Option Addr) (m : Mg) (ao : Option Addr) (n cap : Nat) (hR : Rs w ao n cap 3 m.list enC) (hno : ¬ rightM m) :
    Calls Try.prog 16 #[.pointer bp, .agg (mgC m (.slice ao n cap)).toArray] w fun e w' => e = .returned (.tuple #[.string ByteArray.empty, .int .i64 1]) ∧ Below w.heap.size w w' := by
  obtain ⟨V, hV⟩ : ∃ V, V = w.alloc (.cells (mgC m (.slice ao n cap)).toArray 26) := ⟨_, rfl⟩
  obtain ⟨p, hp⟩ : ∃ p, p = w.heap.size := ⟨_, rfl⟩
  have hG : Blk V p (mgC m (.slice ao n cap)) 26 := by rw [hV, hp]; exact Blk.new _ _ _
  have hB : Below w.heap.size w V := by rw [hV]; exact below_alloc' _ _
  obtain ⟨c0, c1, c2, c3, c4, c5, c6, c7, c8, c9, c10, c11, c12, c13⟩ := mg_cells hG
  have hn : n ≤ maxLen := Nat.le_trans hR.1 hR.2.1
  have HRV := Lib.hid (hR.below hB (Nat.le_refl _))
  unfold mgC at hV ⊢
  have HV := Lib.hid hV
  have HP := Lib.hid hp
  have HB := Lib.hid hB
  have HNO := Lib.hid hno
  clear hV hp hG hB hR hno
  go_enter Try.func16, Try.ntmps16
  go_upto_region 1 with fail
  rw [← HP.out, ← HV.out]
  go_wp2_with fail
  refine (right_any V m ao n cap HRV.out hn).mono ?_
  rintro e w2 ⟨⟨r, rfl, hr⟩, hb2⟩
  have hrf : r = false := by
    cases r
    · rfl
    · exact absurd (hr.1 rfl) HNO.out
  subst hrf
  clear hr
  have HBX := Lib.hid (below_then' HB.out hb2)
  clear hb2
  go_wp2
  go_ret2
  exact ⟨rfl, HBX.out⟩

def BytesR (w : World) (p mm : Nat) (seen : List (List UInt8)) (m : Mg) (e : Ending) (w' : World) : Prop :=
  e = .returned (.tuple #[.string (mgS m (seen.idxOf (bodyL m) + 1)), .int .i64 0]) ∧ BookI w' p mm (addS seen (bodyL m)) ∧ w.grownBy w' (some mm)
theorem numS_ne (n : Nat) : ((numS n).toList == []) = false := strNe' (by rw [numS_size]; decide)
set_option maxRecDepth 100000 in
set_option maxHeartbeats 2000000 in
theorem bytes_ideal (w : World) (bp mm : Nat) (seen : List (List UInt8)) (hI : BookI w bp mm seen) (hs : seen.length ≤ 1000000000000) (m : Mg) (ao : Option Addr) (n cap : Nat) (hR : Rs w ao n cap 3 m.list enC) (hok : rightM m) :
    Calls Try.prog 16 #[.pointer (some ⟨bp, 0, none⟩), .agg (mgC m (.slice ao n cap)).toArray] w (BytesR w bp mm seen m) := by
  obtain ⟨V, hV⟩ : ∃ V, V = w.alloc (.cells (mgC m (.slice ao n cap)).toArray 26) := ⟨_, rfl⟩
  obtain ⟨p, hp⟩ : ∃ p, p = w.heap.size := ⟨_, rfl⟩
  have hG : Blk V p (mgC m (.slice ao n cap)) 26 := by rw [hV, hp]; exact Blk.new _ _ _
  have hB : Below w.heap.size w V := by rw [hV]; exact below_alloc' _ _
  obtain ⟨c0, c1, c2, c3, c4, c5, c6, c7, c8, c9, c10, c11, c12, c13⟩ := mg_cells hG
  have hn : n ≤ maxLen := Nat.le_trans hR.1 hR.2.1
  have HRV := Lib.hid (hR.below hB (Nat.le_refl _))
  have hbs := bodyS_bd hok
  obtain ⟨S, hS⟩ : ∃ S, S = bA (bodyL m) := ⟨_, rfl⟩
  have hSl : S.data.toList = bodyL m := by rw [hS]; rfl
  rw [← hS] at hbs
  have HS := Lib.hid hS
  have HSL := Lib.hid hSl
  unfold mgC at hV ⊢
  have HV := Lib.hid hV
  have HP := Lib.hid hp
  have HB := Lib.hid hB
  have HG := Lib.hid hG
  have HOK := Lib.hid hok
  have HI := Lib.hid (hI.next hB)
  have hbm : mm < w.heap.size := hI.2.2.2.2.1.2
  clear hV hp hG hB hR hok hS hSl hI
  go_enter Try.func16, Try.ntmps16
  go_upto_region 1 with fail
  rw [← HP.out, ← HV.out]
  go_wp2_with fail
  refine (right_any V m ao n cap HRV.out hn).mono ?_
  rintro e w2 ⟨⟨r, rfl, hr⟩, hb2⟩
  have hrt : r = true := hr.2 HOK.out
  subst hrt
  clear hr
  have HBX := Lib.hid (And.intro hb2 (below_then' HB.out hb2))
  have HR2 := Lib.hid (HRV.out.below hb2 (Nat.le_refl _))
  have HI2 := Lib.hid (HI.out.next hb2)
  clear c0 c1 c2 c3 c4 c5 c6 c7 c8 c9 c10 c11 c12 c13
  obtain ⟨c0, c1, c2, c3, c4, c5, c6, c7, c8, c9, c10, c11, c12, c13⟩ := mg_cells (HG.out.below hb2 HG.out.lt)
  clear hb2
  go_wp2_with fail
  refine (body_any w2 m ao n cap HR2.out HOK.out).mono ?_
  rintro e w3 ⟨rfl, hb3⟩
  rw [← HS.out]
  have HB3 := Lib.hid (below_then' HBX.out.2 hb3)
  have HI3 := Lib.hid (HI2.out.next hb3)
  clear c0 c1 c2 c3 c4 c5 c6 c7 c8 c9 c10 c11 c12 c13 hb3
  go_wp2_with fail
  refine (mark_as HI3.out (s := S) (by unfold maxLen; omega) hs (seen.idxOf (bodyL m) + 1) (addS seen (bodyL m)) (by rw [HSL.out]) (by rw [HSL.out])).mono ?_
  rintro e w4 ⟨rfl, hi4, hg4⟩
  have hne := numS_ne (seen.idxOf (bodyL m) + 1)
  have hsz := numS_size (seen.idxOf (bodyL m) + 1)
  have HF : Hid (BookI w4 bp mm (addS seen (bodyL m)) ∧ w.grownBy w4 (some mm)) := Lib.hid ⟨hi4, grown_trans (below_grown HB3.out _) hg4⟩
  obtain ⟨K, hK⟩ : ∃ K, K = numS (seen.idxOf (bodyL m) + 1) := ⟨_, rfl⟩
  rw [← hK] at hne hsz
  rw [← hK]
  have HK := Lib.hid hK
  have hsum : S.size + K.size ≤ 9223372036854775807 := by omega
  clear hi4 hg4 hK
  go_wp2
  go_ret2
  exact ⟨by unfold mgS; rw [← HS.out, ← HK.out]; rfl, HF.out.1, HF.out.2⟩

/-! the example -/
def mgE : Mg := { mg0 1 1 2 with ballot := 5 }
theorem mgE_right : rightM mgE := by
  have e : flds 1 = [66] := by decide
  have h66 : hasF 1 66 = true := by unfold hasF; rw [e]; decide
  have hn : ∀ c : UInt8, c ≠ 66 → hasF 1 c = false := fun c hc => by unfold hasF; rw [e]; simpa using hc
  have ho : ∀ c : UInt8, c ≠ 66 → okNum 1 c 0 = true := fun c hc => by unfold okNum; rw [hn c hc]; rfl
  refine ⟨⟨?_, by decide, by decide, by decide, by decide⟩, ⟨?_, ho 71 (by decide), ho 83 (by decide), ho 70 (by decide), ho 84 (by decide), ho 82 (by decide)⟩, ⟨fun h => ?_, fun _ => rfl⟩, ⟨fun h => ?_, fun _ => ⟨rfl, rfl, rfl⟩⟩, ⟨fun h => ?_, fun _ => rfl⟩⟩
  · show flds 1 ≠ []
    rw [e]; decide
  · show okNum 1 66 5 = true
    unfold okNum; rw [if_pos h66]; decide
  · rw [show hasF mgE.kind 77 = false from hn 77 (by decide)] at h; cases h
  · rw [show hasF mgE.kind 80 = false from hn 80 (by decide)] at h; cases h
  · rw [show hasF mgE.kind 76 = false from hn 76 (by decide)] at h; cases h
theorem mgE_body : bodyL mgE = [1, 1, 2, 5] := by
  unfold bodyL headL
  have e : flds mgE.kind = [66] := by decide
  rw [e]
  show numL 1 ++ numL 1 ++ numL 2 ++ ([66].flatMap (fldL mgE)) = _
  rw [numL_lt (by decide), numL_lt (by decide)]
  have : fldL mgE 66 = numL 5 := rfl
  rw [List.flatMap_cons, this, numL_lt (by decide)]
  rfl
theorem mgE_size (n : Nat) : (mgS mgE n).size = 36 := by
  have := dlen (mgS mgE n)
  rw [mgS_list, mgE_body, List.length_append, numB_len] at this
  exact this.symm
theorem mgE_cut (n : Nat) : (mgS mgE n).extract 0 4 = ⟨#[1, 1, 2, 5]⟩ := by
  unfold mgS
  rw [mgE_body]
  apply ByteArray.ext
  rw [ByteArray.data_extract, ByteArray.data_append, Array.extract_append]
  simp [bA]

set_option maxRecDepth 100000 in
set_option maxHeartbeats 2000000 in
theorem awake_any (w : World) : Calls Try.prog 14 #[] w fun e w' => e = .returned (.bool true) ∧ Below w.heap.size w w' := by
  go_enter Try.func14, Try.ntmps14
  go_wp2_with fail
  refine (ideal_any w).mono ?_
  rintro e w1 ⟨rfl, hI, hb1⟩
  have HI := Lib.hid hI
  have HB1 := Lib.hid hb1
  clear hI hb1
  go_wp2_with fail
  refine (bytes_ideal _ (w.heap.size + 1) w.heap.size [] HI.out (by simp) mgE none 0 0 ⟨by omega, by decide, rfl, fun h => absurd h (by decide)⟩ mgE_right).mono ?_
  rintro e w2 ⟨rfl, hI2, hg2⟩
  have HB2 : Hid (Below w.heap.size w w2) := Lib.hid (HB1.out.grown hg2 HB1.out.size (by intro k hk; cases hk; exact Nat.le_refl _))
  obtain ⟨S, hS⟩ : ∃ S, S = mgS mgE (([] : List (List UInt8)).idxOf (bodyL mgE) + 1) := ⟨_, rfl⟩
  rw [← hS]
  have h36 : S.size = 36 := by rw [hS]; exact mgE_size _
  have hcut : S.extract 0 4 = ⟨#[1, 1, 2, 5]⟩ := by rw [hS]; exact mgE_cut _
  clear hI2 hg2 hS
  go_wp2
  go_ret
  exact ⟨rfl, HB2.out⟩
end Go.Proofs.Ytlcpnpoleaanmaa
