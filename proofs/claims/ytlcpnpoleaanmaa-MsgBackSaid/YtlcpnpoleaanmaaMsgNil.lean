/- Bytes and Of without a book. Conditions: as named in each theorem. -/
import Derived.Test.YtlcpnpoleaanmaaMsgUse
import Derived.Test.YtlcpnpoleaanmaaNoBook
import Derived.Test.YtlcpnpoleaanmaaStepAppend
import Derived.IntWalk
namespace Go.Proofs.Ytlcpnpoleaanmaa
open Go.RowKit
set_option linter.unusedVariables false

set_option maxRecDepth 100000 in
set_option maxHeartbeats 2000000 in
theorem bytes_nil (w : World) (m : Mg) (ao : Option Addr) (n cap : Nat) (hR : Rs w ao n cap 3 m.list enC) (hok : rightM m) :
    Calls Try.prog 16 #[.pointer none, .agg (mgC m (.slice ao n cap)).toArray] w fun e w' => e = .returned (.tuple #[.string ByteArray.empty, .int .i64 15]) ∧ Below w.heap.size w w' := by
  obtain ⟨V, hV⟩ : ∃ V, V = w.alloc (.cells (mgC m (.slice ao n cap)).toArray 26) := ⟨_, rfl⟩
  obtain ⟨p, hp⟩ : ∃ p, p = w.heap.size := ⟨_, rfl⟩
  have hG : Blk V p (mgC m (.slice ao n cap)) 26 := by rw [hV, hp]; exact Blk.new _ _ _
  have hB : Below w.heap.size w V := by rw [hV]; exact below_alloc' _ _
  have hn : n ≤ maxLen := Nat.le_trans hR.1 hR.2.1
  have HRV := Lib.hid (hR.below hB (Nat.le_refl _))
  unfold mgC at hV ⊢
  have HV := Lib.hid hV
  have HP := Lib.hid hp
  have HB := Lib.hid hB
  have HG := Lib.hid hG
  have HOK := Lib.hid hok
  clear hV hp hG hB hR hok
  go_enter Try.func16, Try.ntmps16
  go_upto_region 1 with fail
  rw [← HP.out, ← HV.out]
  go_wp2_with (refine ld_mg HG.out rfl rfl rfl ?_)
  refine (right_any V m ao n cap HRV.out hn).mono ?_
  rintro e w2 ⟨⟨r, rfl, hr⟩, hb2⟩
  have hrt : r = true := hr.2 HOK.out
  subst hrt
  clear hr
  have HBX := Lib.hid (below_then' HB.out hb2)
  have HR2 := Lib.hid (HRV.out.below hb2 (Nat.le_refl _))
  have HG2 := Lib.hid (HG.out.below hb2 HG.out.lt)
  clear hb2
  go_wp2_with (refine ld_mg HG2.out rfl rfl rfl ?_)
  refine (body_any w2 m ao n cap HR2.out HOK.out).mono ?_
  rintro e w3 ⟨rfl, hb3⟩
  have HB3 := Lib.hid (below_then' HBX.out hb3)
  clear hb3
  go_wp2_with fail
  refine (mark_nobook w3 (.pointer none) _ (.inl rfl)).mono ?_
  rintro e w4 ⟨rfl, rfl⟩
  go_wp2
  go_ret2
  exact ⟨rfl, HB3.out⟩

set_option maxRecDepth 100000 in
set_option maxHeartbeats 2000000 in
theorem of_short (w : World) (v : Value) (s : ByteArray) (hs : s.size < 32) :
    Calls Try.prog 22 #[v, .string s] w fun e w' => e = .returned (.tuple #[.agg (mgC (mg0 0 0 0) (.slice none 0 0)).toArray, .int .i64 3]) ∧ Below w.heap.size w w' := by
  have hmz := mgZ_run
  obtain ⟨V, hV⟩ : ∃ V, V = w.alloc (.cells mgZ.toArray 26) := ⟨_, rfl⟩
  obtain ⟨p2, hp2⟩ : ∃ p, p = w.heap.size := ⟨_, rfl⟩
  have hZ : Blk V p2 mgZ 26 := by rw [hV, hp2]; exact Blk.new _ _ _
  have hB : Below w.heap.size w V := by rw [hV]; exact below_alloc' _ _
  have hq2 : w.heap.size ≤ p2 := by omega
  unfold mgZ mgC mg0 at hV
  simp only at hV
  have HV := Lib.hid hV
  have HP2 := Lib.hid hp2
  have HB := Lib.hid hB
  have HZ := Lib.hid hZ
  have HQ := Lib.hid hq2
  have d1 : (s.size : Int) - 32 < 0 := by omega
  clear hV hp2 hB hZ hq2
  go_enter Try.func22, Try.ntmps22
  go_upto_region 1 with fail
  rw [← HP2.out, ← HV.out]
  go_wp2_with (refine st_mg (m := mg0 0 0 0) (ao := none) (n := 0) (cap := 0) HZ.out rfl rfl rfl rfl ?_)
  refine bodyPost_ret (res_cell_row rfl _ _ p2 26 _ (0, 0) _ rfl (putM_blk HZ.out) Try.underlying26 rfl (by kernel_rfl)) rfl ?_
  exact ⟨rfl, putM_below HB.out HQ.out _ _⟩

set_option maxRecDepth 100000 in
set_option maxHeartbeats 2000000 in
theorem of_nobook (w : World) (s : ByteArray) (hs : 32 ≤ s.size) (hm : s.size ≤ 140737488355328) :
    Calls Try.prog 22 #[.pointer none, .string s] w fun e w' => e = .returned (.tuple #[.agg (mgC (mg0 0 0 0) (.slice none 0 0)).toArray, .int .i64 6]) ∧ Below w.heap.size w w' := by
  have hmz := mgZ_run
  obtain ⟨V, hV⟩ : ∃ V, V = w.alloc (.cells mgZ.toArray 26) := ⟨_, rfl⟩
  obtain ⟨p2, hp2⟩ : ∃ p, p = w.heap.size := ⟨_, rfl⟩
  have hZ : Blk V p2 mgZ 26 := by rw [hV, hp2]; exact Blk.new _ _ _
  have hB : Below w.heap.size w V := by rw [hV]; exact below_alloc' _ _
  have hq2 : w.heap.size ≤ p2 := by omega
  unfold mgZ mgC mg0 at hV
  simp only at hV
  have HV := Lib.hid hV
  have HP2 := Lib.hid hp2
  have HB := Lib.hid hB
  have HZ := Lib.hid hZ
  have HQ := Lib.hid hq2
  obtain ⟨k, hk⟩ : ∃ k : Nat, s.size = k + 32 := ⟨s.size - 32, by omega⟩
  have d1 : ¬ (s.size : Int) - 32 < 0 := by omega
  have i0 : (0 : Int) ≤ (s.size : Int) - 32 := by omega
  have i1 : (s.size : Int) - 32 ≤ (s.size : Int) := by omega
  clear hV hp2 hB hZ hq2 hk
  go_enter Try.func22, Try.ntmps22
  go_upto_region 1 with fail
  rw [← HP2.out, ← HV.out]
  go_wp2_with fail
  go_quiet ((go_at_call 19; exact quiet_eq (is_nobook _ (.pointer none) _ _ (.inl rfl))))
  go_wp2_with (refine st_mg (m := mg0 0 0 0) (ao := none) (n := 0) (cap := 0) (HZ.out.drewN _) rfl rfl rfl rfl ?_)
  refine bodyPost_ret (res_cell_row rfl _ _ p2 26 _ (0, 0) _ rfl (putM_blk (HZ.out.drewN _)) Try.underlying26 rfl (by kernel_rfl)) rfl ?_
  exact ⟨rfl, putM_below (below_drewN' HB.out _) HQ.out _ _⟩
end Go.Proofs.Ytlcpnpoleaanmaa
