/- DeltaSame: the walk. Conditions: as named in each theorem. -/
import Derived.Test.YtgemhgllifhckaaDlLaw
namespace Go.Proofs.Ytgemhgllifhckaa
open Go.RowKit Sg
set_option linter.unusedVariables false
set_option linter.unusedSimpArgs false

set_option maxRecDepth 100000 in
set_option maxHeartbeats 2000000 in
theorem deltaSame_walk (w : World) (s0 : ByteArray) (hs0 : s0.size ≤ 140737488351232) (block : Int) (wb : (Lit.int .i64 block).wf = true) :
    Calls Try.prog 3 #[.string s0, .int .i64 block] w fun e w' => e = .returned (.bool true) ∧ Below w.heap.size w w' := by
  have hcs := cutS_size s0 3000
  go_enter Try.func3, Try.ntmps3
  go_wp2_with fail
  refine (cut_any s0 3000 _ (by omega) (by decide)).mono ?_
  rintro e w' ⟨rfl, rfl⟩
  obtain ⟨s, hs⟩ : ∃ s, s = cutS s0 3000 := ⟨_, rfl⟩
  rw [← hs] at hcs
  rw [← hs]
  clear hs hs0
  go_wp2_with fail
  refine (ideal_any _).mono ?_
  rintro e w1 ⟨rfl, hI1, hB1⟩
  by_cases hf : 16 ≤ block ∧ block ≤ 1024
  · obtain ⟨B, rfl⟩ : ∃ B : Nat, block = B := ⟨block.toNat, by omega⟩
    have hb1 : 16 ≤ B := by omega
    have hb2 : B ≤ 1024 := by omega
    have HOF := Lib.hid (of_ideal w1 (w.heap.size + 1) w.heap.size [] s s B hI1 (by simp) (by omega) (by omega) (by omega) (by omega))
    clear hf
    go_wp2_with fail
    refine HOF.out.mono ?_
    rintro e w2 ⟨sv, S, rfl, hO, hB, -, -, -, -, hk⟩
    have hBl := below_kept hB1 (Nat.le_refl _) hk
    have hst : stepsI s s B = ownL s.size := by unfold stepsI; exact steps_own s B (by omega) (by omega)
    rw [hst] at hO
    obtain ⟨n, hn⟩ : ∃ n, n = (ownL s.size).length := ⟨_, rfl⟩
    obtain ⟨a2, k2, h2⟩ := owns_slice hO
    rw [← hn] at h2
    subst h2
    have hn1 : n ≤ 1 := by rw [hn, ownL_len]; split <;> omega
    have hR := Own.rs hn.symm hO
    obtain ⟨t1, ht1⟩ : ∃ t, t = numS (S.idxOf (bytesOf s) + 1) := ⟨_, rfl⟩
    rw [← ht1]
    obtain ⟨z, hz⟩ : ∃ z : Int, z = s.size := ⟨_, rfl⟩
    rw [← hz]
    obtain ⟨V3, hV3⟩ : ∃ V, V = w2.alloc (Obj.cells #[.string t1, .string t1, .int .i64 z, .slice a2 n k2] 25) := ⟨_, rfl⟩
    obtain ⟨p3, hp3⟩ : ∃ q, q = w2.heap.size := ⟨_, rfl⟩
    have hb3 : Below w2.heap.size w2 V3 := by rw [hV3]; exact below_alloc _ _
    have hG3 : Blk V3 p3 [.string t1, .string t1, .int .i64 z, .slice a2 n k2] 25 := by rw [hV3, hp3]; exact Blk.new _ _ _
    have q0 := hG3.cell (i := 0) rfl
    have q1 := hG3.cell (i := 1) rfl
    have q3 := hG3.cell (i := 3) rfl
    have HR3 := Lib.hid (hR.next hb3)
    have HBF := Lib.hid (bl_nx hBl hb3)
    have HV3 := Lib.hid hV3
    have HP3 := Lib.hid hp3
    have HG3 := Lib.hid hG3
    have HSM := Lib.hid (sent_any V3 a2 n k2 (ownL s.size) HR3.out (by omega) (by
      intro x hx; unfold ownL at hx; split at hx
      · cases hx
      · obtain rfl := List.mem_singleton.1 hx; exact Nat.zero_le _))
    clear hO hB hk hBl hst hn hR hb3 hG3 hV3 hp3 hI1 hB1 ht1 hz HOF hn1
    go_upto_region 5 with fail
    rw [← HP3.out, ← HV3.out]
    go_wp2_with fail
    refine HSM.out.mono ?_
    rintro e w4 ⟨rfl, hb4⟩
    rw [sent_own]
    have hG4 := HG3.out.below hb4 HG3.out.lt
    have r0 := hG4.cell (i := 0) rfl
    have r1 := hG4.cell (i := 1) rfl
    have HB4 := Lib.hid (bl_nx HBF.out hb4)
    clear hG4 q0 q1 q3 hb4
    go_wp2_with fail
    refine (awake_any _).mono ?_
    rintro e w5 ⟨rfl, hb5⟩
    have HB5 := Lib.hid (bl_nx HB4.out hb5)
    clear hb5
    go_wp2
    go_ret
    exact ⟨rfl, HB5.out⟩
  · have HOB := Lib.hid (fun v => of_bad w1 v s s block wb hf)
    clear hf
    go_wp2_with fail
    refine (HOB.out _).mono ?_
    rintro e w2 ⟨rfl, hb2⟩
    obtain ⟨V3, hV3⟩ : ∃ V, V = w2.alloc (Obj.cells #[.string ByteArray.empty, .string ByteArray.empty, .int .i64 0, .slice none 0 0] 25) := ⟨_, rfl⟩
    have hB3 : Below w.heap.size w V3 := bl_nx (bl_nx hB1 hb2) (by rw [hV3]; exact below_alloc _ _)
    have HV3 := Lib.hid hV3
    have HB3 := Lib.hid hB3
    clear hb2 hV3 hB3 hI1 hB1
    go_upto_region 4 with fail
    rw [← HV3.out]
    go_wp2_with fail
    refine (awake_any _).mono ?_
    rintro e w5 ⟨rfl, hb5⟩
    have HB5 := Lib.hid (bl_nx HB3.out hb5)
    clear hb5
    go_wp2
    go_ret
    exact ⟨rfl, HB5.out⟩
end Go.Proofs.Ytgemhgllifhckaa
