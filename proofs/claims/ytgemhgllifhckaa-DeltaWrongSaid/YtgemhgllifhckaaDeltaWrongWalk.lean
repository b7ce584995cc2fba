/- DeltaWrong: the walk. Conditions: as named in each theorem. -/
import Derived.Test.YtgemhgllifhckaaDeltaBackWalk
namespace Go.Proofs.Ytgemhgllifhckaa
open Go.RowKit Sg
set_option linter.unusedVariables false
set_option linter.unusedSimpArgs false

set_option maxRecDepth 100000 in
set_option maxHeartbeats 4000000 in
theorem deltaWrong_walk (w : World) (b0 : ByteArray) (hb0 : b0.size ≤ 140737488351232) (s0 : ByteArray) (hs0 : s0.size ≤ 140737488351232) (block : Int) (wb : (Lit.int .i64 block).wf = true) (o0 : ByteArray) (ho0 : o0.size ≤ 140737488351232) :
    Calls Try.prog 6 #[.string b0, .string s0, .int .i64 block, .string o0] w fun e w' => e = .returned (.bool true) ∧ Below w.heap.size w w' := by
  have hcb := cutS_size b0 2000
  have hcs := cutS_size s0 2000
  go_enter Try.func6, Try.ntmps6
  go_wp2_with fail
  refine (cut_any b0 2000 _ (by omega) (by decide)).mono ?_
  rintro e w' ⟨rfl, rfl⟩
  obtain ⟨b, hb⟩ : ∃ b, b = cutS b0 2000 := ⟨_, rfl⟩
  rw [← hb] at hcb
  rw [← hb]
  clear hb hb0
  go_wp2_with fail
  refine (cut_any s0 2000 _ (by omega) (by decide)).mono ?_
  rintro e w' ⟨rfl, rfl⟩
  obtain ⟨s, hs⟩ : ∃ s, s = cutS s0 2000 := ⟨_, rfl⟩
  rw [← hs] at hcs
  rw [← hs]
  clear hs hs0
  go_wp2_with fail
  refine (ideal_any _).mono ?_
  rintro e w1 ⟨rfl, hI1, hB1⟩
  by_cases hf : 16 ≤ block ∧ block ≤ 1024
  · obtain ⟨B, rfl⟩ : ∃ B : Nat, block = B := ⟨block.toNat, by omega⟩
    have hb1 : 16 ≤ B := by omega
    have hb2 : B ≤ 1024 := by omega
    have HOF := Lib.hid (of_ideal w1 (w.heap.size + 1) w.heap.size [] b s B hI1 (by simp) (by omega) (by omega) (by omega) (by omega))
    clear hf
    go_wp2_with fail
    refine HOF.out.mono ?_
    rintro e w2 ⟨sv, S, rfl, hO, hB, mb, ms, hE, hSl, hk⟩
    simp only [List.length_nil] at hSl
    have hBl := below_kept hB1 (Nat.le_refl _) hk
    obtain ⟨n, hn⟩ : ∃ n, n = (stepsI b s B).length := ⟨_, rfl⟩
    obtain ⟨a2, k2, h2⟩ := owns_slice hO
    rw [← hn] at h2
    subst h2
    obtain ⟨p1, p2, p3, p4, p5⟩ := stepsI_right b s B (S.idxOf (bytesOf b) + 1) (S.idxOf (bytesOf s) + 1) (by omega) (by omega) (by omega)
    rw [← hn] at p4
    have hR := Own.rs hn.symm hO
    obtain ⟨t1, ht1⟩ : ∃ t, t = numS (S.idxOf (bytesOf b) + 1) := ⟨_, rfl⟩
    obtain ⟨t2, ht2⟩ : ∃ t, t = numS (S.idxOf (bytesOf s) + 1) := ⟨_, rfl⟩
    rw [← ht1, ← ht2] at p1
    rw [← ht1, ← ht2]
    obtain ⟨z, hz⟩ : ∃ z : Int, z = s.size := ⟨_, rfl⟩
    rw [← hz] at p1
    rw [← hz]
    obtain ⟨L, hL⟩ : ∃ L, L = stepsI b s B := ⟨_, rfl⟩
    rw [← hL] at p1 p2 p3 p5 hO hR hn
    obtain ⟨V3, hV3⟩ : ∃ V, V = w2.alloc (Obj.cells #[.string t1, .string t2, .int .i64 z, .slice a2 n k2] 25) := ⟨_, rfl⟩
    obtain ⟨p3', hp3⟩ : ∃ q, q = w2.heap.size := ⟨_, rfl⟩
    have hb3 : Below w2.heap.size w2 V3 := by rw [hV3]; exact below_alloc _ _
    have hG3 : Blk V3 p3' [.string t1, .string t2, .int .i64 z, .slice a2 n k2] 25 := by rw [hV3, hp3]; exact Blk.new _ _ _
    have hO3 : Own V3 w1.heap.size (.slice a2 n k2) L := hO.below hb3
    have hmw : w.heap.size < w1.heap.size := hI1.2.2.2.2.1.2
    have q0 := hG3.cell (i := 0) rfl
    have q1 := hG3.cell (i := 1) rfl
    have q2 := hG3.cell (i := 2) rfl
    have q3 := hG3.cell (i := 3) rfl
    have HAP : Hid (o0 = b → Calls Try.prog 24 #[.pointer (some ⟨w.heap.size + 1, 0, none⟩), .string o0, .agg #[.string t1, .string t2, .int .i64 z, .slice a2 n k2]] V3 fun e w' => e = .returned (.tuple #[.string s, .int .i64 0]) ∧ Kept (fun k => some w.heap.size = some k) V3 w') := Lib.hid (fun he => by
      rw [he]
      exact apply_back V3 (w.heap.size + 1) w.heap.size S b t1 t2 z a2 n k2 L s (hB.next hb3) (by omega) (hR.next hb3) p5 p1 (by omega) (fun W hW => Own.rs hn.symm (own_kept hO3 hmw hW)) (by omega) ht1.symm p2 (by omega) (by omega) (by rw [addS_mem mb, ht2]))
    have HAQ : Hid (o0 ≠ b → Calls Try.prog 24 #[.pointer (some ⟨w.heap.size + 1, 0, none⟩), .string o0, .agg #[.string t1, .string t2, .int .i64 z, .slice a2 n k2]] V3 fun e w' => e = .returned (.tuple #[.string ByteArray.empty, .int .i64 13]) ∧ Kept (fun k => some w.heap.size = some k) V3 w') := Lib.hid (fun he =>
      apply_wrong V3 (w.heap.size + 1) w.heap.size S o0 t1 t2 z a2 n k2 L (hB.next hb3) (by omega) (hR.next hb3) p5 p1 (by omega) (by
        intro h
        rw [ht1] at h
        have a1 : S.idxOf (bytesOf o0) ≤ S.length := List.idxOf_le_length
        have a2' : S.idxOf (bytesOf b) < S.length := List.idxOf_lt_length_of_mem mb
        have a3 := numS_inj (S.idxOf (bytesOf o0) + 1) (S.idxOf (bytesOf b) + 1) (by omega) (by omega) (by rw [h])
        have ho : bytesOf o0 ∈ S := List.idxOf_lt_length_iff.1 (by omega)
        have hab : bytesOf o0 = bytesOf b := idx_inj ho mb (by omega)
        exact he (ByteArray.ext (Array.ext' hab))))
    have HBF := Lib.hid (bl_nx hBl hb3)
    have HV3 := Lib.hid hV3
    have HP3 := Lib.hid hp3
    clear hO hB hk hBl hn hR hb3 hG3 hV3 hp3 hI1 hB1 ht1 ht2 hz HOF p1 p2 p3 p4 p5 hL mb ms hE hSl hO3 hmw
    go_upto_region 7 with fail
    rw [← HP3.out, ← HV3.out]
    by_cases he : o0 = b
    · have h1 := HAP.out he
      have H1 := Lib.hid h1
      have e1 : (o0.toList == b.toList) = true := beqS_t (by rw [he])
      have e2 : (s.toList == s.toList) = true := by simp
      clear he h1 HAP HAQ
      go_wp2_with fail
      refine H1.out.mono ?_
      rintro e w4 ⟨rfl, hk4⟩
      have HB4 := Lib.hid (below_kept HBF.out (Nat.le_refl _) hk4)
      clear hk4 q0 q1 q2 q3
      go_wp2_with fail
      refine (awake_any _).mono ?_
      rintro e w7 ⟨rfl, hb7⟩
      have HB7 := Lib.hid (bl_nx HB4.out hb7)
      clear hb7
      go_wp2
      go_ret
      exact ⟨rfl, HB7.out⟩
    · have h1 := HAQ.out he
      have H1 := Lib.hid h1
      have e1 : (o0.toList == b.toList) = false := beqS_f (fun h => he (ByteArray.ext (Array.ext' h)))
      clear he h1 HAP HAQ
      go_wp2_with fail
      refine H1.out.mono ?_
      rintro e w4 ⟨rfl, hk4⟩
      have HB4 := Lib.hid (below_kept HBF.out (Nat.le_refl _) hk4)
      clear hk4 q0 q1 q2 q3
      go_wp2_with fail
      refine (awake_any _).mono ?_
      rintro e w7 ⟨rfl, hb7⟩
      have HB7 := Lib.hid (bl_nx HB4.out hb7)
      clear hb7
      go_wp2
      go_ret
      exact ⟨rfl, HB7.out⟩
  · have HOB := Lib.hid (fun v => of_bad w1 v b s block wb hf)
    clear hf
    go_wp2_with fail
    refine (HOB.out _).mono ?_
    rintro e w2 ⟨rfl, hb2⟩
    obtain ⟨V3, hV3⟩ : ∃ V, V = w2.alloc (Obj.cells #[.string ByteArray.empty, .string ByteArray.empty, .int .i64 0, .slice none 0 0] 25) := ⟨_, rfl⟩
    have hB3 : Below w.heap.size w V3 := bl_nx (bl_nx hB1 hb2) (by rw [hV3]; exact below_alloc _ _)
    have HV3 := Lib.hid hV3
    have HB3 := Lib.hid hB3
    clear hb2 hV3 hB3 hI1 hB1
    go_upto_region 6 with fail
    rw [← HV3.out]
    go_wp2_with fail
    refine (awake_any _).mono ?_
    rintro e w5 ⟨rfl, hb5⟩
    have HB5 := Lib.hid (bl_nx HB3.out hb5)
    clear hb5
    go_wp2
    go_ret
    exact ⟨rfl, HB5.out⟩
end Go.Proofs.Ytgemhgllifhckaa
