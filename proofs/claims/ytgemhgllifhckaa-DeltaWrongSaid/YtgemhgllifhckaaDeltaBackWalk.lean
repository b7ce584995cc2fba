/- DeltaBack: the walk. Conditions: as named in each theorem. -/
import Derived.Test.YtgemhgllifhckaaDlApply
namespace Go.Proofs.Ytgemhgllifhckaa
open Go.RowKit Sg
set_option linter.unusedVariables false
set_option linter.unusedSimpArgs false

theorem own_kept {w W : World} {base m : Nat} {v : Value} {l : List St} (h : Own w base v l) (hm : m < base) (hk : Kept (fun k => some m = some k) w W) : Own W base v l :=
  owns_block h (fun k e => by
    have := World.ownsRow.lt h k e
    exact hk.block k this.2 (fun e2 => by injection e2 with e2; omega))
set_option maxRecDepth 100000 in
set_option maxHeartbeats 4000000 in
theorem deltaBack_walk (w : World) (b0 : ByteArray) (hb0 : b0.size ≤ 140737488351232) (s0 : ByteArray) (hs0 : s0.size ≤ 140737488351232) (block : Int) (wb : (Lit.int .i64 block).wf = true) :
    Calls Try.prog 9 #[.string b0, .string s0, .int .i64 block] w fun e w' => e = .returned (.bool true) ∧ Below w.heap.size w w' := by
  have hcb := cutS_size b0 3000
  have hcs := cutS_size s0 3000
  go_enter Try.func9, Try.ntmps9
  go_wp2_with fail
  refine (cut_any b0 3000 _ (by omega) (by decide)).mono ?_
  rintro e w' ⟨rfl, rfl⟩
  obtain ⟨b, hb⟩ : ∃ b, b = cutS b0 3000 := ⟨_, rfl⟩
  rw [← hb] at hcb
  rw [← hb]
  clear hb hb0
  go_wp2_with fail
  refine (cut_any s0 3000 _ (by omega) (by decide)).mono ?_
  rintro e w' ⟨rfl, rfl⟩
  obtain ⟨s, hs⟩ : ∃ s, s = cutS s0 3000 := ⟨_, rfl⟩
  rw [← hs] at hcs
  rw [← hs]
  clear hs hs0
  go_wp2_with fail
  refine (ideal_any _).mono ?_
  rintro e w1 ⟨rfl, hI1, hB1⟩
  by_cases hf : 16 ≤ block ∧ block ≤ 1024
  · obtain ⟨B, rfl⟩ : ∃ B : Nat, block = B := ⟨block.toNat, by omega⟩
    have hb1 : 16 ≤ B := by omega
    have hb2 : B ≤ 1024 := by omega
    have HOF := Lib.hid (of_ideal w1 (w.heap.size + 1) w.heap.size [] b s B hI1 (by simp) (by omega) (by omega) (by omega) (by omega))
    clear hf
    go_wp2_with fail
    refine HOF.out.mono ?_
    rintro e w2 ⟨sv, S, rfl, hO, hB, mb, ms, hE, hSl, hk⟩
    simp only [List.length_nil] at hSl
    have hBl := below_kept hB1 (Nat.le_refl _) hk
    obtain ⟨n, hn⟩ : ∃ n, n = (stepsI b s B).length := ⟨_, rfl⟩
    obtain ⟨a2, k2, h2⟩ := owns_slice hO
    rw [← hn] at h2
    subst h2
    obtain ⟨p1, p2, p3, p4, p5⟩ := stepsI_right b s B (S.idxOf (bytesOf b) + 1) (S.idxOf (bytesOf s) + 1) (by omega) (by omega) (by omega)
    rw [← hn] at p4
    have hR := Own.rs hn.symm hO
    obtain ⟨t1, ht1⟩ : ∃ t, t = numS (S.idxOf (bytesOf b) + 1) := ⟨_, rfl⟩
    obtain ⟨t2, ht2⟩ : ∃ t, t = numS (S.idxOf (bytesOf s) + 1) := ⟨_, rfl⟩
    rw [← ht1, ← ht2] at p1
    rw [← ht1, ← ht2]
    obtain ⟨z, hz⟩ : ∃ z : Int, z = s.size := ⟨_, rfl⟩
    rw [← hz] at p1
    rw [← hz]
    obtain ⟨L, hL⟩ : ∃ L, L = stepsI b s B := ⟨_, rfl⟩
    rw [← hL] at p1 p2 p3 p5 hO hR hn
    obtain ⟨V3, hV3⟩ : ∃ V, V = w2.alloc (Obj.cells #[.string t1, .string t2, .int .i64 z, .slice a2 n k2] 25) := ⟨_, rfl⟩
    obtain ⟨p3', hp3⟩ : ∃ q, q = w2.heap.size := ⟨_, rfl⟩
    have hb3 : Below w2.heap.size w2 V3 := by rw [hV3]; exact below_alloc _ _
    have hG3 : Blk V3 p3' [.string t1, .string t2, .int .i64 z, .slice a2 n k2] 25 := by rw [hV3, hp3]; exact Blk.new _ _ _
    have hO3 : Own V3 w1.heap.size (.slice a2 n k2) L := hO.below hb3
    have hmw : w.heap.size < w1.heap.size := hI1.2.2.2.2.1.2
    have q0 := hG3.cell (i := 0) rfl
    have q1 := hG3.cell (i := 1) rfl
    have q2 := hG3.cell (i := 2) rfl
    have q3 := hG3.cell (i := 3) rfl
    have HAP := Lib.hid (apply_back V3 (w.heap.size + 1) w.heap.size S b t1 t2 z a2 n k2 L s (hB.next hb3) (by omega) (hR.next hb3) p5 p1 (by omega) (fun W hW => Own.rs hn.symm (own_kept hO3 hmw hW)) (by omega) ht1.symm p2 (by omega) (by omega) (by rw [addS_mem mb, ht2]))
    have HBF := Lib.hid (bl_nx hBl hb3)
    have HV3 := Lib.hid hV3
    have HP3 := Lib.hid hp3
    have HG3 := Lib.hid hG3
    have HO3 := Lib.hid (And.intro hO3 (And.intro hn hmw))
    have HPP := Lib.hid (And.intro p1 (And.intro p3 (And.intro p4 p5)))
    have HZ := Lib.hid hz
    have hpw : w.heap.size < p3' := by rw [hp3]; have := hB.2.2.2.2.1.2; exact this
    clear hO hB hk hBl hn hR hb3 hG3 hV3 hp3 hI1 hB1 ht1 ht2 hz HOF p1 p2 p3 p4 p5 hL mb ms hE hSl hO3 hmw
    go_upto_region 7 with fail
    rw [← HP3.out, ← HV3.out]
    go_wp2_with fail
    refine HAP.out.mono ?_
    rintro e w4 ⟨rfl, hk4⟩
    have hG4 : Blk w4 p3' [.string t1, .string t2, .int .i64 z, .slice a2 n k2] 25 := by
      have h2 := HG3.out
      unfold Blk at h2 ⊢
      rw [hk4.block p3' HG3.out.lt (fun hu => by injection hu with hu; omega)]; exact h2
    have hR4 : Rs w4 a2 n k2 3 L St.c := Own.rs HO3.out.2.1.symm (own_kept HO3.out.1 HO3.out.2.2 hk4)
    have HB4 := Lib.hid (below_kept HBF.out (Nat.le_refl _) hk4)
    have hzz := HZ.out
    have HRI := Lib.hid (deltaRight_any w4 t1 t2 z a2 n k2 L (wfI _ (by omega) (by omega)) (by have := HPP.out.1.1; simp only at this; unfold maxLen; omega) (by have := HPP.out.1.2.1; simp only at this; unfold maxLen; omega) hR4 HPP.out.2.2.2)
    have x0 := hG4.cell (i := 0) rfl
    have x1 := hG4.cell (i := 1) rfl
    have x2 := hG4.cell (i := 2) rfl
    have x3 := hG4.cell (i := 3) rfl
    have HG4 := Lib.hid hG4
    have HR4 := Lib.hid hR4
    have hse : (s.toList == s.toList) = true := by simp
    clear hG4 hR4 hk4 HAP q0 q1 q2 q3 hzz
    go_wp2_with fail
    refine HRI.out.mono ?_
    rintro e w5 ⟨⟨r, rfl, hr⟩, hb5⟩
    have hr1 : r = true := hr.2 HPP.out.1
    subst hr1
    have hG5 := HG4.out.below hb5 HG4.out.lt
    have HB5 := Lib.hid (bl_nx HB4.out hb5)
    have HSM := Lib.hid (sent_any w5 a2 n k2 L (HR4.out.next hb5) (by have := HPP.out.2.2.1; omega) (fun x hx => by have := (rightS_pos (HPP.out.1.2.2.2.2.1 x hx)).2.2.2.1; omega))
    have y3 := hG5.cell (i := 3) rfl
    obtain ⟨c, hc⟩ : ∃ c, c = sentL L := ⟨_, rfl⟩
    rw [← hc] at HSM
    have hcs2 : c ≤ s.size := by rw [hc]; exact HPP.out.2.1
    have i5 : decide ((c : Int) ≤ (s.size : Int)) = true := decide_eq_true (by omega)
    clear hG5 hb5 hr x0 x1 x2 x3 HRI hc
    go_wp2_with fail
    refine HSM.out.mono ?_
    rintro e w6 ⟨rfl, hb6⟩
    have HB6 := Lib.hid (bl_nx HB5.out hb6)
    clear hb6 y3
    go_wp2_with fail
    refine (awake_any _).mono ?_
    rintro e w7 ⟨rfl, hb7⟩
    have HB7 := Lib.hid (bl_nx HB6.out hb7)
    clear hb7
    go_wp2
    go_ret
    exact ⟨rfl, HB7.out⟩
  · have HOB := Lib.hid (fun v => of_bad w1 v b s block wb hf)
    clear hf
    go_wp2_with fail
    refine (HOB.out _).mono ?_
    rintro e w2 ⟨rfl, hb2⟩
    obtain ⟨V3, hV3⟩ : ∃ V, V = w2.alloc (Obj.cells #[.string ByteArray.empty, .string ByteArray.empty, .int .i64 0, .slice none 0 0] 25) := ⟨_, rfl⟩
    have hB3 : Below w.heap.size w V3 := bl_nx (bl_nx hB1 hb2) (by rw [hV3]; exact below_alloc _ _)
    have HV3 := Lib.hid hV3
    have HB3 := Lib.hid hB3
    clear hb2 hV3 hB3 hI1 hB1
    go_upto_region 6 with fail
    rw [← HV3.out]
    go_wp2_with fail
    refine (awake_any _).mono ?_
    rintro e w5 ⟨rfl, hb5⟩
    have HB5 := Lib.hid (bl_nx HB3.out hb5)
    clear hb5
    go_wp2
    go_ret
    exact ⟨rfl, HB5.out⟩
end Go.Proofs.Ytgemhgllifhckaa
