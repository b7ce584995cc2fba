/- Chapter 6's small parts: cut, a block out of range, Sent, the chapter's example. Conditions: as named in each theorem. -/
import Derived.Test.YtgemhgllifhckaaDlOf
namespace Go.Proofs.Ytgemhgllifhckaa
open Go.RowKit Sg
set_option linter.unusedVariables false
set_option linter.unusedSimpArgs false
/-- the first n bytes of a text, at most -/
def cutS (s : ByteArray) (n : Nat) : ByteArray := if n < s.size then s.extract 0 n else s
theorem cutS_size (s : ByteArray) (n : Nat) : (cutS s n).size ≤ n := by
  unfold cutS; split
  · simp; omega
  · omega
theorem cut_any (s : ByteArray) (n : Nat) (w : World) (hs : s.size ≤ 9223372036854775807) (hn : n ≤ 1000000) :
    Calls Try.prog 14 #[.string s, .int .i64 n] w fun e w' => e = .returned (.string (cutS s n)) ∧ w = w' := by
  by_cases h : n < s.size
  · go_enter Try.func14, Try.ntmps14
    go_wp2
    go_ret
    exact ⟨by unfold cutS; rw [if_pos h]; rfl, rfl⟩
  · go_enter Try.func14, Try.ntmps14
    go_wp2
    go_ret
    exact ⟨by unfold cutS; rw [if_neg h]; rfl, rfl⟩
set_option maxRecDepth 100000 in
set_option maxHeartbeats 1000000 in
theorem of_bad (w : World) (v : Value) (b s : ByteArray) (block : Int) (wb : (Lit.int .i64 block).wf = true) (hb : ¬ (16 ≤ block ∧ block ≤ 1024)) :
    Calls Try.prog 15 #[v, .string b, .string s, .int .i64 block] w fun e w' => e = .returned (.tuple #[.agg #[.string ByteArray.empty, .string ByteArray.empty, .int .i64 0, .slice none 0 0], .int .i64 1]) ∧ Below w.heap.size w w' := by
  have hdz := dlZ_run
  obtain ⟨V1, hV1⟩ : ∃ V, V = w.alloc (Obj.cells #[.string ByteArray.empty, .string ByteArray.empty, .int .i64 0, .slice none 0 0] 25) := ⟨_, rfl⟩
  obtain ⟨pz, hpz⟩ : ∃ q, q = w.heap.size := ⟨_, rfl⟩
  have hbV : Below w.heap.size w V1 := by rw [hV1]; exact below_alloc _ _
  have hZ1 : Blk V1 pz [.string ByteArray.empty, .string ByteArray.empty, .int .i64 0, .slice none 0 0] 25 := by rw [hV1, hpz]; exact Blk.new _ _ _
  have HSG := Lib.hid (sign_bad V1 v b block wb hb)
  have HZ1 := Lib.hid hZ1
  have HBV := Lib.hid hbV
  have HV1 := Lib.hid hV1
  have HPZ := Lib.hid hpz
  clear hbV hZ1 hV1 hpz
  go_enter Try.func15, Try.ntmps15
  go_upto_region 1 with fail
  rw [← HPZ.out, ← HV1.out]
  go_wp2_with fail
  refine HSG.out.mono ?_
  rintro e w2 ⟨rfl, hb2⟩
  obtain ⟨V3, hV3⟩ : ∃ V, V = w2.alloc (Obj.cells #[.int .i64 0, .int .i64 0, .slice none 0 0, .slice none 0 0] 52) := ⟨_, rfl⟩
  have hw2 : V1.heap.size ≤ w2.heap.size := hb2.size
  have hb3 : Below w2.heap.size w2 V3 := by rw [hV3]; exact below_alloc _ _
  have hZ3 := (HZ1.out.below hb2 HZ1.out.lt).below hb3 (Nat.lt_of_lt_of_le HZ1.out.lt hw2)
  have hB3 := bl_nx (bl_nx HBV.out hb2) hb3
  have z0 := hZ3.cell (i := 0) rfl
  have z1 := hZ3.cell (i := 1) rfl
  have z2 := hZ3.cell (i := 2) rfl
  have z3 := hZ3.cell (i := 3) rfl
  have f0 := hZ3.frozen 0
  have f1 := hZ3.frozen 1
  have f2 := hZ3.frozen 2
  have f3 := hZ3.frozen 3
  have HZ3 := Lib.hid hZ3
  have HB3 := Lib.hid hB3
  have HV3 := Lib.hid hV3
  clear hZ3 hB3 hV3 hb2 hb3 hw2 hb
  go_upto_region 2 with fail
  rw [← HV3.out]
  go_wp2
  have hw : w.heap.size ≤ pz := Nat.le_of_eq HPZ.out.symm
  refine bodyPost_ret (results_cell_tmp_row rfl _ _ pz 25 _ (0, 0) _ rfl ((((HZ3.out.set 0 _).set 1 _).set 2 _).set 3 _) Try.underlying25 rfl (by kernel_rfl)) rfl ?_
  exact ⟨rfl, (((HB3.out.setCell hw _).setCell hw _).setCell hw _).setCell hw _⟩
/-- the bytes that some steps send -/
def sentL (l : List St) : Nat := (l.map (fun x => x.text.size)).sum
def lit40 : ByteArray := ⟨#[48, 49, 50, 51, 52, 53, 54, 55, 56, 57, 97, 98, 99, 100, 101, 102, 103, 104, 105, 106, 107, 108, 109, 110, 111, 112, 113, 114, 115, 116, 117, 118, 119, 120, 121, 122, 43, 45, 42, 47]⟩
theorem lit40_size : lit40.size = 40 := rfl
theorem below_kept {w w1 w2 : World} {m : Nat} (h : Below w.heap.size w w1) (hm : w.heap.size ≤ m) (hk : Kept (fun k => some m = some k) w1 w2) : Below w.heap.size w w2 :=
  hk.below h h.size (fun k hk e => by injection e with e; omega)
set_option maxRecDepth 100000 in
set_option maxHeartbeats 2000000 in
theorem awake_any (w : World) : Calls Try.prog 17 #[] w fun e w' => e = .returned (.bool true) ∧ Below w.heap.size w w' := by
  go_enter Try.func17, Try.ntmps17
  go_upto_region 2 with fail
  rw [show ByteArray.mk #[48, 49, 50, 51, 52, 53, 54, 55, 56, 57, 97, 98, 99, 100, 101, 102, 103, 104, 105, 106, 107, 108, 109, 110, 111, 112, 113, 114, 115, 116, 117, 118, 119, 120, 121, 122, 43, 45, 42, 47] = lit40 from rfl]
  have hl40 := lit40_size
  generalize lit40 = z at hl40 ⊢
  go_wp2_with fail
  refine (ideal_any _).mono ?_
  rintro e w1 ⟨rfl, hI1, hB1⟩
  go_wp2_with fail
  refine (of_ideal w1 (w.heap.size + 1) w.heap.size [] z z 16 hI1 (by simp) (by omega) (by omega) (by omega) (by omega)).mono ?_
  rintro e w2 ⟨sv, S, rfl, hO, hB, -, -, -, -, hk⟩
  have hBl := below_kept hB1 (Nat.le_refl _) hk
  have hst : stepsI z z 16 = [⟨0, 40, ByteArray.empty⟩] := by
    unfold stepsI
    rw [steps_own z 16 (by omega) (by omega), hl40]; rfl
  rw [hst] at hO
  obtain ⟨a2, k2, h2⟩ := owns_slice hO
  obtain rfl : sv = .slice a2 1 k2 := h2
  have hR := Own.rs (n := 1) rfl hO
  rw [hl40, show ((40 : Nat) : Int) = 40 from rfl]
  obtain ⟨V3, hV3⟩ : ∃ V, V = w2.alloc (Obj.cells #[.string (numS (S.idxOf (bytesOf z) + 1)), .string (numS (S.idxOf (bytesOf z) + 1)), .int .i64 40, .slice a2 1 k2] 25) := ⟨_, rfl⟩
  obtain ⟨p3, hp3⟩ : ∃ q, q = w2.heap.size := ⟨_, rfl⟩
  have hb3 : Below w2.heap.size w2 V3 := by rw [hV3]; exact below_alloc _ _
  have hG3 : Blk V3 p3 [.string (numS (S.idxOf (bytesOf z) + 1)), .string (numS (S.idxOf (bytesOf z) + 1)), .int .i64 40, .slice a2 1 k2] 25 := by rw [hV3, hp3]; exact Blk.new _ _ _
  have hR3 := hR.next hb3
  obtain ⟨g, off, rfl, hbw, hc⟩ := rs_s hR3 (by omega)
  obtain ⟨c0, c1, c2⟩ := hc 0 (by simp)
  have q3 := hG3.cell (i := 3) rfl
  have HBF := Lib.hid (bl_nx hBl hb3)
  have HV3 := Lib.hid hV3
  have HP3 := Lib.hid hp3
  simp only [List.getElem_cons_zero, Nat.zero_mul, Nat.add_zero] at c0 c1 c2
  clear hO hB hk hBl hst hR hb3 hG3 hR3 hc hV3 hp3 hI1 hB1
  go_upto_region 3 with fail
  rw [← HP3.out, ← HV3.out]
  go_wp2
  go_ret
  exact ⟨rfl, HBF.out⟩
end Go.Proofs.Ytgemhgllifhckaa
