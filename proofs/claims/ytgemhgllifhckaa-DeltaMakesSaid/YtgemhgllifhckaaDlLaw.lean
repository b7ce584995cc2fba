/- Chapter 6's small parts: cut, a block out of range, Sent, the chapter's example. Conditions: as named in each theorem. -/
import Derived.Test.YtgemhgllifhckaaDlOf
namespace Go.Proofs.Ytgemhgllifhckaa
open Go.RowKit Sg
set_option linter.unusedVariables false
set_option linter.unusedSimpArgs false

/-- the first n bytes of a text, at most -/
def cutS (s : ByteArray) (n : Nat) : ByteArray := if n < s.size then s.extract 0 n else s
theorem cutS_size (s : ByteArray) (n : Nat) : (cutS s n).size ≤ n := by
  unfold cutS; split
  · simp; omega
  · omega

theorem cut_any (s : ByteArray) (n : Nat) (w : World) (hs : s.size ≤ 9223372036854775807) (hn : n ≤ 1000000) :
    Calls Try.prog 14 #[.string s, .int .i64 n] w fun e w' => e = .returned (.string (cutS s n)) ∧ w = w' := by
  by_cases h : n < s.size
  · go_enter Try.func14, Try.ntmps14
    go_wp2
    go_ret
    exact ⟨by unfold cutS; rw [if_pos h]; rfl, rfl⟩
  · go_enter Try.func14, Try.ntmps14
    go_wp2
    go_ret
    exact ⟨by unfold cutS; rw [if_neg h]; rfl, rfl⟩
set_option maxRecDepth 100000 in
set_option maxHeartbeats 1000000 in
theorem of_bad (w : World) (v : Value) (b s : ByteArray) (block : Int) (wb : (Lit.int .i64 block).wf = true) (hb : ¬ (16 ≤ block ∧ block ≤ 1024)) :
    Calls Try.prog 15 #[v, .string b, .string s, .int .i64 block] w fun e w' => e = .returned (.tuple #[.agg #[.string ByteArray.empty, .string ByteArray.empty, .int .i64 0, .slice none 0 0], .int .i64 1]) ∧ Below w.heap.size w w' := by
  have hdz := dlZ_run
  obtain ⟨V1, hV1⟩ : ∃ V, V = w.alloc (Obj.cells #[.string ByteArray.empty, .string ByteArray.empty, .int .i64 0, .slice none 0 0] 25) := ⟨_, rfl⟩
  obtain ⟨pz, hpz⟩ : ∃ q, q = w.heap.size := ⟨_, rfl⟩
  have hbV : Below w.heap.size w V1 := by rw [hV1]; exact below_alloc _ _
  have hZ1 : Blk V1 pz [.string ByteArray.empty, .string ByteArray.empty, .int .i64 0, .slice none 0 0] 25 := by rw [hV1, hpz]; exact Blk.new _ _ _
  have HSG := Lib.hid (sign_bad V1 v b block wb hb)
  have HZ1 := Lib.hid hZ1
  have HBV := Lib.hid hbV
  have HV1 := Lib.hid hV1
  have HPZ := Lib.hid hpz
  clear hbV hZ1 hV1 hpz
  go_enter Try.func15, Try.ntmps15
  go_upto_region 1 with fail
  rw [← HPZ.out, ← HV1.out]
  go_wp2_with fail
  refine HSG.out.mono ?_
  rintro e w2 ⟨rfl, hb2⟩
  obtain ⟨V3, hV3⟩ : ∃ V, V = w2.alloc (Obj.cells #[.int .i64 0, .int .i64 0, .slice none 0 0, .slice none 0 0] 52) := ⟨_, rfl⟩
  have hw2 : V1.heap.size ≤ w2.heap.size := hb2.size
  have hb3 : Below w2.heap.size w2 V3 := by rw [hV3]; exact below_alloc _ _
  have hZ3 := (HZ1.out.below hb2 HZ1.out.lt).below hb3 (Nat.lt_of_lt_of_le HZ1.out.lt hw2)
  have hB3 := bl_nx (bl_nx HBV.out hb2) hb3
  have z0 := hZ3.cell (i := 0) rfl
  have z1 := hZ3.cell (i := 1) rfl
  have z2 := hZ3.cell (i := 2) rfl
  have z3 := hZ3.cell (i := 3) rfl
  have f0 := hZ3.frozen 0
  have f1 := hZ3.frozen 1
  have f2 := hZ3.frozen 2
  have f3 := hZ3.frozen 3
  have HZ3 := Lib.hid hZ3
  have HB3 := Lib.hid hB3
  have HV3 := Lib.hid hV3
  clear hZ3 hB3 hV3 hb2 hb3 hw2 hb
  go_upto_region 2 with fail
  rw [← HV3.out]
  go_wp2
  have hw : w.heap.size ≤ pz := Nat.le_of_eq HPZ.out.symm
  refine bodyPost_ret (results_cell_tmp_row rfl _ _ pz 25 _ (0, 0) _ rfl ((((HZ3.out.set 0 _).set 1 _).set 2 _).set 3 _) Try.underlying25 rfl (by kernel_rfl)) rfl ?_
  exact ⟨rfl, (((HB3.out.setCell hw _).setCell hw _).setCell hw _).setCell hw _⟩

/-- the bytes that some steps send -/
def sentL (l : List St) : Nat := (l.map (fun x => x.text.size)).sum
theorem sentL_take (l : List St) (k : Nat) (x : St) (h : l[k]? = some x) : sentL (l.take (k + 1)) = sentL (l.take k) + x.text.size := by
  unfold sentL
  rw [List.take_add_one, h, List.map_append, List.sum_append]; simp
theorem sentL_le (l : List St) (k m : Nat) (h : ∀ x ∈ l, x.text.size ≤ m) : sentL (l.take k) ≤ k * m := by
  induction k with
  | zero => simp [sentL]
  | succ k ih =>
    cases hx : l[k]? with
    | none =>
      rw [List.take_add_one, hx]
      simp only [Option.toList_none, List.append_nil, Nat.add_mul]; omega
    | some x =>
      rw [sentL_take l k x hx, Nat.add_mul]
      have := h x (List.mem_of_getElem? hx); omega

set_option maxRecDepth 100000 in
set_option maxHeartbeats 1000000 in
theorem sent_any (w : World) (ao : Option Addr) (n cap : Nat) (l : List St) (hR : Rs w ao n cap 3 l St.c) (hn : n ≤ 1000000) (hm : ∀ x ∈ l, x.text.size ≤ 1000000) :
    Calls Try.prog 18 #[.slice ao n cap] w fun e w' => e = .returned (.int .i64 (sentL l)) ∧ Below w.heap.size w w' := by
  have hstz := stepZ_run
  have HR := Lib.hid hR
  have HM := Lib.hid hm
  clear hR hm
  go_enter Try.func18, Try.ntmps18
  go_wp2_with fail
  go_loopw [3, 8] (fun a k wr => ∃ j : Nat, k = .int .i64 j ∧ j ≤ n ∧ a = .int .i64 (sentL (l.take j)) ∧ Below w.heap.size w wr) (fun _ k _ => n - (intOf k).toNat)
  case atStart => exact ⟨0, by go_num, Nat.zero_le _, by simp [sentL], Below.refl _ _⟩
  case round =>
    obtain ⟨j, rfl, hj, rfl, hB⟩ := hrel
    have hRw := HR.out.next hB
    have hlen : l.length = n := HR.out.2.2.1
    by_cases hjn : j < n
    · obtain ⟨g, off, rfl, hbw, hc⟩ := rs_s hRw (by omega)
      have hks : j < l.length := by omega
      obtain ⟨c0, c1, c2⟩ := hc j hks
      have hst := sentL_take l j _ (List.getElem?_eq_getElem hks)
      have hle := sentL_le l j 1000000 HM.out
      have hxm := HM.out _ (List.getElem_mem hks)
      obtain ⟨x, hx⟩ : ∃ x, x = l[j] := ⟨_, rfl⟩
      rw [← hx] at c0 c1 c2 hst hxm
      obtain ⟨S, hS⟩ : ∃ S, S = sentL (l.take j) := ⟨_, rfl⟩
      rw [← hS] at hst hle
      rw [← hS]
      obtain ⟨p, k, t⟩ := x
      have hle2 : S ≤ 1000000000000 := Nat.le_trans hle (by omega)
      simp only at c0 c1 c2 hst hxm
      have i1 : (j : Int) < (n : Int) := by omega
      have HB1 := Lib.hid (bl_nx hB (below_alloc wr (Obj.cells #[.int .i64 p, .int .i64 k, .string t] 76)))
      have y2 := (Blk.new wr [.int .i64 p, .int .i64 k, .string t] 76).cell (i := 2) rfl
      have HST := Lib.hid hst
      clear hst hle hx hS hc hRw hlen hB
      go_wp2
      go_roundw
      case rel => exact ⟨j + 1, by go_num, by omega, by rw [HST.out]; go_num, HB1.out⟩
      case measure => simp [intOf]; omega
    · have HS : Hid (sentL (l.take j) = sentL l) := Lib.hid (by rw [List.take_of_length_le (by omega)])
      clear hRw hlen
      go_wp2
      go_ret
      exact ⟨by rw [HS.out]; rfl, hB⟩

def lit40 : ByteArray := ⟨#[48, 49, 50, 51, 52, 53, 54, 55, 56, 57, 97, 98, 99, 100, 101, 102, 103, 104, 105, 106, 107, 108, 109, 110, 111, 112, 113, 114, 115, 116, 117, 118, 119, 120, 121, 122, 43, 45, 42, 47]⟩
theorem lit40_size : lit40.size = 40 := rfl
theorem ownL_len (n : Nat) : (ownL n).length = if n = 0 then 0 else 1 := by unfold ownL; split <;> rfl
theorem sent_own (n : Nat) : sentL (ownL n) = 0 := by unfold ownL; split <;> rfl
theorem below_kept {w w1 w2 : World} {m : Nat} (h : Below w.heap.size w w1) (hm : w.heap.size ≤ m) (hk : Kept (fun k => some m = some k) w1 w2) : Below w.heap.size w w2 :=
  hk.below h h.size (fun k hk e => by injection e with e; omega)

set_option maxRecDepth 100000 in
set_option maxHeartbeats 2000000 in
theorem awake_any (w : World) : Calls Try.prog 17 #[] w fun e w' => e = .returned (.bool true) ∧ Below w.heap.size w w' := by
  go_enter Try.func17, Try.ntmps17
  go_upto_region 2 with fail
  rw [show ByteArray.mk #[48, 49, 50, 51, 52, 53, 54, 55, 56, 57, 97, 98, 99, 100, 101, 102, 103, 104, 105, 106, 107, 108, 109, 110, 111, 112, 113, 114, 115, 116, 117, 118, 119, 120, 121, 122, 43, 45, 42, 47] = lit40 from rfl]
  have hl40 := lit40_size
  generalize lit40 = z at hl40 ⊢
  go_wp2_with fail
  refine (ideal_any _).mono ?_
  rintro e w1 ⟨rfl, hI1, hB1⟩
  go_wp2_with fail
  refine (of_ideal w1 (w.heap.size + 1) w.heap.size [] z z 16 hI1 (by simp) (by omega) (by omega) (by omega) (by omega)).mono ?_
  rintro e w2 ⟨sv, S, rfl, hO, hB, -, -, -, -, hk⟩
  have hBl := below_kept hB1 (Nat.le_refl _) hk
  have hst : stepsI z z 16 = [⟨0, 40, ByteArray.empty⟩] := by
    unfold stepsI
    rw [steps_own z 16 (by omega) (by omega), hl40]; rfl
  rw [hst] at hO
  obtain ⟨a2, k2, h2⟩ := owns_slice hO
  obtain rfl : sv = .slice a2 1 k2 := h2
  have hR := Own.rs (n := 1) rfl hO
  rw [hl40, show ((40 : Nat) : Int) = 40 from rfl]
  obtain ⟨V3, hV3⟩ : ∃ V, V = w2.alloc (Obj.cells #[.string (numS (S.idxOf (bytesOf z) + 1)), .string (numS (S.idxOf (bytesOf z) + 1)), .int .i64 40, .slice a2 1 k2] 25) := ⟨_, rfl⟩
  obtain ⟨p3, hp3⟩ : ∃ q, q = w2.heap.size := ⟨_, rfl⟩
  have hb3 : Below w2.heap.size w2 V3 := by rw [hV3]; exact below_alloc _ _
  have hG3 : Blk V3 p3 [.string (numS (S.idxOf (bytesOf z) + 1)), .string (numS (S.idxOf (bytesOf z) + 1)), .int .i64 40, .slice a2 1 k2] 25 := by rw [hV3, hp3]; exact Blk.new _ _ _
  have hR3 := hR.next hb3
  obtain ⟨g, off, rfl, hbw, hc⟩ := rs_s hR3 (by omega)
  obtain ⟨c0, c1, c2⟩ := hc 0 (by simp)
  have q3 := hG3.cell (i := 3) rfl
  have HBF := Lib.hid (bl_nx hBl hb3)
  have HV3 := Lib.hid hV3
  have HP3 := Lib.hid hp3
  simp only [List.getElem_cons_zero, Nat.zero_mul, Nat.add_zero] at c0 c1 c2
  clear hO hB hk hBl hst hR hb3 hG3 hR3 hc hV3 hp3 hI1 hB1
  go_upto_region 3 with fail
  rw [← HP3.out, ← HV3.out]
  go_wp2
  go_ret
  exact ⟨rfl, HBF.out⟩
end Go.Proofs.Ytgemhgllifhckaa
