/- A piece of a text that is laid by its steps. Conditions: as named in each theorem. -/
import Derived.Test.YtabdmcgfiabaoaaChLaid
namespace Go.Proofs.Ytabdmcgfiabaoaa
open Go.RowKit
set_option linter.unusedVariables false
theorem weight1_right {x : St} (h : rightS x) : weight1 x = sum1 x := by
  unfold weight1 sum1
  by_cases ht : x.text.size = 0
  · rw [if_neg (by omega), ht]; omega
  · rw [if_pos ht]
    have := (h.1 ht).2.1
    omega
theorem weight_right {l : List St} (h : ∀ x ∈ l, rightS x) : weight l = sum2 l := by
  induction l with
  | nil => rfl
  | cons x l ih =>
    have h1 := ih (fun y hy => h y (by simp [hy]))
    unfold weight sum2 at *
    rw [List.map_cons, List.map_cons, List.sum_cons, List.sum_cons, h1, weight1_right (h x (by simp))]
theorem bytes_len_right {l : List St} (h : ∀ x ∈ l, rightS x) : (bytesL l).length = sum2 l := by rw [bytesL_len, weight_right h]
theorem cut_bytes {x : St} (hx : rightS x) {off k : Nat} (hk : off + k ≤ sum1 x) (hk1 : 1 ≤ k) : bytes1 (chCutS x off k) = ((bytes1 x).drop off).take k := by
  have hb := bytes1_len x
  rw [weight1_right hx] at hb
  unfold chCutS
  by_cases ht : x.text.size ≠ 0
  · have hn : x.len = 0 := (hx.1 ht).2.1
    have hts : off + k ≤ x.text.size := by unfold sum1 at hk; omega
    have hsz : (x.text.extract off (off + k)).size = k := by rw [ByteArray.size_extract]; omega
    rw [if_pos ht]
    unfold bytes1
    rw [if_pos (show (x.text.extract off (off + k)).size ≠ 0 by omega), if_pos ht]
    unfold toldL
    rw [ByteArray.data_extract, Array.toList_extract, ← List.map_drop, ← List.map_take]
    congr 1
    rw [List.extract_eq_take_drop, show off + k - off = k by omega]
  · rw [if_neg ht]
    unfold bytes1
    rw [if_neg (by simp), if_neg ht]
    have hts : off + k ≤ x.len.toNat := by unfold sum1 at hk; omega
    unfold srcL
    apply List.ext_getElem?
    intro i
    by_cases hi : i < k
    · rw [List.getElem?_take_of_lt hi, List.getElem?_drop, List.getElem?_map, List.getElem?_map, List.getElem?_range (show i < ((k : Nat) : Int).toNat by omega), List.getElem?_range (show off + i < x.len.toNat by omega)]
      show some (By.src (w64 (x.pos + off + (i : Nat)))) = some (By.src (w64 (x.pos + ((off + i : Nat) : Int))))
      congr 3
      omega
    · rw [List.getElem?_eq_none (by simp; omega), List.getElem?_eq_none (by rw [List.length_take]; omega)]
theorem piece_cut {l : List St} (h : ∀ x ∈ l, rightS x) {i off k : Nat} (hi : i < l.length) (hk : off + k ≤ sum1 l[i]) (hk1 : 1 ≤ k) : bytes1 (chCutS l[i] off k) = ((bytesL l).drop (sum2 (l.take i) + off)).take k := by
  have hx := h _ (List.getElem_mem hi)
  rw [cut_bytes hx hk hk1]
  have hb := bytes1_len l[i]
  rw [weight1_right hx] at hb
  have hsp : bytesL l = bytesL (l.take i) ++ (bytes1 l[i] ++ bytesL (l.drop (i + 1))) := by
    have e : l = l.take i ++ (l[i] :: l.drop (i + 1)) := by rw [← List.drop_eq_getElem_cons hi, List.take_append_drop]
    calc bytesL l = bytesL (l.take i ++ (l[i] :: l.drop (i + 1))) := by rw [← e]
      _ = _ := by rw [bytesL_append]; rfl
  have hl1 : (bytesL (l.take i)).length = sum2 (l.take i) := bytes_len_right (fun x hx => h x (List.mem_of_mem_take hx))
  rw [hsp, ← hl1, ← List.drop_drop, List.drop_left, List.drop_append_of_le_length (by omega), List.take_append_of_le_length (by rw [List.length_drop]; omega)]
theorem fromTo_get (l : List St) (n t : Nat) (ht : t < (fromTo l n).length) : (fromTo l n)[t] = ((sum2 (l.take t) : Nat) : Int) := by
  have hn : t < n := by rwa [fromTo_len] at ht
  have h : (fromTo l n)[t]? = some ((sum2 (l.take t) : Nat) : Int) := by
    unfold fromTo
    rw [List.getElem?_map, List.getElem?_range hn]; rfl
  exact (List.getElem?_eq_some_iff.1 h).2
theorem sum2_mono (l : List St) {i j : Nat} (h : i ≤ j) : sum2 (l.take i) ≤ sum2 (l.take j) := by
  have := sum2_take (l.take j) i
  rwa [List.take_take, Nat.min_eq_left h] at this
theorem from_up (l : List St) (n : Nat) : Upw (fromTo l n) := by
  intro i j hi hj hij
  rw [fromTo_get, fromTo_get]
  have := sum2_mono l hij
  omega
/-- where a search for a place begins -/
theorem from_cut {l : List St} (h : ∀ x ∈ l, rightS x) {a i : Nat} (hi : i ≤ l.length) (hc : CutAt (fromTo l l.length) ((a : Int) + 1) i) (ha : a < sum2 l) : ∃ j, i = j + 1 ∧ j < l.length ∧ sum2 (l.take j) ≤ a ∧ a < sum2 (l.take (j + 1)) := by
  cases i with
  | zero =>
    exfalso
    have hl : 0 < l.length := by
      rcases Nat.eq_zero_or_pos l.length with h0 | h0
      · rw [List.eq_nil_of_length_eq_zero h0] at ha; simp [sum2] at ha
      · exact h0
    have := hc.2 0 (by rw [fromTo_len]; exact hl) (Nat.le_refl _)
    rw [fromTo_get] at this
    simp [sum2] at this
    omega
  | succ j =>
    refine ⟨j, rfl, by omega, ?_, ?_⟩
    · have := hc.1 j (by rw [fromTo_len]; omega) (by omega)
      rw [fromTo_get] at this
      omega
    · by_cases hj : j + 1 < l.length
      · have := hc.2 (j + 1) (by rw [fromTo_len]; omega) (Nat.le_refl _)
        rw [fromTo_get] at this
        omega
      · rw [List.take_of_length_le (by omega)]; exact ha
def posOk (x : St) : Prop := (Lit.int .i64 x.pos).wf = true
theorem cut_pos {x : St} (hx : rightS x) {off k : Nat} (hk : off + k ≤ sum1 x) : posOk (chCutS x off k) := by
  unfold posOk chCutS
  by_cases ht : x.text.size ≠ 0
  · rw [if_pos ht]; rfl
  · rw [if_neg ht]
    have := hx.2 (by omega)
    unfold copyS at this
    have h2 := rightS_sum hx
    exact WalkArith.wf_i64 (by simp only; omega)
set_option maxRecDepth 100000 in
set_option maxHeartbeats 1000000 in
theorem piece_any (w : World) (pt : Nat) (ao : Option Addr) (len cap : Nat) (fv : Value) (l : List St) (a0 n0 : Nat) (hR : Rs w ao len cap 3 l St.c) (hr : ∀ x ∈ l, rightS x) (hX : Blk w pt [.slice ao len cap, fv] 83) {base1 : Nat} (hF : OwnI w base1 fv (fromTo l len)) (hn : len ≤ 1000000) (hs : sum2 l ≤ 1000000) (hn0 : 1 ≤ n0) (han : a0 + n0 ≤ sum2 l) :
    Calls Try.prog 34 #[.pointer (some ⟨pt, 0, none⟩), .int .i64 a0, .int .i64 n0] w fun e w' => ∃ (v' : Value) (out : List St), e = .returned v' ∧ Own w' w.heap.size v' out ∧ out.length ≤ n0 ∧ bytesL out = ((bytesL l).drop a0).take n0 ∧ (∀ x ∈ out, posOk x) ∧ Below w.heap.size w w' := by
  obtain ⟨i0, hi, hz0, hz1, hz2⟩ := info_parts infoStep
  have hgz := stepZ_run
  have HLEN := Lib.hid hR.2.2.1
  have hfl : (fromTo l len).length = len := fromTo_len l len
  obtain ⟨af, cf, rfl⟩ := owns_slice hF
  rw [hfl] at hX hF
  have hFR := hF.rs (fromTo_len l len)
  have hx0 := hX.cell (i := 0) rfl
  have hx1 := hX.cell (i := 1) rfl
  have HX := Lib.hid hX
  have hpt : pt < w.heap.size := hX.lt
  clear hX hfl
  go_enter Try.func34, Try.ntmps34
  go_wp2_with fail
  refine (searchInts_any w af len cf (fromTo l len) ((a0 : Int) + 1) hFR (by omega) (from_up l len)).mono ?_
  rintro e w1 ⟨i1, rfl, hi1, hcut, hb1⟩
  have hlen : l.length = len := HLEN.out
  have hcut2 : CutAt (fromTo l l.length) ((a0 : Int) + 1) i1 := by rw [hlen]; exact hcut
  obtain ⟨j0, rfl, hj0, hj1, hj2⟩ := from_cut hr (by omega) hcut2 (by omega)
  clear hcut hcut2 hi1
  have hRB : Hid (Below w.heap.size w w1) := Lib.hid hb1
  have HR := Lib.hid hr
  have hsz1 := hb1.size
  go_wp2
  go_loopw [1, 2, 7, 8] (fun av nv ov iv wr => ∃ (i a m : Nat) (out : List St), av = .int .i64 a ∧ nv = .int .i64 m ∧ iv = .int .i64 i ∧ a0 ≤ a ∧ a + m = a0 + n0 ∧ i ≤ len ∧ (0 < m → i < len ∧ sum2 (l.take i) ≤ a ∧ a < sum2 (l.take (i + 1))) ∧ Own wr w.heap.size ov out ∧ out.length ≤ a - a0 ∧ bytesL out = ((bytesL l).drop a0).take (a - a0) ∧ (∀ x ∈ out, posOk x) ∧ Below w.heap.size w wr) (fun _ nv _ _ _ => (intOf nv).toNat)
  case atStart => exact ⟨j0, a0, n0, [], rfl, rfl, by go_num, by omega, rfl, by omega, fun _ => ⟨by omega, hj1, hj2⟩, Own.nil _ _, by simp, by simp [bytesL], by simp, hb1⟩
  case round =>
    clear hb1 hj0 hj1 hj2
    obtain ⟨i, a, m, out, rfl, rfl, rfl, ha0, ham, hil, hin, hO, hol, hbo, hpo, hB⟩ := hrel
    have hwb := hB.size
    by_cases hm : 0 < m
    · obtain ⟨hi1, hi2, hi3⟩ := hin hm
      have hks : i < l.length := by omega
      obtain ⟨b, off, rfl, hbw, hc⟩ := rs_s hR (by omega)
      obtain ⟨c0, c1, c2⟩ := hc i hks
      obtain ⟨bf, of, rfl, hbfw, hcf⟩ := hFR.cell1 (by omega)
      have cf0 := hcf i (by rw [fromTo_len]; exact hi1) _ rfl
      rw [fromTo_get] at cf0
      have hrx := hr _ (List.getElem_mem hks)
      have hsu := sum2_succ l i hks
      have hpc := fun off k h1 h2 => piece_cut hr hks (off := off) (k := k) h1 h2
      have hmn := sum2_mono l (show i + 1 ≤ len by omega)
      have hfull : sum2 (l.take len) = sum2 l := by rw [List.take_of_length_le (by omega)]
      have hnext : ∀ h : i + 1 < len, 1 ≤ sum1 (l[i + 1]'(by omega)) := fun h => (rightS_sum (hr _ (List.getElem_mem _))).2.2.2.1
      have hsu2 : ∀ h : i + 1 < len, sum2 (l.take (i + 1 + 1)) = sum2 (l.take (i + 1)) + sum1 (l[i + 1]'(by omega)) := fun h => sum2_succ l (i + 1) (by omega)
      obtain ⟨x, hx⟩ : ∃ x, x = l[i] := ⟨_, rfl⟩
      rw [← hx] at c0 c1 c2 hrx hsu hpc
      obtain ⟨S, hS⟩ : ∃ S, S = sum2 (l.take i) := ⟨_, rfl⟩
      rw [← hS] at hsu hi2 cf0 hpc
      obtain ⟨p, n, t⟩ := x
      obtain ⟨r1, r2, r3, r4, r5⟩ := rightS_sum hrx
      simp only at r1 r2 r3 r5
      obtain ⟨o, ho⟩ : ∃ o : Nat, o = a - S := ⟨_, rfl⟩
      obtain ⟨k, hk⟩ : ∃ k : Nat, k = min m (sum1 ⟨p, n, t⟩ - o) := ⟨_, rfl⟩
      have hoff : (a : Int) - (S : Int) = (o : Int) := by omega
      have hok : o + k ≤ sum1 ⟨p, n, t⟩ := by omega
      have hk1 : 1 ≤ k := by omega
      have hkm : k ≤ m := by omega
      have hmv : (if n + (t.size : Int) - (o : Int) < (m : Int) then n + (t.size : Int) - (o : Int) else (m : Int)) = (k : Int) := by rw [← r5]; split <;> omega
      have HPC := Lib.hid (hpc o k hok hk1)
      have HPOS := Lib.hid (cut_pos hrx hok)
      have HNX : Hid (0 < m - k → i + 1 < len ∧ sum2 (l.take (i + 1)) ≤ a + k ∧ a + k < sum2 (l.take (i + 1 + 1))) := Lib.hid (fun h => by
        have e1 : a + k = sum2 (l.take (i + 1)) := by omega
        have e2 : i + 1 < len := by
          refine Classical.byContradiction fun h2 => ?_
          have e3 : i + 1 = len := by omega
          rw [e3, hfull] at e1
          omega
        have e4 := hnext e2
        have e5 := hsu2 e2
        exact ⟨e2, by omega, by omega⟩)
      have hal : a ≤ 1000000 := by omega
      have hml : m ≤ 1000000 := by omega
      have hSl : S ≤ 1000000 := by omega
      have hol2 : o ≤ 1000000 := by omega
      have HBO := Lib.hid hbo
      have HPO := Lib.hid hpo
      have HRX := Lib.hid hrx
      have HOK := Lib.hid hok
      have HOFF := Lib.hid ho
      have d0 := (hB.cell (p := ⟨b, off + i * 3, none⟩) hbw).trans c0
      have d1 := (hB.cell (p := ⟨b, off + i * 3 + 1, none⟩) hbw).trans c1
      have d2 := (hB.cell (p := ⟨b, off + i * 3 + 2, none⟩) hbw).trans c2
      have df := (hB.cell (p := ⟨bf, of + i, none⟩) hbfw).trans cf0
      have dx0 := (hB.cell (p := ⟨pt, 0, none⟩) hpt).trans hx0
      have dx1 := (hB.cell (p := ⟨pt, 1, none⟩) hpt).trans hx1
      simp only at d0 d1 d2
      have i1 : (i : Int) < (len : Int) := by omega
      have hcl1 : len ≤ cap := hR.1
      have hcl2 : len ≤ cf := hFR.1
      have hin2 : i ≤ 1000000 := by omega
      clear c0 c1 c2 hc cf0 hcf hx hpc hS hnext hsu2 hmn hfull hsu hrx hok hk ho hbo hpo hin hi2 hi3 r4 r5 hks
      go_wp2_with fail
      refine (length_any _ p n t r1 (by omega) (by omega)).mono ?_
      rintro e w2 ⟨rfl, hb2⟩
      have hB2 := hB.trans (hb2.mono hwb)
      have hO2 := hO.below hb2
      have d0' := (hb2.cell (p := ⟨b, off + i * 3, none⟩) (Nat.lt_of_lt_of_le hbw hwb)).trans d0
      have d1' := (hb2.cell (p := ⟨b, off + i * 3 + 1, none⟩) (Nat.lt_of_lt_of_le hbw hwb)).trans d1
      have d2' := (hb2.cell (p := ⟨b, off + i * 3 + 2, none⟩) (Nat.lt_of_lt_of_le hbw hwb)).trans d2
      have dx0' := (hb2.cell (p := ⟨pt, 0, none⟩) (Nat.lt_of_lt_of_le hpt hwb)).trans dx0
      have hwb2 := hB2.size
      clear d0 d1 d2 df dx0 dx1 hb2 hB hO
      go_wp2_with fail
      refine (chCut_any _ p n t o k HRX.out HOK.out).mono ?_
      rintro e w3 ⟨rfl, hb3⟩
      have hB3 := hB2.trans (hb3.mono hwb2)
      have hO3 := hO2.below hb3
      have hwb3 := hB3.size
      obtain ⟨c, hce⟩ : ∃ c, c = chCutS ⟨p, n, t⟩ o k := ⟨_, rfl⟩
      rw [← hce] at HPC HPOS
      rw [← hce]
      have hb1c : bytesL (out ++ [c]) = ((bytesL l).drop a0).take (a + k - a0) := by
        rw [bytesL_append, HBO.out, show bytesL [c] = bytes1 c by simp [bytesL], HPC.out, show S + o = a by have := HOFF.out; omega, show a + k - a0 = (a - a0) + k by omega, List.take_add, List.drop_drop, show a0 + (a - a0) = a by omega]
      have HB1C := Lib.hid hb1c
      clear d0' d1' d2' dx0' hb3 hB2 hO2 hce hb1c
      go_wp2_with (at_builtin; refine wpList_append_own _ rfl _ _ 22 rfl w.heap.size 55 i0 (.agg #[.int .i64 0, .int .i64 0, .string ByteArray.empty]) 3 32 Try.underlying22 hi hz0 hz1 hz2 rfl (by decide) _ _ _ rfl (World.ownsRow.alloc hO3 _) ⟨w3.heap.size, 0, none⟩ 1 1 [.int .i64 c.pos, .int .i64 c.len, .string c.text] rfl rfl (cells_new w3 _ _) (sc_one c) (by unfold maxLen; omega) (by omega) (by simp; omega) ?_; intro v' w5 hO5 hg5 _)
      have hO6 : Own w5 w.heap.size v' (out ++ [c]) := Own.snoc hO5
      have hB6 : Below w.heap.size w w5 := (hB3.alloc hwb3 _).grown hg5 (by simp; omega) hO3.row_ge
      clear hO5 hg5
      go_wp2
      go_roundw
      case rel => exact ⟨i + 1, a + k, m - k, out ++ [c], by go_num, by go_num, by go_num, by omega, by omega, by omega, HNX.out, hO6, by simp; omega, HB1C.out, (fun y hy => (List.mem_append.1 hy).elim (HPO.out y) (fun h => by rw [List.mem_singleton.1 h]; exact HPOS.out)), hB6⟩
      case measure => simp [intOf]; omega
    · have hm0 : m = 0 := by omega
      subst hm0
      have hae : a - a0 = n0 := by omega
      rw [hae] at hbo hol
      clear hin
      go_wp2
      go_ret
      exact ⟨_, out, rfl, hO, hol, hbo, hpo, hB⟩
end Go.Proofs.Ytabdmcgfiabaoaa
