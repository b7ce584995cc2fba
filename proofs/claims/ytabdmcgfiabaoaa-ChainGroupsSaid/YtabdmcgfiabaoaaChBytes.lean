/- The reference's Bytes. Conditions: as named in each theorem. -/
import Derived.Test.YtabdmcgfiabaoaaDlCore
import Derived.Test.YtabdmcgfiabaoaaChSteps
namespace Go.Proofs.Ytabdmcgfiabaoaa
open Go.RowKit
set_option linter.unusedVariables false
/-- how many bytes steps make -/
def weight1 (x : St) : Nat := if x.text.size ≠ 0 then x.text.size else x.len.toNat
def weight (l : List St) : Nat := (l.map weight1).sum
theorem bytes1_len (x : St) : (bytes1 x).length = weight1 x := by
  unfold bytes1 weight1
  split
  · simp [toldL]
  · simp [srcL]
theorem bytesL_len (l : List St) : (bytesL l).length = weight l := by
  induction l with
  | nil => rfl
  | cons x l ih => unfold bytesL weight at *; rw [List.flatMap_cons, List.length_append, ih, bytes1_len]; simp
theorem bytesL_succ (l : List St) (k : Nat) (hk : k < l.length) : bytesL (l.take (k + 1)) = bytesL (l.take k) ++ bytes1 l[k] := by
  rw [List.take_succ_eq_append_getElem hk, bytesL_append]; congr 1; simp [bytesL]
theorem weight_take (l : List St) (k : Nat) : weight (l.take k) ≤ weight l := by
  have : weight l = weight (l.take k) + weight (l.drop k) := by
    unfold weight; rw [← List.sum_append, ← List.map_append, List.take_append_drop]
  omega
theorem weight_succ (l : List St) (k : Nat) (hk : k < l.length) : weight (l.take (k + 1)) = weight (l.take k) + weight1 l[k] := by
  rw [List.take_succ_eq_append_getElem hk]; unfold weight; rw [List.map_append, List.sum_append]; simp
def OwnB (w : World) (base : Nat) (v : Value) (l : List By) : Prop := w.ownsRow base 57 3 v l.length (l.flatMap By.c)
theorem OwnB.nil (w : World) (base : Nat) : OwnB w base (.slice none 0 0) [] := World.ownsRow_nil _ _ _ _
theorem OwnB.snoc {w : World} {base : Nat} {v : Value} {l : List By} {x : By} (h : w.ownsRow base 57 3 v (l.length + 1) (l.flatMap By.c ++ x.c)) : OwnB w base v (l ++ [x]) := by
  unfold OwnB; simpa using h
theorem OwnB.row_ge {w : World} {base : Nat} {v : Value} {l : List By} (h : OwnB w base v l) : ∀ j, v.ownBlock = some j → base ≤ j := fun j hj => (World.ownsRow.lt h j hj).1
theorem chTake_snoc {α : Type} {l : List α} {k : Nat} {x : α} (h : l[k]? = some x) : l.take (k + 1) = l.take k ++ [x] := by
  obtain ⟨h1, h2⟩ := List.getElem?_eq_some_iff.1 h
  rw [List.take_succ_eq_append_getElem h1, h2]
theorem told_get (s : ByteArray) (k : Nat) (hk : k < s.size) : (toldL s).take (k + 1) = (toldL s).take k ++ [By.told s[k]] := by
  refine chTake_snoc ?_
  have hk2 : k < s.data.size := hk
  unfold toldL
  rw [List.getElem?_map, Array.getElem?_toList, Array.getElem?_eq_getElem hk2]
  rfl
theorem srcL_take (a : Int) (n k : Nat) (hk : k < n) : (srcL a n).take (k + 1) = (srcL a n).take k ++ [By.src (w64 (a + (k : Nat)))] := by
  refine chTake_snoc ?_
  unfold srcL
  rw [List.getElem?_map, List.getElem?_range hk]
  rfl
set_option maxRecDepth 100000 in
set_option maxHeartbeats 1000000 in
theorem chRefBytes_any (w : World) (ao : Option Addr) (len cap : Nat) (l : List St) (hR : Rs w ao len cap 3 l St.c) (hn : len ≤ 100000000) (hw : weight l ≤ 100000000) :
    Calls Try.prog 15 #[.slice ao len cap] w fun e w' => ∃ v', e = .returned v' ∧ OwnB w' w.heap.size v' (bytesL l) ∧ Below w.heap.size w w' := by
  obtain ⟨i0, hi, hz0, hz1, hz2⟩ := info_parts infoBy
  have hgz := byZ_run
  have HLEN := Lib.hid hR.2.2.1
  go_enter Try.func15, Try.ntmps15
  go_wp2
  go_loopw [3, 4] (fun a i wr => ∃ k : Nat, i = .int .i64 k ∧ k ≤ len ∧ OwnB wr w.heap.size a (bytesL (l.take k)) ∧ Below w.heap.size w wr) (fun _ i _ => len - (intOf i).toNat)
  case atStart => exact ⟨0, rfl, by omega, by simpa [bytesL] using OwnB.nil _ _, Below.refl _ _⟩
  case round =>
    obtain ⟨k, rfl, hk, hO, hB⟩ := hrel
    by_cases hlt : k < len
    · obtain ⟨b, off, rfl, hbw, hc⟩ := hR.2.2.2 (by omega)
      have hkl : k < l.length := by rw [HLEN.out]; exact hlt
      have hcc := hc k hkl
      have hsu := bytesL_succ l k hkl
      have hwt := weight_succ l k hkl
      have hwa := weight_take l (k + 1)
      have hln := bytesL_len (l.take k)
      obtain ⟨x, hx⟩ : ∃ x, x = l[k] := ⟨_, rfl⟩
      rw [← hx] at hcc hsu hwt
      obtain ⟨O, hOe⟩ : ∃ O, O = bytesL (l.take k) := ⟨_, rfl⟩
      rw [← hOe] at hO hsu hln
      obtain ⟨p, n, t⟩ := x
      have i1 : (k : Int) < (len : Int) := by omega
      have c0 : w.cell? ⟨b, off + k * 3, none⟩ = some (.int .i64 p) := hcc 0 _ rfl
      have c1 : w.cell? ⟨b, off + k * 3 + 1, none⟩ = some (.int .i64 n) := hcc 1 _ rfl
      have c2 : w.cell? ⟨b, off + k * 3 + 2, none⟩ = some (.string t) := hcc 2 _ rfl
      have hb1 : (bytes1 ⟨p, n, t⟩).length = weight1 ⟨p, n, t⟩ := bytes1_len _
      have hsz : O.length + (bytes1 ⟨p, n, t⟩).length ≤ 100000000 := by omega
      have d2 := (hB.cell (p := ⟨b, off + k * 3 + 2, none⟩) hbw).trans c2
      have HSU := Lib.hid hsu
      have hwb := hB.size
      clear hc hx hcc hsu hwt hwa hln hOe hkl hb1
      by_cases ht : t.size ≠ 0
      · have hne := strNe ht
        have hbe : bytes1 ⟨p, n, t⟩ = toldL t := by unfold bytes1; rw [if_pos ht]
        rw [hbe] at hsz HSU
        have hll : (toldL t).length = t.size := by simp [toldL]
        clear hbe c0 c1
        go_wp2
        go_loopw [3, 5] (fun a i wr2 => ∃ j : Nat, i = .int .i64 j ∧ j ≤ t.size ∧ OwnB wr2 w.heap.size a (O ++ (toldL t).take j) ∧ Below w.heap.size w wr2) (fun _ i _ => t.size - (intOf i).toNat)
        case atStart => exact ⟨0, rfl, by omega, by simpa using hO, hB⟩
        case round =>
          clear hO hB d2
          obtain ⟨j, rfl, hj, hO, hB⟩ := hrel
          have e2 := (hB.cell (p := ⟨b, off + k * 3 + 2, none⟩) hbw).trans c2
          have hwb2 := hB.size
          by_cases hjl : j < t.size
          · have htk := told_get t j hjl
            have hol : (O ++ (toldL t).take j).length ≤ 100000000 := by rw [List.length_append, List.length_take]; omega
            obtain ⟨L, hL⟩ : ∃ L, L = O ++ (toldL t).take j := ⟨_, rfl⟩
            rw [← hL] at hO hol
            have hnew : O ++ (toldL t).take (j + 1) = L ++ [By.told t[j]] := by rw [htk, hL, List.append_assoc]
            have HN := Lib.hid hnew
            have i2 : (j : Int) < (t.size : Int) := by omega
            have hts : t.size ≤ 100000000 := by omega
            clear hnew htk hL
            go_wp2_with (at_builtin; refine wpList_append_own _ rfl _ _ 29 rfl w.heap.size 57 i0 (.agg #[.bool false, .int .i64 0, .int .u8 0]) 3 24 Try.underlying29 hi hz0 hz1 hz2 rfl (by decide) _ _ _ rfl (World.ownsRow.alloc hO _) ⟨wr.heap.size, 0, none⟩ 1 1 [.bool true, .int .i64 0, .int .u8 (t[j].toNat : Nat)] rfl rfl (cells_new wr _ _) (bc_one (.told t[j])) (by unfold maxLen; omega) (by omega) (by simp; omega) ?_; intro v' w5 hO5 hg5 _)
            have hO6 : OwnB w5 w.heap.size v' (O ++ (toldL t).take (j + 1)) := by rw [HN.out]; exact OwnB.snoc hO5
            have hB6 : Below w.heap.size w w5 := (hB.alloc hwb2 _).grown hg5 (by simp; omega) hO.row_ge
            clear hO5 hg5
            go_wp2
            go_roundw
            case rel => exact ⟨j + 1, by go_num, by omega, hO6, hB6⟩
            case measure => simp [intOf]; omega
          · have htk : (toldL t).take j = toldL t := List.take_of_length_le (by omega)
            rw [htk, ← HSU.out] at hO
            go_wp2
            go_roundw
            case rel => exact ⟨k + 1, by go_num, by omega, hO, hB⟩
            case measure => simp [intOf]; omega
      · have ht0 : t.size = 0 := by omega
        obtain rfl := strEmpty ht0
        have hbe : bytes1 ⟨p, n, ByteArray.empty⟩ = srcL p n.toNat := rfl
        rw [hbe] at hsz HSU
        have hll : (srcL p n.toNat).length = n.toNat := by simp [srcL]
        have hn1 : n ≤ 100000000 := by omega
        clear hbe ht0 ht
        go_wp2
        go_loopw [3, 6] (fun a i wr2 => ∃ j : Nat, i = .int .i64 j ∧ j ≤ n.toNat ∧ OwnB wr2 w.heap.size a (O ++ (srcL p n.toNat).take j) ∧ Below w.heap.size w wr2) (fun _ i _ => n.toNat - (intOf i).toNat)
        case atStart => exact ⟨0, rfl, by omega, by simpa using hO, hB⟩
        case round =>
          clear hO hB d2
          obtain ⟨j, rfl, hj, hO, hB⟩ := hrel
          have e0 := (hB.cell (p := ⟨b, off + k * 3, none⟩) hbw).trans c0
          have e1 := (hB.cell (p := ⟨b, off + k * 3 + 1, none⟩) hbw).trans c1
          have hwb2 := hB.size
          by_cases hjl : (j : Int) < n
          · have htk := srcL_take p n.toNat j (by omega)
            have hol : (O ++ (srcL p n.toNat).take j).length ≤ 100000000 := by rw [List.length_append, List.length_take]; omega
            obtain ⟨z, hz⟩ : ∃ z, z = w64 (p + (j : Nat)) := ⟨_, rfl⟩
            rw [← hz] at htk
            have hzw : IntKind.i64.wrap (p + (j : Nat)) = z := hz.symm
            obtain ⟨L, hL⟩ : ∃ L, L = O ++ (srcL p n.toNat).take j := ⟨_, rfl⟩
            rw [← hL] at hO hol
            have hnew : O ++ (srcL p n.toNat).take (j + 1) = L ++ [By.src z] := by rw [htk, hL, List.append_assoc]
            have HN := Lib.hid hnew
            have HZ := Lib.hid hz
            clear hnew htk hL hz
            go_wp2_with (at_builtin; refine wpList_append_own _ rfl _ _ 29 rfl w.heap.size 57 i0 (.agg #[.bool false, .int .i64 0, .int .u8 0]) 3 24 Try.underlying29 hi hz0 hz1 hz2 rfl (by decide) _ _ _ rfl (World.ownsRow.alloc hO _) ⟨wr.heap.size, 0, none⟩ 1 1 [.bool false, .int .i64 z, .int .u8 0] rfl rfl (cells_new wr _ _) (bc_one (.src z)) (by unfold maxLen; omega) (by omega) (by simp; omega) ?_; intro v' w5 hO5 hg5 _)
            have hO6 : OwnB w5 w.heap.size v' (O ++ (srcL p n.toNat).take (j + 1)) := by rw [HN.out]; exact OwnB.snoc hO5
            have hB6 : Below w.heap.size w w5 := (hB.alloc hwb2 _).grown hg5 (by simp; omega) hO.row_ge
            clear hO5 hg5
            go_wp2
            go_roundw
            case rel => exact ⟨j + 1, by go_num, by omega, hO6, hB6⟩
            case measure => simp [intOf]; omega
          · have htk : (srcL p n.toNat).take j = srcL p n.toNat := List.take_of_length_le (by omega)
            rw [htk, ← HSU.out] at hO
            go_wp2
            go_roundw
            case rel => exact ⟨k + 1, by go_num, by omega, hO, hB⟩
            case measure => simp [intOf]; omega
    · have hkk : k = len := by omega
      rw [List.take_of_length_le (by rw [HLEN.out]; omega)] at hO
      subst hkk
      go_wp2
      go_ret
      exact ⟨_, rfl, hO, hB⟩
end Go.Proofs.Ytabdmcgfiabaoaa
