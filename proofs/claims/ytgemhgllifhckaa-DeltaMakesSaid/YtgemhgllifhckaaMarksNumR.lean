/- The document's numbers as 32 bytes. Conditions: as named in each theorem. -/
import Derived.Test.YtgemhgllifhckaaMarksNum
namespace Go.Proofs.Ytgemhgllifhckaa
open Go.RowKit
set_option linter.unusedVariables false

set_option maxRecDepth 100000 in
theorem refNumber_any (n : Nat) (w : World) (hn : n ≤ 9223372036854775807) :
    Calls Try.prog 87 #[.int .i64 n] w fun e w' => e = .returned (.string (numS n)) ∧ Below w.heap.size w w' := by
  obtain ⟨i0, hi, hz0, hz1, hz2⟩ := info_parts infoByte
  go_enter Try.func87, Try.ntmps87
  go_wp2
  go_loopw [0, 3, 4] (fun m v i wr => ∃ k : Nat, k ≤ 32 ∧ m = .int .i64 (n / 256 ^ k : Nat) ∧ i = .int .i64 k ∧ wr.ownsRow w.heap.size 5 1 v k (byteC ((numB n).take k)) ∧ Below w.heap.size w wr) (fun _ _ i _ => 32 - (intOf i).toNat)
  case atStart => exact ⟨0, by omega, by simp, rfl, World.ownsRow_nil _ _ _ _, Below.refl _ _⟩
  case round =>
    obtain ⟨k, hk, hm, rfl, hO, hB⟩ := hrel
    obtain ⟨M, hM⟩ : ∃ M, M = n / 256 ^ k := ⟨_, rfl⟩
    rw [← hM] at hm
    subst hm
    have hMb : M ≤ 9223372036854775807 := by rw [hM]; exact Nat.le_trans (Nat.div_le_self _ _) hn
    have HM := Lib.hid hM
    clear hM
    have hS := hB.size
    by_cases hlt : k < 32
    · go_wp2_with (at_builtin; refine wpList_append_own _ rfl _ _ 81 rfl w.heap.size 5 i0 (.int .u8 0) 1 1 Try.underlying81 hi hz0 hz1 hz2 rfl (by decide) _ _ _ rfl (hO.alloc _) ⟨wr.heap.size, 0, none⟩ 1 1 [.int .u8 ((M : Int) % 256)] rfl rfl (cell1_new _ _ _) (one1 _ rfl) (by unfold maxLen; omega) (by omega) (by simp; omega) ?_)
      intro v' V3 hO3 hgr3 _
      have hO4 : V3.ownsRow w.heap.size 5 1 v' (k + 1) (byteC ((numB n).take (k + 1))) := by
        have e : byteC ((numB n).take (k + 1)) = byteC ((numB n).take k) ++ [.int .u8 ((M : Int) % 256)] := by
          rw [List.take_succ_eq_append_getElem (by rw [numB_len]; exact hlt)]
          simp only [byteC, List.map_append, List.map_cons, List.map_nil]
          congr 3
          simp only [numB, List.getElem_map, List.getElem_range, UInt8.toNat_ofNat']
          have := nb_lt n k
          rw [HM.out]
          unfold nb at this ⊢
          omega
        rw [e]; exact hO3
      have hB4 : Below w.heap.size w V3 := (hB.alloc (by omega) _).grown hgr3 (by simp; omega) (fun j hj => by have := World.ownsRow.lt hO j hj; omega)
      clear hO3 hgr3 hO hB
      go_wp2
      go_roundw
      case rel =>
        refine ⟨k + 1, by omega, ?_, by go_num, hO4, hB4⟩
        rw [Nat.pow_succ, ← Nat.div_div_eq_div_mul, ← HM.out]
        rfl
      case measure => simp [intOf]; omega
    · have hk2 : k = 32 := by omega
      subst hk2
      rw [show (numB n).take 32 = numB n from List.take_of_length_le (by rw [numB_len]; omega)] at hO
      have hcv : (convert 81 9 u3).run Try.prog wr = .ok (.string (numS n)) wr :=
        owns_bytes_str (numB n) Try.underlying81 Try.underlying5 Try.underlying9 hO (by decide)
      clear hO
      go_wp2
      go_ret
      exact ⟨rfl, hB⟩

set_option maxRecDepth 100000 in
theorem refNumber_neg (n : Int) (w : World) (hn : n < 0) :
    Calls Try.prog 87 #[.int .i64 n] w fun e w' => ∃ s : ByteArray, e = .returned (.string s) ∧ s.size = 32 ∧ Below w.heap.size w w' := by
  obtain ⟨i0, hi, hz0, hz1, hz2⟩ := info_parts infoByte
  go_enter Try.func87, Try.ntmps87
  go_wp2
  go_loopw [0, 3, 4] (fun m v i wr => ∃ (k : Nat) (M : Int) (l : List UInt8), k ≤ 32 ∧ m = .int .i64 M ∧ l.length = k ∧ i = .int .i64 k ∧ wr.ownsRow w.heap.size 5 1 v k (byteC l) ∧ Below w.heap.size w wr) (fun _ _ i _ => 32 - (intOf i).toNat)
  case atStart => exact ⟨0, n, [], by omega, rfl, rfl, rfl, World.ownsRow_nil _ _ _ _, Below.refl _ _⟩
  case round =>
    obtain ⟨k, M, l, hk, rfl, hl, rfl, hO, hB⟩ := hrel
    have HL := Lib.hid hl
    clear hl
    have hS := hB.size
    by_cases hlt : k < 32
    · go_wp2_with (at_builtin; refine wpList_append_own _ rfl _ _ 81 rfl w.heap.size 5 i0 (.int .u8 0) 1 1 Try.underlying81 hi hz0 hz1 hz2 rfl (by decide) _ _ _ rfl (hO.alloc _) ⟨wr.heap.size, 0, none⟩ 1 1 [.int .u8 (M.tmod 256 % 256)] rfl rfl (cell1_new _ _ _) (one1 _ rfl) (by unfold maxLen; omega) (by omega) (by simp; omega) ?_)
      intro v' V3 hO3 hgr3 _
      have hO4 : V3.ownsRow w.heap.size 5 1 v' (k + 1) (byteC (l ++ [UInt8.ofNat (M.tmod 256 % 256).toNat])) := by
        have e : byteC (l ++ [UInt8.ofNat (M.tmod 256 % 256).toNat]) = byteC l ++ [.int .u8 (M.tmod 256 % 256)] := by
          simp only [byteC, List.map_append, List.map_cons, List.map_nil]
          congr 3
          simp only [UInt8.toNat_ofNat']
          omega
        rw [e]; exact hO3
      have hB4 : Below w.heap.size w V3 := (hB.alloc (by omega) _).grown hgr3 (by simp; omega) (fun j hj => by have := World.ownsRow.lt hO j hj; omega)
      clear hO3 hgr3 hO hB
      go_wp2
      go_roundw
      case rel => exact ⟨k + 1, _, l ++ [UInt8.ofNat (M.tmod 256 % 256).toNat], by omega, rfl, by rw [List.length_append, HL.out]; rfl, by go_num, hO4, hB4⟩
      case measure => simp [intOf]; omega
    · have hk2 : k = 32 := by omega
      subst hk2
      have hcv : (convert 81 9 u3).run Try.prog wr = .ok (.string ⟨l.toArray⟩) wr :=
        owns_bytes_str l Try.underlying81 Try.underlying5 Try.underlying9 hO (by decide)
      clear hO
      go_wp2
      go_ret
      exact ⟨⟨l.toArray⟩, rfl, HL.out, hB⟩
end Go.Proofs.Ytgemhgllifhckaa
