/- A number as bytes, in the program and in the reference. Conditions: the number is from 0 to 2^62 - 1. -/
import Derived.Test.YtgkcnocfijckoaaGreatQA
import Derived.Test.YtgkcnocfijckoaaGreatQK
namespace Go.Proofs.YtgkcnocfijckoaaGreat
open Go.RowKit
set_option linter.unusedVariables false
def numBs (n : Nat) : ByteArray := ⟨(numL n).toArray⟩
theorem numBs_list (n : Nat) : (numBs n).data.toList = numL n := rfl
theorem numBs_size (n : Nat) : (numBs n).size = (numL n).length := by simp [numBs, ByteArray.size]
theorem byteC_snoc (l : List UInt8) (c : UInt8) : byteC (l ++ [c]) = byteC l ++ [.int .u8 (c.toNat : Nat)] := by simp [byteC]
theorem land127 (n : Nat) : (n : Int) % 128 = ((n % 128 : Nat) : Int) := by omega
set_option maxRecDepth 100000 in
theorem num_any (n : Nat) (w : World) (hn : n ≤ 4611686018427387903) :
    Calls Tryz.prog 45 #[.int .i64 n] w fun e w' => e = .returned (.tuple #[.string (numBs n), .int .i64 0]) ∧ Below w.heap.size w w' := by
  obtain ⟨i0, hi, hz0, hz1, hz2⟩ := info_parts infoByte
  go_enter Tryz.func45, Tryz.ntmps45
  go_wp2
  go_loopw [0, 4] (fun m v wr => ∃ (N : Nat) (acc : List UInt8), m = .int .i64 N ∧ N ≤ n ∧ acc ++ numL N = numL n ∧ wr.ownsRow w.heap.size 5 1 v acc.length (byteC acc) ∧ Below w.heap.size w wr) (fun m _ _ => (intOf m).toNat)
  case atStart => exact ⟨n, [], rfl, Nat.le_refl _, rfl, World.ownsRow_nil _ _ _ _, Below.refl _ _⟩
  case round =>
    obtain ⟨N, acc, rfl, hN, hacc, hO, hB⟩ := hrel
    have hlen : acc.length ≤ 9 := by
      have h1 := numL_le9 n hn
      have := congrArg List.length hacc
      rw [List.length_append] at this; omega
    have hS := hB.size
    have HACC := Lib.hid hacc
    clear hacc
    by_cases hlt : 127 < N
    · have hb1 := and127 N (by omega)
      have hb2 := or128 (N % 128) (by omega)
      obtain ⟨M, hM⟩ : ∃ M, M = N % 128 := ⟨_, rfl⟩
      rw [← hM] at hb1 hb2
      have hM1 : M < 128 := by omega
      have HM := Lib.hid hM
      have hge := numL_ge (n := N) (by omega)
      rw [← hM] at hge
      have HG := Lib.hid hge
      clear hM hge
      go_wp2_with (at_builtin; refine wpList_append_own _ rfl _ _ 98 rfl w.heap.size 5 i0 (.int .u8 0) 1 1 Tryz.underlying98 hi hz0 hz1 hz2 rfl (by decide) _ _ _ rfl (hO.alloc _) ⟨wr.heap.size, 0, none⟩ 1 1 [.int .u8 ((M : Int) + 128)] rfl rfl (cell1_new _ _ _) (one1 _ rfl) (by unfold maxLen; omega) (by omega) (by simp; omega) ?_)
      intro v' w3 hO3 hg3 _
      have hO4 : w3.ownsRow w.heap.size 5 1 v' (acc ++ [UInt8.ofNat (M + 128)]).length (byteC (acc ++ [UInt8.ofNat (M + 128)])) := by
        rw [byteC_snoc, toNat_ofNat8 (by omega), List.length_append]
        exact hO3
      have hB4 : Below w.heap.size w w3 := (hB.alloc (by omega) _).grown hg3 (by simp; omega) (fun j hj => by have := World.ownsRow.lt hO j hj; omega)
      clear hO3 hg3 hO hB
      go_wp2
      go_roundw
      case rel => exact ⟨N / 128, acc ++ [UInt8.ofNat (M + 128)], by go_num, by omega, by rw [List.append_assoc, List.singleton_append, ← HG.out]; exact HACC.out, hO4, hB4⟩
      case measure => simp [intOf]; omega
    · have hl := numL_lt (n := N) (by omega)
      have hfin : numL n = acc ++ [UInt8.ofNat N] := by rw [← HACC.out, hl]
      have HF := Lib.hid hfin
      clear hl hfin
      go_wp2_with (at_builtin; refine wpList_append_own _ rfl _ _ 98 rfl w.heap.size 5 i0 (.int .u8 0) 1 1 Tryz.underlying98 hi hz0 hz1 hz2 rfl (by decide) _ _ _ rfl (hO.alloc _) ⟨wr.heap.size, 0, none⟩ 1 1 [.int .u8 (N : Int)] rfl rfl (cell1_new _ _ _) (one1 _ rfl) (by unfold maxLen; omega) (by omega) (by simp; omega) ?_)
      intro v' w3 hO3 hg3 _
      have hO4 : w3.ownsRow w.heap.size 5 1 v' (acc.length + 1) (byteC (numL n)) := by
        rw [HF.out, byteC_snoc, toNat_ofNat8 (by omega)]
        exact hO3
      have hB4 : Below w.heap.size w w3 := (hB.alloc (by omega) _).grown hg3 (by simp; omega) (fun j hj => by have := World.ownsRow.lt hO j hj; omega)
      have hcv : (convert 98 9 v').run Tryz.prog w3 = .ok (.string (numBs n)) w3 :=
        owns_bytes_str (numL n) Tryz.underlying98 Tryz.underlying5 Tryz.underlying9 hO4 (by omega)
      clear hO3 hg3 hO hB
      go_wp2
      go_ret2
      exact ⟨rfl, hB4⟩
end Go.Proofs.YtgkcnocfijckoaaGreat
