/- What stands behind a text: marks.ending. Conditions: as named in each theorem. -/
import Derived.Test.YtjahdladcijhoaaShaMath
import Derived.Test.YtjahdladcijhoaaMarksNum
import Derived.Maps.AppendAt
namespace Go.Proofs.Ytjahdladcijhoaa
open Go.RowKit
set_option linter.unusedVariables false
set_option linter.unusedSimpArgs false

def lenOf : Value → Nat
  | .slice _ n _ => n
  | _ => 0
theorem ofN8 (n : Nat) : (UInt8.ofNat n).toNat = n % 256 := by simp
theorem byteC_app (l : List UInt8) (c : UInt8) : byteC (l ++ [c]) = byteC l ++ [.int .u8 (c.toNat : Nat)] := by simp [byteC]
def endA (k : Nat) : List UInt8 := [128] ++ List.replicate k 0
theorem endA_succ (k : Nat) : endA (k + 1) = endA k ++ [0] := by unfold endA; rw [List.replicate_succ', List.append_assoc]
theorem endA_len (k : Nat) : (endA k).length = k + 1 := by unfold endA; simp
def be8 (n k : Nat) : List UInt8 := (List.range k).map (fun i => UInt8.ofNat (8 * n / 2 ^ (8 * (7 - i))))
theorem be8_succ (n k : Nat) : be8 n (k + 1) = be8 n k ++ [UInt8.ofNat (8 * n / 2 ^ (8 * (7 - k)))] := by unfold be8; rw [List.range_succ, List.map_append]; rfl
theorem be8_len (n k : Nat) : (be8 n k).length = k := by simp [be8]
theorem endingL_eq (n : Nat) : endingL n = endA ((119 - n % 64) % 64) ++ be8 n 8 := rfl
theorem slice_own {w : World} {base n : Nat} {e : TypeId} {size : Nat} {v : Value} {xs : List Value} (h : w.ownsRow base e size v n xs) : ∃ ao cap, v = .slice ao n cap := by
  obtain ⟨_, ⟨rfl, h2⟩ | ⟨g, cap, cur, h3, h4, h5, _⟩⟩ := h
  · exact ⟨none, 0, by rw [h2]⟩
  · exact ⟨_, _, h3⟩
/-- one byte more -/
theorem own_app {w3 : World} {base : Nat} {v : Value} {l : List UInt8} {c : UInt8} {x : Int} (h : w3.ownsRow base 5 1 v (l.length + 1) (byteC l ++ [.int .u8 x])) (hx : x = (c.toNat : Nat)) : w3.ownsRow base 5 1 v (l ++ [c]).length (byteC (l ++ [c])) := by
  rw [byteC_app, List.length_append, ← hx]; exact h

set_option maxRecDepth 100000 in
set_option maxHeartbeats 2000000 in
theorem ending_any (n : Nat) (hn : n ≤ 1000000000) (w : World) : Calls Try.prog 31 #[.int .i64 n] w fun e w' => e = .returned (.string ⟨(endingL n).toArray⟩) ∧ Below w.heap.size w w' := by
  obtain ⟨i0, hi, hz0, hz1, hz2⟩ := info_parts infoByte
  obtain ⟨V1, hV1⟩ : ∃ V, V = w.alloc (Obj.cells #[.int .u8 128] 5) := ⟨_, rfl⟩
  obtain ⟨p1, hp1⟩ : ∃ p, p = w.heap.size := ⟨_, rfl⟩
  have hO1 : V1.ownsRow w.heap.size 5 1 (.slice (some ⟨p1, 0, none⟩) 1 1) (endA 0).length (byteC (endA 0)) := by rw [hV1, hp1]; exact owns_new1 w (.int .u8 128) _ _ (Nat.le_refl _)
  have hB1 : Below w.heap.size w V1 := by rw [hV1]; exact (Below.refl _ _).alloc (Nat.le_refl _) _
  have H1 := Lib.hid (And.intro hO1 hB1)
  have HV1 := Lib.hid hV1
  have HP1 := Lib.hid hp1
  obtain ⟨Z, hZ⟩ : ∃ Z, Z = (119 - n % 64) % 64 := ⟨_, rfl⟩
  have HEQ := Lib.hid (endingL_eq n)
  rw [← hZ] at HEQ
  have HZ := Lib.hid hZ
  have hZ64 : Z < 64 := by omega
  clear hV1 hp1 hO1 hB1 hZ
  go_enter Try.func31, Try.ntmps31
  go_wp2_with fail
  rw [← HP1.out, ← HV1.out]
  go_loopw [3] (fun v wr => ∃ k : Nat, k ≤ Z ∧ wr.ownsRow w.heap.size 5 1 v (endA k).length (byteC (endA k)) ∧ Below w.heap.size w wr) (fun v _ => 70 - lenOf v)
  case atStart => exact ⟨0, Nat.zero_le _, H1.out⟩
  case round =>
    clear H1
    obtain ⟨k, hk, hO, hB⟩ := hrel
    have hl := endA_len k
    rw [hl] at hO
    obtain ⟨av, cv, rfl⟩ := slice_own hO
    have hS := hB.size
    have HO := Lib.hid hO
    by_cases hgo : k < Z
    · have hne : (((n : Int) + ((k : Int) + 1)) % 64 != 56) = true := by have := HZ.out; simp; omega
      have w1 : IntKind.i64.wrap ((n : Int) + ((k : Int) + 1)) = (n : Int) + ((k : Int) + 1) := IntWalk.i64_in _ (by omega)
      clear hO
      go_wp2_with (at_builtin; refine wpList_append_own _ rfl _ _ 52 rfl w.heap.size 5 i0 (.int .u8 0) 1 1 Try.underlying52 hi hz0 hz1 hz2 rfl (by decide) _ _ _ rfl (World.ownsRow.alloc HO.out _) ⟨wr.heap.size, 0, none⟩ 1 1 [.int .u8 0] rfl rfl (cell1_new _ _ _) (one1 _ rfl) (by unfold maxLen; omega) (by omega) (by simp; omega) ?_)
      intro v' w3 hO3 hg3 _
      have hO4 : w3.ownsRow w.heap.size 5 1 v' (endA (k + 1)).length (byteC (endA (k + 1))) := by
        rw [endA_succ]; exact own_app (by rw [hl]; exact hO3) rfl
      have hB4 : Below w.heap.size w w3 := (hB.alloc (by omega) _).grown hg3 (by simp; omega) (fun j hj => by have := World.ownsRow.lt HO.out j hj; omega)
      rw [endA_len] at hO4
      obtain ⟨a4, c4, rfl⟩ := slice_own hO4
      have HO4 : Hid (w3.ownsRow w.heap.size 5 1 (.slice a4 (k + 1 + 1) c4) (endA (k + 1)).length (byteC (endA (k + 1)))) := Lib.hid (by rw [endA_len]; exact hO4)
      clear hO3 hg3 hO4 hB HO
      go_wp2
      exact ⟨⟨k + 1, by omega, HO4.out, hB4⟩, by simp [lenOf]; omega⟩
    · have hkZ : k = Z := by omega
      subst hkZ
      have hne : (((n : Int) + ((k : Int) + 1)) % 64 != 56) = false := by have := HZ.out; simp; omega
      have w1 : IntKind.i64.wrap ((n : Int) + ((k : Int) + 1)) = (n : Int) + ((k : Int) + 1) := IntWalk.i64_in _ (by omega)
      have HO2 : Hid (wr.ownsRow w.heap.size 5 1 (.slice av (k + 1) cv) (endA k ++ be8 n 0).length (byteC (endA k ++ be8 n 0))) := Lib.hid (by
        have : endA k ++ be8 n 0 = endA k := by simp [be8]
        rw [this, hl]; exact HO.out)
      have HB := Lib.hid hB
      clear hO HO hB
      go_wp2_with fail
      go_loopw [3, 4] (fun v i wr => ∃ j : Nat, i = .int .i64 (7 - (j : Int)) ∧ j ≤ 8 ∧ wr.ownsRow w.heap.size 5 1 v (endA k ++ be8 n j).length (byteC (endA k ++ be8 n j)) ∧ Below w.heap.size w wr) (fun _ i _ => (intOf i + 1).toNat)
      case atStart => exact ⟨0, by simp, by omega, HO2.out, HB.out⟩
      case round =>
        clear HO2 HB
        obtain ⟨j, rfl, hj, hO, hB⟩ := hrel
        have hl := endA_len k
        have hl8 : (endA k ++ be8 n j).length = k + 1 + j := by rw [List.length_append, be8_len, hl]
        rw [hl8] at hO
        obtain ⟨av, cv, rfl⟩ := slice_own hO
        have hS := hB.size
        have HO := Lib.hid hO
        have HB := Lib.hid hB
        have HL := Lib.hid hl8
        have u1 : IntKind.u64.wrap (n : Int) = (n : Int) := by rw [IntKind.wrap_u64]; omega
        have u2 : IntKind.u64.wrap ((n : Int) * 8) = (n : Int) * 8 := by rw [IntKind.wrap_u64]; omega
        clear hO hB hl hl8
        by_cases hlt : j < 8
        · have hj8 : j = 0 ∨ j = 1 ∨ j = 2 ∨ j = 3 ∨ j = 4 ∨ j = 5 ∨ j = 6 ∨ j = 7 := by omega
          rcases hj8 with rfl | rfl | rfl | rfl | rfl | rfl | rfl | rfl
          · obtain ⟨b, hb⟩ : ∃ b, b = 8 * n / 2 ^ (8 * (7 - 0)) % 256 := ⟨_, rfl⟩
            have hx1 : IntKind.u8.wrap ((n : Int) * 8 / 72057594037927936) = (b : Int) := by rw [IntKind.wrap_u8, hb]; simp only [Nat.reduceSub, Nat.reduceMul, Nat.reducePow]; omega
            have hx2 : ((n : Int) * 8 / 72057594037927936) % 256 = (b : Int) := by rw [hb]; simp only [Nat.reduceSub, Nat.reduceMul, Nat.reducePow]; omega
            have HBT : Hid ((b : Int) = ((UInt8.ofNat (8 * n / 2 ^ (8 * (7 - 0)))).toNat : Nat)) := Lib.hid (by rw [ofN8, hb])
            clear hb
            go_wp2_with (at_builtin; refine wpList_append_own _ rfl _ _ 52 rfl w.heap.size 5 i0 (.int .u8 0) 1 1 Try.underlying52 hi hz0 hz1 hz2 rfl (by decide) _ _ _ rfl (World.ownsRow.alloc HO.out _) ⟨wr.heap.size, 0, none⟩ 1 1 [.int .u8 (b : Int)] rfl rfl (cell1_new _ _ _) (one1 _ rfl) (by unfold maxLen; omega) (by omega) (by simp; omega) ?_)
            intro v' w3 hO3 hg3 _
            have hO4 : w3.ownsRow w.heap.size 5 1 v' (endA k ++ be8 n (0 + 1)).length (byteC (endA k ++ be8 n (0 + 1))) := by
              rw [be8_succ, ← List.append_assoc]; exact own_app (by rw [HL.out]; exact hO3) HBT.out
            have hB4 : Below w.heap.size w w3 := (HB.out.alloc (by omega) _).grown hg3 (by simp; omega) (fun j hj => by have := World.ownsRow.lt HO.out j hj; omega)
            have HF := Lib.hid (And.intro hO4 hB4)
            clear hO3 hg3 hO4 hB4
            go_wp2
            exact ⟨⟨1, by simp, by omega, HF.out⟩, by simp [intOf]⟩
          · obtain ⟨b, hb⟩ : ∃ b, b = 8 * n / 2 ^ (8 * (7 - 1)) % 256 := ⟨_, rfl⟩
            have hx1 : IntKind.u8.wrap ((n : Int) * 8 / 281474976710656) = (b : Int) := by rw [IntKind.wrap_u8, hb]; simp only [Nat.reduceSub, Nat.reduceMul, Nat.reducePow]; omega
            have hx2 : ((n : Int) * 8 / 281474976710656) % 256 = (b : Int) := by rw [hb]; simp only [Nat.reduceSub, Nat.reduceMul, Nat.reducePow]; omega
            have HBT : Hid ((b : Int) = ((UInt8.ofNat (8 * n / 2 ^ (8 * (7 - 1)))).toNat : Nat)) := Lib.hid (by rw [ofN8, hb])
            clear hb
            go_wp2_with (at_builtin; refine wpList_append_own _ rfl _ _ 52 rfl w.heap.size 5 i0 (.int .u8 0) 1 1 Try.underlying52 hi hz0 hz1 hz2 rfl (by decide) _ _ _ rfl (World.ownsRow.alloc HO.out _) ⟨wr.heap.size, 0, none⟩ 1 1 [.int .u8 (b : Int)] rfl rfl (cell1_new _ _ _) (one1 _ rfl) (by unfold maxLen; omega) (by omega) (by simp; omega) ?_)
            intro v' w3 hO3 hg3 _
            have hO4 : w3.ownsRow w.heap.size 5 1 v' (endA k ++ be8 n (1 + 1)).length (byteC (endA k ++ be8 n (1 + 1))) := by
              rw [be8_succ, ← List.append_assoc]; exact own_app (by rw [HL.out]; exact hO3) HBT.out
            have hB4 : Below w.heap.size w w3 := (HB.out.alloc (by omega) _).grown hg3 (by simp; omega) (fun j hj => by have := World.ownsRow.lt HO.out j hj; omega)
            have HF := Lib.hid (And.intro hO4 hB4)
            clear hO3 hg3 hO4 hB4
            go_wp2
            exact ⟨⟨2, by simp, by omega, HF.out⟩, by simp [intOf]⟩
          · obtain ⟨b, hb⟩ : ∃ b, b = 8 * n / 2 ^ (8 * (7 - 2)) % 256 := ⟨_, rfl⟩
            have hx1 : IntKind.u8.wrap ((n : Int) * 8 / 1099511627776) = (b : Int) := by rw [IntKind.wrap_u8, hb]; simp only [Nat.reduceSub, Nat.reduceMul, Nat.reducePow]; omega
            have hx2 : ((n : Int) * 8 / 1099511627776) % 256 = (b : Int) := by rw [hb]; simp only [Nat.reduceSub, Nat.reduceMul, Nat.reducePow]; omega
            have HBT : Hid ((b : Int) = ((UInt8.ofNat (8 * n / 2 ^ (8 * (7 - 2)))).toNat : Nat)) := Lib.hid (by rw [ofN8, hb])
            clear hb
            go_wp2_with (at_builtin; refine wpList_append_own _ rfl _ _ 52 rfl w.heap.size 5 i0 (.int .u8 0) 1 1 Try.underlying52 hi hz0 hz1 hz2 rfl (by decide) _ _ _ rfl (World.ownsRow.alloc HO.out _) ⟨wr.heap.size, 0, none⟩ 1 1 [.int .u8 (b : Int)] rfl rfl (cell1_new _ _ _) (one1 _ rfl) (by unfold maxLen; omega) (by omega) (by simp; omega) ?_)
            intro v' w3 hO3 hg3 _
            have hO4 : w3.ownsRow w.heap.size 5 1 v' (endA k ++ be8 n (2 + 1)).length (byteC (endA k ++ be8 n (2 + 1))) := by
              rw [be8_succ, ← List.append_assoc]; exact own_app (by rw [HL.out]; exact hO3) HBT.out
            have hB4 : Below w.heap.size w w3 := (HB.out.alloc (by omega) _).grown hg3 (by simp; omega) (fun j hj => by have := World.ownsRow.lt HO.out j hj; omega)
            have HF := Lib.hid (And.intro hO4 hB4)
            clear hO3 hg3 hO4 hB4
            go_wp2
            exact ⟨⟨3, by simp, by omega, HF.out⟩, by simp [intOf]⟩
          · obtain ⟨b, hb⟩ : ∃ b, b = 8 * n / 2 ^ (8 * (7 - 3)) % 256 := ⟨_, rfl⟩
            have hx1 : IntKind.u8.wrap ((n : Int) * 8 / 4294967296) = (b : Int) := by rw [IntKind.wrap_u8, hb]; simp only [Nat.reduceSub, Nat.reduceMul, Nat.reducePow]; omega
            have hx2 : ((n : Int) * 8 / 4294967296) % 256 = (b : Int) := by rw [hb]; simp only [Nat.reduceSub, Nat.reduceMul, Nat.reducePow]; omega
            have HBT : Hid ((b : Int) = ((UInt8.ofNat (8 * n / 2 ^ (8 * (7 - 3)))).toNat : Nat)) := Lib.hid (by rw [ofN8, hb])
            clear hb
            go_wp2_with (at_builtin; refine wpList_append_own _ rfl _ _ 52 rfl w.heap.size 5 i0 (.int .u8 0) 1 1 Try.underlying52 hi hz0 hz1 hz2 rfl (by decide) _ _ _ rfl (World.ownsRow.alloc HO.out _) ⟨wr.heap.size, 0, none⟩ 1 1 [.int .u8 (b : Int)] rfl rfl (cell1_new _ _ _) (one1 _ rfl) (by unfold maxLen; omega) (by omega) (by simp; omega) ?_)
            intro v' w3 hO3 hg3 _
            have hO4 : w3.ownsRow w.heap.size 5 1 v' (endA k ++ be8 n (3 + 1)).length (byteC (endA k ++ be8 n (3 + 1))) := by
              rw [be8_succ, ← List.append_assoc]; exact own_app (by rw [HL.out]; exact hO3) HBT.out
            have hB4 : Below w.heap.size w w3 := (HB.out.alloc (by omega) _).grown hg3 (by simp; omega) (fun j hj => by have := World.ownsRow.lt HO.out j hj; omega)
            have HF := Lib.hid (And.intro hO4 hB4)
            clear hO3 hg3 hO4 hB4
            go_wp2
            exact ⟨⟨4, by simp, by omega, HF.out⟩, by simp [intOf]⟩
          · obtain ⟨b, hb⟩ : ∃ b, b = 8 * n / 2 ^ (8 * (7 - 4)) % 256 := ⟨_, rfl⟩
            have hx1 : IntKind.u8.wrap ((n : Int) * 8 / 16777216) = (b : Int) := by rw [IntKind.wrap_u8, hb]; simp only [Nat.reduceSub, Nat.reduceMul, Nat.reducePow]; omega
            have hx2 : ((n : Int) * 8 / 16777216) % 256 = (b : Int) := by rw [hb]; simp only [Nat.reduceSub, Nat.reduceMul, Nat.reducePow]; omega
            have HBT : Hid ((b : Int) = ((UInt8.ofNat (8 * n / 2 ^ (8 * (7 - 4)))).toNat : Nat)) := Lib.hid (by rw [ofN8, hb])
            clear hb
            go_wp2_with (at_builtin; refine wpList_append_own _ rfl _ _ 52 rfl w.heap.size 5 i0 (.int .u8 0) 1 1 Try.underlying52 hi hz0 hz1 hz2 rfl (by decide) _ _ _ rfl (World.ownsRow.alloc HO.out _) ⟨wr.heap.size, 0, none⟩ 1 1 [.int .u8 (b : Int)] rfl rfl (cell1_new _ _ _) (one1 _ rfl) (by unfold maxLen; omega) (by omega) (by simp; omega) ?_)
            intro v' w3 hO3 hg3 _
            have hO4 : w3.ownsRow w.heap.size 5 1 v' (endA k ++ be8 n (4 + 1)).length (byteC (endA k ++ be8 n (4 + 1))) := by
              rw [be8_succ, ← List.append_assoc]; exact own_app (by rw [HL.out]; exact hO3) HBT.out
            have hB4 : Below w.heap.size w w3 := (HB.out.alloc (by omega) _).grown hg3 (by simp; omega) (fun j hj => by have := World.ownsRow.lt HO.out j hj; omega)
            have HF := Lib.hid (And.intro hO4 hB4)
            clear hO3 hg3 hO4 hB4
            go_wp2
            exact ⟨⟨5, by simp, by omega, HF.out⟩, by simp [intOf]⟩
          · obtain ⟨b, hb⟩ : ∃ b, b = 8 * n / 2 ^ (8 * (7 - 5)) % 256 := ⟨_, rfl⟩
            have hx1 : IntKind.u8.wrap ((n : Int) * 8 / 65536) = (b : Int) := by rw [IntKind.wrap_u8, hb]; simp only [Nat.reduceSub, Nat.reduceMul, Nat.reducePow]; omega
            have hx2 : ((n : Int) * 8 / 65536) % 256 = (b : Int) := by rw [hb]; simp only [Nat.reduceSub, Nat.reduceMul, Nat.reducePow]; omega
            have HBT : Hid ((b : Int) = ((UInt8.ofNat (8 * n / 2 ^ (8 * (7 - 5)))).toNat : Nat)) := Lib.hid (by rw [ofN8, hb])
            clear hb
            go_wp2_with (at_builtin; refine wpList_append_own _ rfl _ _ 52 rfl w.heap.size 5 i0 (.int .u8 0) 1 1 Try.underlying52 hi hz0 hz1 hz2 rfl (by decide) _ _ _ rfl (World.ownsRow.alloc HO.out _) ⟨wr.heap.size, 0, none⟩ 1 1 [.int .u8 (b : Int)] rfl rfl (cell1_new _ _ _) (one1 _ rfl) (by unfold maxLen; omega) (by omega) (by simp; omega) ?_)
            intro v' w3 hO3 hg3 _
            have hO4 : w3.ownsRow w.heap.size 5 1 v' (endA k ++ be8 n (5 + 1)).length (byteC (endA k ++ be8 n (5 + 1))) := by
              rw [be8_succ, ← List.append_assoc]; exact own_app (by rw [HL.out]; exact hO3) HBT.out
            have hB4 : Below w.heap.size w w3 := (HB.out.alloc (by omega) _).grown hg3 (by simp; omega) (fun j hj => by have := World.ownsRow.lt HO.out j hj; omega)
            have HF := Lib.hid (And.intro hO4 hB4)
            clear hO3 hg3 hO4 hB4
            go_wp2
            exact ⟨⟨6, by simp, by omega, HF.out⟩, by simp [intOf]⟩
          · obtain ⟨b, hb⟩ : ∃ b, b = 8 * n / 2 ^ (8 * (7 - 6)) % 256 := ⟨_, rfl⟩
            have hx1 : IntKind.u8.wrap ((n : Int) * 8 / 256) = (b : Int) := by rw [IntKind.wrap_u8, hb]; simp only [Nat.reduceSub, Nat.reduceMul, Nat.reducePow]; omega
            have hx2 : ((n : Int) * 8 / 256) % 256 = (b : Int) := by rw [hb]; simp only [Nat.reduceSub, Nat.reduceMul, Nat.reducePow]; omega
            have HBT : Hid ((b : Int) = ((UInt8.ofNat (8 * n / 2 ^ (8 * (7 - 6)))).toNat : Nat)) := Lib.hid (by rw [ofN8, hb])
            clear hb
            go_wp2_with (at_builtin; refine wpList_append_own _ rfl _ _ 52 rfl w.heap.size 5 i0 (.int .u8 0) 1 1 Try.underlying52 hi hz0 hz1 hz2 rfl (by decide) _ _ _ rfl (World.ownsRow.alloc HO.out _) ⟨wr.heap.size, 0, none⟩ 1 1 [.int .u8 (b : Int)] rfl rfl (cell1_new _ _ _) (one1 _ rfl) (by unfold maxLen; omega) (by omega) (by simp; omega) ?_)
            intro v' w3 hO3 hg3 _
            have hO4 : w3.ownsRow w.heap.size 5 1 v' (endA k ++ be8 n (6 + 1)).length (byteC (endA k ++ be8 n (6 + 1))) := by
              rw [be8_succ, ← List.append_assoc]; exact own_app (by rw [HL.out]; exact hO3) HBT.out
            have hB4 : Below w.heap.size w w3 := (HB.out.alloc (by omega) _).grown hg3 (by simp; omega) (fun j hj => by have := World.ownsRow.lt HO.out j hj; omega)
            have HF := Lib.hid (And.intro hO4 hB4)
            clear hO3 hg3 hO4 hB4
            go_wp2
            exact ⟨⟨7, by simp, by omega, HF.out⟩, by simp [intOf]⟩
          · obtain ⟨b, hb⟩ : ∃ b, b = 8 * n / 2 ^ (8 * (7 - 7)) % 256 := ⟨_, rfl⟩
            have hx1 : IntKind.u8.wrap ((n : Int) * 8) = (b : Int) := by rw [IntKind.wrap_u8, hb]; simp only [Nat.reduceSub, Nat.reduceMul, Nat.reducePow]; omega
            have hx2 : ((n : Int) * 8) % 256 = (b : Int) := by rw [hb]; simp only [Nat.reduceSub, Nat.reduceMul, Nat.reducePow]; omega
            have HBT : Hid ((b : Int) = ((UInt8.ofNat (8 * n / 2 ^ (8 * (7 - 7)))).toNat : Nat)) := Lib.hid (by rw [ofN8, hb])
            clear hb
            go_wp2_with (at_builtin; refine wpList_append_own _ rfl _ _ 52 rfl w.heap.size 5 i0 (.int .u8 0) 1 1 Try.underlying52 hi hz0 hz1 hz2 rfl (by decide) _ _ _ rfl (World.ownsRow.alloc HO.out _) ⟨wr.heap.size, 0, none⟩ 1 1 [.int .u8 (b : Int)] rfl rfl (cell1_new _ _ _) (one1 _ rfl) (by unfold maxLen; omega) (by omega) (by simp; omega) ?_)
            intro v' w3 hO3 hg3 _
            have hO4 : w3.ownsRow w.heap.size 5 1 v' (endA k ++ be8 n (7 + 1)).length (byteC (endA k ++ be8 n (7 + 1))) := by
              rw [be8_succ, ← List.append_assoc]; exact own_app (by rw [HL.out]; exact hO3) HBT.out
            have hB4 : Below w.heap.size w w3 := (HB.out.alloc (by omega) _).grown hg3 (by simp; omega) (fun j hj => by have := World.ownsRow.lt HO.out j hj; omega)
            have HF := Lib.hid (And.intro hO4 hB4)
            clear hO3 hg3 hO4 hB4
            go_wp2
            exact ⟨⟨8, by simp, by omega, HF.out⟩, by simp [intOf]⟩
        · have hj8 : j = 8 := by omega
          subst hj8
          have hcv : (convert 52 9 (.slice av (k + 1 + 8) cv)).run Try.prog wr = .ok (.string ⟨(endingL n).toArray⟩) wr := by
            rw [HEQ.out]
            exact owns_bytes_str (endA k ++ be8 n 8) Try.underlying52 Try.underlying5 Try.underlying9 HO.out (by omega)
          go_wp2
          go_ret
          exact ⟨rfl, HB.out⟩
end Go.Proofs.Ytjahdladcijhoaa
