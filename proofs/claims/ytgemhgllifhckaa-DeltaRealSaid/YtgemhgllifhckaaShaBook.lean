/- marks.Real, and a real book's Mark and Is. Conditions: as named in each theorem. -/
import Derived.Test.YtgemhgllifhckaaShaBlock
import Derived.Test.YtgemhgllifhckaaQA
import Derived.Maps.AppendAt
import Derived.Test.YtgemhgllifhckaaMarksBook
namespace Go.Proofs.Ytgemhgllifhckaa
open Go.RowKit
set_option linter.unusedVariables false
set_option linter.unusedSimpArgs false
def lenOf : Value → Nat
  | .slice _ n _ => n
  | _ => 0
theorem ofN8 (n : Nat) : (UInt8.ofNat n).toNat = n % 256 := by simp
theorem byteC_app (l : List UInt8) (c : UInt8) : byteC (l ++ [c]) = byteC l ++ [.int .u8 (c.toNat : Nat)] := by simp [byteC]
def endA (k : Nat) : List UInt8 := [128] ++ List.replicate k 0
theorem endA_succ (k : Nat) : endA (k + 1) = endA k ++ [0] := by unfold endA; rw [List.replicate_succ', List.append_assoc]
theorem endA_len (k : Nat) : (endA k).length = k + 1 := by unfold endA; simp
def be8 (n k : Nat) : List UInt8 := (List.range k).map (fun i => UInt8.ofNat (8 * n / 2 ^ (8 * (7 - i))))
theorem be8_succ (n k : Nat) : be8 n (k + 1) = be8 n k ++ [UInt8.ofNat (8 * n / 2 ^ (8 * (7 - k)))] := by unfold be8; rw [List.range_succ, List.map_append]; rfl
theorem be8_len (n k : Nat) : (be8 n k).length = k := by simp [be8]
theorem endingL_eq (n : Nat) : endingL n = endA ((119 - n % 64) % 64) ++ be8 n 8 := rfl
theorem slice_own {w : World} {base n : Nat} {e : TypeId} {size : Nat} {v : Value} {xs : List Value} (h : w.ownsRow base e size v n xs) : ∃ ao cap, v = .slice ao n cap := by
  obtain ⟨_, ⟨rfl, h2⟩ | ⟨g, cap, cur, h3, h4, h5, _⟩⟩ := h
  · exact ⟨none, 0, by rw [h2]⟩
  · exact ⟨_, _, h3⟩
/-- one byte more -/
theorem own_app {w3 : World} {base : Nat} {v : Value} {l : List UInt8} {c : UInt8} {x : Int} (h : w3.ownsRow base 5 1 v (l.length + 1) (byteC l ++ [.int .u8 x])) (hx : x = (c.toNat : Nat)) : w3.ownsRow base 5 1 v (l ++ [c]).length (byteC (l ++ [c])) := by
  rw [byteC_app, List.length_append, ← hx]; exact h
set_option maxRecDepth 100000 in
set_option maxHeartbeats 2000000 in
theorem ending_any (n : Nat) (hn : n ≤ 1000000000) (w : World) : Calls Try.prog 89 #[.int .i64 n] w fun e w' => e = .returned (.string ⟨(endingL n).toArray⟩) ∧ Below w.heap.size w w' := by
  obtain ⟨i0, hi, hz0, hz1, hz2⟩ := info_parts infoByte
  obtain ⟨V1, hV1⟩ : ∃ V, V = w.alloc (Obj.cells #[.int .u8 128] 5) := ⟨_, rfl⟩
  obtain ⟨p1, hp1⟩ : ∃ p, p = w.heap.size := ⟨_, rfl⟩
  have hO1 : V1.ownsRow w.heap.size 5 1 (.slice (some ⟨p1, 0, none⟩) 1 1) (endA 0).length (byteC (endA 0)) := by rw [hV1, hp1]; exact owns_new1 w (.int .u8 128) _ _ (Nat.le_refl _)
  have hB1 : Below w.heap.size w V1 := by rw [hV1]; exact (Below.refl _ _).alloc (Nat.le_refl _) _
  have H1 := Lib.hid (And.intro hO1 hB1)
  have HV1 := Lib.hid hV1
  have HP1 := Lib.hid hp1
  obtain ⟨Z, hZ⟩ : ∃ Z, Z = (119 - n % 64) % 64 := ⟨_, rfl⟩
  have HEQ := Lib.hid (endingL_eq n)
  rw [← hZ] at HEQ
  have HZ := Lib.hid hZ
  have hZ64 : Z < 64 := by omega
  clear hV1 hp1 hO1 hB1 hZ
  go_enter Try.func89, Try.ntmps89
  go_wp2_with fail
  rw [← HP1.out, ← HV1.out]
  go_loopw [3] (fun v wr => ∃ k : Nat, k ≤ Z ∧ wr.ownsRow w.heap.size 5 1 v (endA k).length (byteC (endA k)) ∧ Below w.heap.size w wr) (fun v _ => 70 - lenOf v)
  case atStart => exact ⟨0, Nat.zero_le _, H1.out⟩
  case round =>
    clear H1
    obtain ⟨k, hk, hO, hB⟩ := hrel
    have hl := endA_len k
    rw [hl] at hO
    obtain ⟨av, cv, rfl⟩ := slice_own hO
    have hS := hB.size
    have HO := Lib.hid hO
    by_cases hgo : k < Z
    · have hne : (((n : Int) + ((k : Int) + 1)) % 64 != 56) = true := by have := HZ.out; simp; omega
      have w1 : IntKind.i64.wrap ((n : Int) + ((k : Int) + 1)) = (n : Int) + ((k : Int) + 1) := IntWalk.i64_in _ (by omega)
      clear hO
      go_wp2_with (at_builtin; refine wpList_append_own _ rfl _ _ 81 rfl w.heap.size 5 i0 (.int .u8 0) 1 1 Try.underlying81 hi hz0 hz1 hz2 rfl (by decide) _ _ _ rfl (World.ownsRow.alloc HO.out _) ⟨wr.heap.size, 0, none⟩ 1 1 [.int .u8 0] rfl rfl (cell1_new _ _ _) (one1 _ rfl) (by unfold maxLen; omega) (by omega) (by simp; omega) ?_)
      intro v' w3 hO3 hg3 _
      have hO4 : w3.ownsRow w.heap.size 5 1 v' (endA (k + 1)).length (byteC (endA (k + 1))) := by
        rw [endA_succ]; exact own_app (by rw [hl]; exact hO3) rfl
      have hB4 : Below w.heap.size w w3 := (hB.alloc (by omega) _).grown hg3 (by simp; omega) (fun j hj => by have := World.ownsRow.lt HO.out j hj; omega)
      rw [endA_len] at hO4
      obtain ⟨a4, c4, rfl⟩ := slice_own hO4
      have HO4 : Hid (w3.ownsRow w.heap.size 5 1 (.slice a4 (k + 1 + 1) c4) (endA (k + 1)).length (byteC (endA (k + 1)))) := Lib.hid (by rw [endA_len]; exact hO4)
      clear hO3 hg3 hO4 hB HO
      go_wp2
      exact ⟨⟨k + 1, by omega, HO4.out, hB4⟩, by simp [lenOf]; omega⟩
    · have hkZ : k = Z := by omega
      subst hkZ
      have hne : (((n : Int) + ((k : Int) + 1)) % 64 != 56) = false := by have := HZ.out; simp; omega
      have w1 : IntKind.i64.wrap ((n : Int) + ((k : Int) + 1)) = (n : Int) + ((k : Int) + 1) := IntWalk.i64_in _ (by omega)
      have HO2 : Hid (wr.ownsRow w.heap.size 5 1 (.slice av (k + 1) cv) (endA k ++ be8 n 0).length (byteC (endA k ++ be8 n 0))) := Lib.hid (by
        have : endA k ++ be8 n 0 = endA k := by simp [be8]
        rw [this, hl]; exact HO.out)
      have HB := Lib.hid hB
      clear hO HO hB
      go_wp2_with fail
      go_loopw [3, 4] (fun v i wr => ∃ j : Nat, i = .int .i64 (7 - (j : Int)) ∧ j ≤ 8 ∧ wr.ownsRow w.heap.size 5 1 v (endA k ++ be8 n j).length (byteC (endA k ++ be8 n j)) ∧ Below w.heap.size w wr) (fun _ i _ => (intOf i + 1).toNat)
      case atStart => exact ⟨0, by simp, by omega, HO2.out, HB.out⟩
      case round =>
        clear HO2 HB
        obtain ⟨j, rfl, hj, hO, hB⟩ := hrel
        have hl := endA_len k
        have hl8 : (endA k ++ be8 n j).length = k + 1 + j := by rw [List.length_append, be8_len, hl]
        rw [hl8] at hO
        obtain ⟨av, cv, rfl⟩ := slice_own hO
        have hS := hB.size
        have HO := Lib.hid hO
        have HB := Lib.hid hB
        have HL := Lib.hid hl8
        have u1 : IntKind.u64.wrap (n : Int) = (n : Int) := by rw [IntKind.wrap_u64]; omega
        have u2 : IntKind.u64.wrap ((n : Int) * 8) = (n : Int) * 8 := by rw [IntKind.wrap_u64]; omega
        clear hO hB hl hl8
        by_cases hlt : j < 8
        · have hj8 : j = 0 ∨ j = 1 ∨ j = 2 ∨ j = 3 ∨ j = 4 ∨ j = 5 ∨ j = 6 ∨ j = 7 := by omega
          rcases hj8 with rfl | rfl | rfl | rfl | rfl | rfl | rfl | rfl
          · obtain ⟨b, hb⟩ : ∃ b, b = 8 * n / 2 ^ (8 * (7 - 0)) % 256 := ⟨_, rfl⟩
            have hx1 : IntKind.u8.wrap ((n : Int) * 8 / 72057594037927936) = (b : Int) := by rw [IntKind.wrap_u8, hb]; simp only [Nat.reduceSub, Nat.reduceMul, Nat.reducePow]; omega
            have hx2 : ((n : Int) * 8 / 72057594037927936) % 256 = (b : Int) := by rw [hb]; simp only [Nat.reduceSub, Nat.reduceMul, Nat.reducePow]; omega
            have HBT : Hid ((b : Int) = ((UInt8.ofNat (8 * n / 2 ^ (8 * (7 - 0)))).toNat : Nat)) := Lib.hid (by rw [ofN8, hb])
            clear hb
            go_wp2_with (at_builtin; refine wpList_append_own _ rfl _ _ 81 rfl w.heap.size 5 i0 (.int .u8 0) 1 1 Try.underlying81 hi hz0 hz1 hz2 rfl (by decide) _ _ _ rfl (World.ownsRow.alloc HO.out _) ⟨wr.heap.size, 0, none⟩ 1 1 [.int .u8 (b : Int)] rfl rfl (cell1_new _ _ _) (one1 _ rfl) (by unfold maxLen; omega) (by omega) (by simp; omega) ?_)
            intro v' w3 hO3 hg3 _
            have hO4 : w3.ownsRow w.heap.size 5 1 v' (endA k ++ be8 n (0 + 1)).length (byteC (endA k ++ be8 n (0 + 1))) := by
              rw [be8_succ, ← List.append_assoc]; exact own_app (by rw [HL.out]; exact hO3) HBT.out
            have hB4 : Below w.heap.size w w3 := (HB.out.alloc (by omega) _).grown hg3 (by simp; omega) (fun j hj => by have := World.ownsRow.lt HO.out j hj; omega)
            have HF := Lib.hid (And.intro hO4 hB4)
            clear hO3 hg3 hO4 hB4
            go_wp2
            exact ⟨⟨1, by simp, by omega, HF.out⟩, by simp [intOf]⟩
          · obtain ⟨b, hb⟩ : ∃ b, b = 8 * n / 2 ^ (8 * (7 - 1)) % 256 := ⟨_, rfl⟩
            have hx1 : IntKind.u8.wrap ((n : Int) * 8 / 281474976710656) = (b : Int) := by rw [IntKind.wrap_u8, hb]; simp only [Nat.reduceSub, Nat.reduceMul, Nat.reducePow]; omega
            have hx2 : ((n : Int) * 8 / 281474976710656) % 256 = (b : Int) := by rw [hb]; simp only [Nat.reduceSub, Nat.reduceMul, Nat.reducePow]; omega
            have HBT : Hid ((b : Int) = ((UInt8.ofNat (8 * n / 2 ^ (8 * (7 - 1)))).toNat : Nat)) := Lib.hid (by rw [ofN8, hb])
            clear hb
            go_wp2_with (at_builtin; refine wpList_append_own _ rfl _ _ 81 rfl w.heap.size 5 i0 (.int .u8 0) 1 1 Try.underlying81 hi hz0 hz1 hz2 rfl (by decide) _ _ _ rfl (World.ownsRow.alloc HO.out _) ⟨wr.heap.size, 0, none⟩ 1 1 [.int .u8 (b : Int)] rfl rfl (cell1_new _ _ _) (one1 _ rfl) (by unfold maxLen; omega) (by omega) (by simp; omega) ?_)
            intro v' w3 hO3 hg3 _
            have hO4 : w3.ownsRow w.heap.size 5 1 v' (endA k ++ be8 n (1 + 1)).length (byteC (endA k ++ be8 n (1 + 1))) := by
              rw [be8_succ, ← List.append_assoc]; exact own_app (by rw [HL.out]; exact hO3) HBT.out
            have hB4 : Below w.heap.size w w3 := (HB.out.alloc (by omega) _).grown hg3 (by simp; omega) (fun j hj => by have := World.ownsRow.lt HO.out j hj; omega)
            have HF := Lib.hid (And.intro hO4 hB4)
            clear hO3 hg3 hO4 hB4
            go_wp2
            exact ⟨⟨2, by simp, by omega, HF.out⟩, by simp [intOf]⟩
          · obtain ⟨b, hb⟩ : ∃ b, b = 8 * n / 2 ^ (8 * (7 - 2)) % 256 := ⟨_, rfl⟩
            have hx1 : IntKind.u8.wrap ((n : Int) * 8 / 1099511627776) = (b : Int) := by rw [IntKind.wrap_u8, hb]; simp only [Nat.reduceSub, Nat.reduceMul, Nat.reducePow]; omega
            have hx2 : ((n : Int) * 8 / 1099511627776) % 256 = (b : Int) := by rw [hb]; simp only [Nat.reduceSub, Nat.reduceMul, Nat.reducePow]; omega
            have HBT : Hid ((b : Int) = ((UInt8.ofNat (8 * n / 2 ^ (8 * (7 - 2)))).toNat : Nat)) := Lib.hid (by rw [ofN8, hb])
            clear hb
            go_wp2_with (at_builtin; refine wpList_append_own _ rfl _ _ 81 rfl w.heap.size 5 i0 (.int .u8 0) 1 1 Try.underlying81 hi hz0 hz1 hz2 rfl (by decide) _ _ _ rfl (World.ownsRow.alloc HO.out _) ⟨wr.heap.size, 0, none⟩ 1 1 [.int .u8 (b : Int)] rfl rfl (cell1_new _ _ _) (one1 _ rfl) (by unfold maxLen; omega) (by omega) (by simp; omega) ?_)
            intro v' w3 hO3 hg3 _
            have hO4 : w3.ownsRow w.heap.size 5 1 v' (endA k ++ be8 n (2 + 1)).length (byteC (endA k ++ be8 n (2 + 1))) := by
              rw [be8_succ, ← List.append_assoc]; exact own_app (by rw [HL.out]; exact hO3) HBT.out
            have hB4 : Below w.heap.size w w3 := (HB.out.alloc (by omega) _).grown hg3 (by simp; omega) (fun j hj => by have := World.ownsRow.lt HO.out j hj; omega)
            have HF := Lib.hid (And.intro hO4 hB4)
            clear hO3 hg3 hO4 hB4
            go_wp2
            exact ⟨⟨3, by simp, by omega, HF.out⟩, by simp [intOf]⟩
          · obtain ⟨b, hb⟩ : ∃ b, b = 8 * n / 2 ^ (8 * (7 - 3)) % 256 := ⟨_, rfl⟩
            have hx1 : IntKind.u8.wrap ((n : Int) * 8 / 4294967296) = (b : Int) := by rw [IntKind.wrap_u8, hb]; simp only [Nat.reduceSub, Nat.reduceMul, Nat.reducePow]; omega
            have hx2 : ((n : Int) * 8 / 4294967296) % 256 = (b : Int) := by rw [hb]; simp only [Nat.reduceSub, Nat.reduceMul, Nat.reducePow]; omega
            have HBT : Hid ((b : Int) = ((UInt8.ofNat (8 * n / 2 ^ (8 * (7 - 3)))).toNat : Nat)) := Lib.hid (by rw [ofN8, hb])
            clear hb
            go_wp2_with (at_builtin; refine wpList_append_own _ rfl _ _ 81 rfl w.heap.size 5 i0 (.int .u8 0) 1 1 Try.underlying81 hi hz0 hz1 hz2 rfl (by decide) _ _ _ rfl (World.ownsRow.alloc HO.out _) ⟨wr.heap.size, 0, none⟩ 1 1 [.int .u8 (b : Int)] rfl rfl (cell1_new _ _ _) (one1 _ rfl) (by unfold maxLen; omega) (by omega) (by simp; omega) ?_)
            intro v' w3 hO3 hg3 _
            have hO4 : w3.ownsRow w.heap.size 5 1 v' (endA k ++ be8 n (3 + 1)).length (byteC (endA k ++ be8 n (3 + 1))) := by
              rw [be8_succ, ← List.append_assoc]; exact own_app (by rw [HL.out]; exact hO3) HBT.out
            have hB4 : Below w.heap.size w w3 := (HB.out.alloc (by omega) _).grown hg3 (by simp; omega) (fun j hj => by have := World.ownsRow.lt HO.out j hj; omega)
            have HF := Lib.hid (And.intro hO4 hB4)
            clear hO3 hg3 hO4 hB4
            go_wp2
            exact ⟨⟨4, by simp, by omega, HF.out⟩, by simp [intOf]⟩
          · obtain ⟨b, hb⟩ : ∃ b, b = 8 * n / 2 ^ (8 * (7 - 4)) % 256 := ⟨_, rfl⟩
            have hx1 : IntKind.u8.wrap ((n : Int) * 8 / 16777216) = (b : Int) := by rw [IntKind.wrap_u8, hb]; simp only [Nat.reduceSub, Nat.reduceMul, Nat.reducePow]; omega
            have hx2 : ((n : Int) * 8 / 16777216) % 256 = (b : Int) := by rw [hb]; simp only [Nat.reduceSub, Nat.reduceMul, Nat.reducePow]; omega
            have HBT : Hid ((b : Int) = ((UInt8.ofNat (8 * n / 2 ^ (8 * (7 - 4)))).toNat : Nat)) := Lib.hid (by rw [ofN8, hb])
            clear hb
            go_wp2_with (at_builtin; refine wpList_append_own _ rfl _ _ 81 rfl w.heap.size 5 i0 (.int .u8 0) 1 1 Try.underlying81 hi hz0 hz1 hz2 rfl (by decide) _ _ _ rfl (World.ownsRow.alloc HO.out _) ⟨wr.heap.size, 0, none⟩ 1 1 [.int .u8 (b : Int)] rfl rfl (cell1_new _ _ _) (one1 _ rfl) (by unfold maxLen; omega) (by omega) (by simp; omega) ?_)
            intro v' w3 hO3 hg3 _
            have hO4 : w3.ownsRow w.heap.size 5 1 v' (endA k ++ be8 n (4 + 1)).length (byteC (endA k ++ be8 n (4 + 1))) := by
              rw [be8_succ, ← List.append_assoc]; exact own_app (by rw [HL.out]; exact hO3) HBT.out
            have hB4 : Below w.heap.size w w3 := (HB.out.alloc (by omega) _).grown hg3 (by simp; omega) (fun j hj => by have := World.ownsRow.lt HO.out j hj; omega)
            have HF := Lib.hid (And.intro hO4 hB4)
            clear hO3 hg3 hO4 hB4
            go_wp2
            exact ⟨⟨5, by simp, by omega, HF.out⟩, by simp [intOf]⟩
          · obtain ⟨b, hb⟩ : ∃ b, b = 8 * n / 2 ^ (8 * (7 - 5)) % 256 := ⟨_, rfl⟩
            have hx1 : IntKind.u8.wrap ((n : Int) * 8 / 65536) = (b : Int) := by rw [IntKind.wrap_u8, hb]; simp only [Nat.reduceSub, Nat.reduceMul, Nat.reducePow]; omega
            have hx2 : ((n : Int) * 8 / 65536) % 256 = (b : Int) := by rw [hb]; simp only [Nat.reduceSub, Nat.reduceMul, Nat.reducePow]; omega
            have HBT : Hid ((b : Int) = ((UInt8.ofNat (8 * n / 2 ^ (8 * (7 - 5)))).toNat : Nat)) := Lib.hid (by rw [ofN8, hb])
            clear hb
            go_wp2_with (at_builtin; refine wpList_append_own _ rfl _ _ 81 rfl w.heap.size 5 i0 (.int .u8 0) 1 1 Try.underlying81 hi hz0 hz1 hz2 rfl (by decide) _ _ _ rfl (World.ownsRow.alloc HO.out _) ⟨wr.heap.size, 0, none⟩ 1 1 [.int .u8 (b : Int)] rfl rfl (cell1_new _ _ _) (one1 _ rfl) (by unfold maxLen; omega) (by omega) (by simp; omega) ?_)
            intro v' w3 hO3 hg3 _
            have hO4 : w3.ownsRow w.heap.size 5 1 v' (endA k ++ be8 n (5 + 1)).length (byteC (endA k ++ be8 n (5 + 1))) := by
              rw [be8_succ, ← List.append_assoc]; exact own_app (by rw [HL.out]; exact hO3) HBT.out
            have hB4 : Below w.heap.size w w3 := (HB.out.alloc (by omega) _).grown hg3 (by simp; omega) (fun j hj => by have := World.ownsRow.lt HO.out j hj; omega)
            have HF := Lib.hid (And.intro hO4 hB4)
            clear hO3 hg3 hO4 hB4
            go_wp2
            exact ⟨⟨6, by simp, by omega, HF.out⟩, by simp [intOf]⟩
          · obtain ⟨b, hb⟩ : ∃ b, b = 8 * n / 2 ^ (8 * (7 - 6)) % 256 := ⟨_, rfl⟩
            have hx1 : IntKind.u8.wrap ((n : Int) * 8 / 256) = (b : Int) := by rw [IntKind.wrap_u8, hb]; simp only [Nat.reduceSub, Nat.reduceMul, Nat.reducePow]; omega
            have hx2 : ((n : Int) * 8 / 256) % 256 = (b : Int) := by rw [hb]; simp only [Nat.reduceSub, Nat.reduceMul, Nat.reducePow]; omega
            have HBT : Hid ((b : Int) = ((UInt8.ofNat (8 * n / 2 ^ (8 * (7 - 6)))).toNat : Nat)) := Lib.hid (by rw [ofN8, hb])
            clear hb
            go_wp2_with (at_builtin; refine wpList_append_own _ rfl _ _ 81 rfl w.heap.size 5 i0 (.int .u8 0) 1 1 Try.underlying81 hi hz0 hz1 hz2 rfl (by decide) _ _ _ rfl (World.ownsRow.alloc HO.out _) ⟨wr.heap.size, 0, none⟩ 1 1 [.int .u8 (b : Int)] rfl rfl (cell1_new _ _ _) (one1 _ rfl) (by unfold maxLen; omega) (by omega) (by simp; omega) ?_)
            intro v' w3 hO3 hg3 _
            have hO4 : w3.ownsRow w.heap.size 5 1 v' (endA k ++ be8 n (6 + 1)).length (byteC (endA k ++ be8 n (6 + 1))) := by
              rw [be8_succ, ← List.append_assoc]; exact own_app (by rw [HL.out]; exact hO3) HBT.out
            have hB4 : Below w.heap.size w w3 := (HB.out.alloc (by omega) _).grown hg3 (by simp; omega) (fun j hj => by have := World.ownsRow.lt HO.out j hj; omega)
            have HF := Lib.hid (And.intro hO4 hB4)
            clear hO3 hg3 hO4 hB4
            go_wp2
            exact ⟨⟨7, by simp, by omega, HF.out⟩, by simp [intOf]⟩
          · obtain ⟨b, hb⟩ : ∃ b, b = 8 * n / 2 ^ (8 * (7 - 7)) % 256 := ⟨_, rfl⟩
            have hx1 : IntKind.u8.wrap ((n : Int) * 8) = (b : Int) := by rw [IntKind.wrap_u8, hb]; simp only [Nat.reduceSub, Nat.reduceMul, Nat.reducePow]; omega
            have hx2 : ((n : Int) * 8) % 256 = (b : Int) := by rw [hb]; simp only [Nat.reduceSub, Nat.reduceMul, Nat.reducePow]; omega
            have HBT : Hid ((b : Int) = ((UInt8.ofNat (8 * n / 2 ^ (8 * (7 - 7)))).toNat : Nat)) := Lib.hid (by rw [ofN8, hb])
            clear hb
            go_wp2_with (at_builtin; refine wpList_append_own _ rfl _ _ 81 rfl w.heap.size 5 i0 (.int .u8 0) 1 1 Try.underlying81 hi hz0 hz1 hz2 rfl (by decide) _ _ _ rfl (World.ownsRow.alloc HO.out _) ⟨wr.heap.size, 0, none⟩ 1 1 [.int .u8 (b : Int)] rfl rfl (cell1_new _ _ _) (one1 _ rfl) (by unfold maxLen; omega) (by omega) (by simp; omega) ?_)
            intro v' w3 hO3 hg3 _
            have hO4 : w3.ownsRow w.heap.size 5 1 v' (endA k ++ be8 n (7 + 1)).length (byteC (endA k ++ be8 n (7 + 1))) := by
              rw [be8_succ, ← List.append_assoc]; exact own_app (by rw [HL.out]; exact hO3) HBT.out
            have hB4 : Below w.heap.size w w3 := (HB.out.alloc (by omega) _).grown hg3 (by simp; omega) (fun j hj => by have := World.ownsRow.lt HO.out j hj; omega)
            have HF := Lib.hid (And.intro hO4 hB4)
            clear hO3 hg3 hO4 hB4
            go_wp2
            exact ⟨⟨8, by simp, by omega, HF.out⟩, by simp [intOf]⟩
        · have hj8 : j = 8 := by omega
          subst hj8
          have hcv : (convert 81 9 (.slice av (k + 1 + 8) cv)).run Try.prog wr = .ok (.string ⟨(endingL n).toArray⟩) wr := by
            rw [HEQ.out]
            exact owns_bytes_str (endA k ++ be8 n 8) Try.underlying81 Try.underlying5 Try.underlying9 HO.out (by omega)
          go_wp2
          go_ret
          exact ⟨rfl, HB.out⟩
end Go.Proofs.Ytgemhgllifhckaa
namespace Go.Proofs.Ytgemhgllifhckaa
open Go.RowKit
set_option linter.unusedVariables false
set_option linter.unusedSimpArgs false
theorem sha_cells_new (w : World) (l : List Value) (e : TypeId) : ∀ j u, l[j]? = some u → (w.alloc (.cells l.toArray e)).cell? ((⟨w.heap.size, 0, none⟩ : Addr).add j) = some u := by
  intro j u hj
  have := (Blk.new w l e).cell hj
  have hadd : (⟨w.heap.size, 0, none⟩ : Addr).add j = ⟨w.heap.size, j, none⟩ := by unfold Addr.add; split <;> simp_all
  rw [hadd]; exact this
def padL (s : List UInt8) : List UInt8 := s ++ endingL s.length
theorem dl (s : ByteArray) : s.data.toList.length = s.size := by simp
theorem exl (s : ByteArray) (a b : Nat) : (s.extract a b).data.toList = (s.data.toList.drop a).take (b - a) := by simp [List.extract_eq_take_drop]
/-- whole blocks of the text itself -/
theorem chunk_lo (s : ByteArray) (q : Nat) (h : 64 * q + 64 ≤ s.size) : ((padL s.data.toList).drop (64 * q)).take 64 = (s.extract (64 * q) (64 * q + 64)).data.toList := by
  rw [exl, show 64 * q + 64 - 64 * q = 64 by omega]
  unfold padL
  rw [List.drop_append_of_le_length (by rw [dl]; omega), List.take_append_of_le_length (by rw [List.length_drop, dl]; omega)]
/-- the blocks behind -/
theorem chunk_hi (s E : ByteArray) (Q r : Nat) (hQ : 64 * Q ≤ s.size) (hE : E.data.toList = (s.extract (64 * Q) s.size).data.toList ++ endingL s.size) : ((padL s.data.toList).drop (64 * (Q + r))).take 64 = (E.extract (64 * r) (64 * r + 64)).data.toList := by
  rw [exl, show 64 * r + 64 - 64 * r = 64 by omega, hE, exl]
  unfold padL
  rw [dl, show 64 * (Q + r) = 64 * Q + 64 * r by omega, ← List.drop_drop, List.drop_append_of_le_length (by rw [dl]; omega)]
  have : (s.data.toList.drop (64 * Q)).take (s.size - 64 * Q) = s.data.toList.drop (64 * Q) := List.take_of_length_le (by rw [List.length_drop, dl]; omega)
  rw [this]
theorem outV_take (v : V8) {j x : Nat} (h : v.list[j]? = some x) : (v.list.take (j + 1)).flatMap be4 = (v.list.take j).flatMap be4 ++ be4 x := by
  rw [List.take_add_one, h, List.flatMap_append]; simp
theorem byteC_be4 (l : List UInt8) (x : Nat) : byteC (l ++ be4 x) = byteC l ++ [.int .u8 (((x / 16777216) % 256 : Nat) : Int), .int .u8 (((x / 65536) % 256 : Nat) : Int), .int .u8 (((x / 256) % 256 : Nat) : Int), .int .u8 ((x % 256 : Nat) : Int)] := by
  simp [byteC, be4]
set_option maxRecDepth 100000 in
set_option maxHeartbeats 4000000 in
theorem sum_any (w : World) (KL : List Nat) (hKL : KL.length = 64) (hKb : ∀ x ∈ KL, x < 4294967296) (v : V8) (hv : v.lt) (s : ByteArray) (hs : s.size ≤ 900000000) :
    Calls Try.prog 44 #[.agg (mixC KL v).toArray, .string s] w fun e w' => e = .returned (.string ⟨(shaL (fun i => KL.getD i 0) v s.data.toList).toArray⟩) ∧ Below w.heap.size w w' := by
  obtain ⟨i0, hi, hz0, hz1, hz2⟩ := info_parts infoByte
  obtain ⟨K, hK⟩ : ∃ K : Nat → Nat, K = fun i => KL.getD i 0 := ⟨_, rfl⟩
  rw [← hK]
  have HBL : Hid (∀ (W : World) (pm : Nat) (u : V8) (t : ByteArray), u.lt → t.size = 64 → Blk W pm (mixC KL u) 72 → Calls Try.prog 88 #[.pointer (some ⟨pm, 0, none⟩), .string t] W fun e w' => e = .returned (.tuple #[]) ∧ Blk w' pm (mixC KL (blkV K (byteAt t.data.toList) u)) 72 ∧ W.grownBy w' (some pm)) := Lib.hid (fun W pm u t hu ht hb => by rw [hK]; exact shaBlock_any W pm KL hKL hKb u hu t ht hb)
  obtain ⟨C, hC⟩ : ∃ C, C = (mixC KL v).toArray := ⟨_, rfl⟩
  obtain ⟨V1, hV1⟩ : ∃ V, V = w.alloc (Obj.cells C 72) := ⟨_, rfl⟩
  obtain ⟨pm, hpm⟩ : ∃ p, p = w.heap.size := ⟨_, rfl⟩
  have hM1 : Blk V1 pm (mixC KL v) 72 := by rw [hV1, hpm, hC]; exact Blk.new w (mixC KL v) _
  have hB1 : Below w.heap.size w V1 := by rw [hV1]; exact (Below.refl _ _).alloc (Nat.le_refl _) _
  obtain ⟨P, hP⟩ : ∃ P, P = padL s.data.toList := ⟨_, rfl⟩
  have hH : shaL K v s.data.toList = outV (blks K P v (P.length / 64)) := by rw [hP]; rfl
  rw [hH, ← hC]
  have HP := Lib.hid hP
  have H1 := Lib.hid (And.intro hM1 hB1)
  have HV1 := Lib.hid hV1
  have HPM := Lib.hid hpm
  have HV := Lib.hid hv
  have HKL := Lib.hid (And.intro hKL hKb)
  obtain ⟨Q, hQ⟩ : ∃ Q, Q = s.size / 64 := ⟨_, rfl⟩
  have hq1 : (s.size : Int) / 64 = (Q : Int) := by omega
  obtain ⟨WQ, hWQ⟩ : ∃ W, W = 64 * Q := ⟨_, rfl⟩
  have hq2 : (Q : Int) * 64 = (WQ : Int) := by omega
  have HWQ := Lib.hid hWQ
  have HQ := Lib.hid hQ
  have hQs : 64 * Q ≤ s.size := by omega
  have hQs2 : s.size < 64 * Q + 64 := by omega
  clear hP hH hK hC hV1 hpm hM1 hB1 hv hKL hKb hQ hWQ
  go_enter Try.func44, Try.ntmps44
  go_upto_region 1 with fail
  rw [← HPM.out, ← HV1.out]
  go_wp2_with fail
  go_loopw [6] (fun i wr => ∃ q : Nat, i = .int .i64 ((64 * q : Nat) : Int) ∧ q ≤ Q ∧ Blk wr pm (mixC KL (blks K P v q)) 72 ∧ Below w.heap.size w wr) (fun i _ => 64 * Q - (intOf i).toNat)
  case atStart => exact ⟨0, by simp, by omega, H1.out.1, H1.out.2⟩
  case round =>
    clear H1
    obtain ⟨q, rfl, hq, hM, hB⟩ := hrel
    obtain ⟨a, ha⟩ : ∃ a, a = 64 * q := ⟨_, rfl⟩
    rw [← ha]
    by_cases hlt : q < Q
    · have i1 : (a : Int) < (WQ : Int) := by have := HWQ.out; omega
      have i2 : (0 : Int) ≤ (a : Int) := by omega
      have i3 : (a : Int) ≤ (a : Int) + 64 := by omega
      have i4 : (a : Int) + 64 ≤ (s.size : Int) := by omega
      have i5 : ((a : Int) + 64).toNat = a + 64 := by omega
      have hts : (s.extract a (a + 64)).size = 64 := by rw [ByteArray.size_extract]; omega
      have HBK := Lib.hid (HBL.out wr pm _ (s.extract a (a + 64)) (blks_lt HV.out q) hts hM)
      have hnx : blkV K (byteAt (s.extract a (a + 64)).data.toList) (blks K P v q) = blks K P v (q + 1) := by
        rw [blks, HP.out, chunk_lo s q (by omega), ha]
      rw [hnx] at HBK
      have HB := Lib.hid hB
      have HA := Lib.hid ha
      clear hts hnx hM hB ha
      go_wp2_with fail
      refine HBK.out.mono ?_
      rintro e w3 ⟨rfl, hM3, hg3⟩
      have HF := Lib.hid (And.intro hM3 (HB.out.grown hg3 HB.out.size (fun k hk => by cases hk; have := HPM.out; omega)))
      clear hM3 hg3 HBK
      go_wp2
      exact ⟨⟨q + 1, by have := HA.out; simp; omega, by omega, HF.out⟩, by have := HA.out; simp [intOf]; omega⟩
    · have hqQ : q = Q := by omega
      rw [hqQ] at hM
      have HM := Lib.hid (And.intro hM hB)
      have haQ : a = 64 * Q := by rw [ha, hqQ]
      have HAQ := Lib.hid haQ
      have ni : ¬ (a : Int) < (WQ : Int) := by have := HWQ.out; omega
      have HEN := Lib.hid (ending_any s.size (by omega))
      have hWQ := HWQ.out
      have k1 : (0 : Int) ≤ (WQ : Int) := by omega
      have k2 : (WQ : Int) ≤ (s.size : Int) := by omega
      obtain ⟨EN, hEN⟩ : ∃ EN : ByteArray, EN = ⟨(endingL s.size).toArray⟩ := ⟨_, rfl⟩
      rw [← hEN] at HEN
      have hENl : EN.data.toList = endingL s.size := by rw [hEN]
      have hel := endingL_len s.size
      have helb : (endingL s.size).length ≤ 200 := by
        rw [endingL_eq, List.length_append, endA_len, be8_len]; omega
      have hENs : EN.size = (endingL s.size).length := by rw [← hENl, dl]
      have hxs : (s.extract WQ s.size).size = s.size - WQ := by rw [ByteArray.size_extract]; omega
      obtain ⟨E, hE⟩ : ∃ E, E = s.extract WQ s.size ++ EN := ⟨_, rfl⟩
      have hEs : E.size = (s.extract WQ s.size).size + EN.size := by rw [hE, ByteArray.size_append]
      have hEl : E.data.toList = (s.extract (64 * Q) s.size).data.toList ++ endingL s.size := by rw [hE, hWQ, ByteArray.data_append, Array.toList_append, hENl]
      obtain ⟨R, hR⟩ : ∃ R, R = E.size / 64 := ⟨_, rfl⟩
      have hER : E.size = 64 * R := by omega
      have hPl : P.length / 64 = Q + R := by
        rw [HP.out, padL, List.length_append, dl]; omega
      have HPL := Lib.hid hPl
      have HEL := Lib.hid hEl
      have HER := Lib.hid hER
      have hRb : R ≤ 100000000 := by omega
      have hadd : ¬ 9223372036854775807 < (s.extract WQ s.size).size + EN.size := by omega
      have hadd2 : ¬ 9223372036854775807 < s.size - WQ + EN.size := by omega
      have HE := Lib.hid hE
      clear hM hB ha hqQ hq hWQ hEN hENl hel helb hENs hxs hE hEs hEl hR hER hPl haQ
      go_upto_region 6 with fail
      go_cut [7] (fun t wx => t = .string E ∧ Blk wx pm (mixC KL (blks K P v Q)) 72 ∧ Below w.heap.size w wx)
      case first =>
        have hM : Blk wr.drew pm (mixC KL (blks K P v Q)) 72 := HM.out.1
        have hB : Below w.heap.size w wr.drew := below_drewN' HM.out.2 1
        go_region_held3 (fun w' => w.heap.size ≤ w'.heap.size)
          (exact hB.size)
          (first
            | (go_at_call 89; ((with_reducible refine (HEN.out _).mono ?_)); rintro e' w4 ⟨rfl, hb4⟩; replace hM := hM.below hb4 hM.lt; replace hB := hB.trans (hb4.mono hB.size)))
        all_goals
          go_wp2_with fail
          go_meet
          case rel => exact ⟨congrArg Value.string HE.out.symm, hM, hB⟩
      case rest =>
        obtain ⟨rfl, hM, hB⟩ := hcut
        have hEb : E.size ≤ 6400000000 := by have := HER.out; omega
        have HM2 := Lib.hid (And.intro hM hB)
        clear hM hB hadd hadd2
        go_wp2_with fail
        go_loopw [8] (fun i wr => ∃ q : Nat, i = .int .i64 ((64 * q : Nat) : Int) ∧ q ≤ R ∧ Blk wr pm (mixC KL (blks K P v (Q + q))) 72 ∧ Below w.heap.size w wr) (fun i _ => 64 * R - (intOf i).toNat)
        case atStart => exact ⟨0, by simp, by omega, HM2.out.1, HM2.out.2⟩
        case round =>
          clear HM2 HM
          obtain ⟨q, rfl, hq, hM, hB⟩ := hrel
          obtain ⟨a, ha⟩ : ∃ a, a = 64 * q := ⟨_, rfl⟩
          rw [← ha]
          by_cases hlt : q < R
          · have hER := HER.out
            have i1 : (a : Int) < (E.size : Int) := by omega
            have i2 : (0 : Int) ≤ (a : Int) := by omega
            have i3 : (a : Int) ≤ (a : Int) + 64 := by omega
            have i4 : (a : Int) + 64 ≤ (E.size : Int) := by omega
            have i5 : ((a : Int) + 64).toNat = a + 64 := by omega
            have hts : (E.extract a (a + 64)).size = 64 := by rw [ByteArray.size_extract]; omega
            have HBK := Lib.hid (HBL.out wr pm _ (E.extract a (a + 64)) (blks_lt HV.out (Q + q)) hts hM)
            have hnx : blkV K (byteAt (E.extract a (a + 64)).data.toList) (blks K P v (Q + q)) = blks K P v (Q + (q + 1)) := by
              rw [show Q + (q + 1) = (Q + q) + 1 by omega, blks, HP.out, chunk_hi s E Q q hQs HEL.out, ha]
            rw [hnx] at HBK
            have HB := Lib.hid hB
            have HA := Lib.hid ha
            clear hts hnx hM hB ha hER
            go_wp2_with fail
            refine HBK.out.mono ?_
            rintro e w3 ⟨rfl, hM3, hg3⟩
            have HF := Lib.hid (And.intro hM3 (HB.out.grown hg3 HB.out.size (fun k hk => by cases hk; have := HPM.out; omega)))
            clear hM3 hg3 HBK
            go_wp2
            exact ⟨⟨q + 1, by have := HA.out; simp; omega, by omega, HF.out⟩, by have := HA.out; simp [intOf]; omega⟩
          · have hER := HER.out
            have hqR : q = R := by omega
            have ni2 : ¬ (a : Int) < (E.size : Int) := by omega
            rw [hqR] at hM
            rw [← HPL.out] at hM
            obtain ⟨u, hu⟩ : ∃ u, u = blks K P v (P.length / 64) := ⟨_, rfl⟩
            rw [← hu] at hM
            have HU := Lib.hid hu
            have hul : u.lt := by rw [hu]; exact blks_lt HV.out _
            have cm : ∀ (i : Nat) (x : Nat), u.list[i]? = some x → wr.cell? ⟨pm, 64 + i, none⟩ = some (.int .u32 (x : Nat)) := fun i x hx => hM.cell (i := 64 + i) (v := v32 x) (by
              unfold mixC
              rw [List.getElem?_append_right (by rw [List.length_map, HKL.out.1]; omega), List.length_map, HKL.out.1, show 64 + i - 64 = i by omega, List.getElem?_map, hx]; rfl)
            have m0 := cm 0 u.a rfl
            have m1 := cm 1 u.b rfl
            have m2 := cm 2 u.c rfl
            have m3 := cm 3 u.d rfl
            have m4 := cm 4 u.e rfl
            have m5 := cm 5 u.f rfl
            have m6 := cm 6 u.g rfl
            have m7 := cm 7 u.h rfl
            simp only [Nat.reduceAdd] at m0 m1 m2 m3 m4 m5 m6 m7
            have HB := Lib.hid hB
            have HUL := Lib.hid hul
            clear cm hM hB hu hul ha hqR hER
            go_wp2_with fail
            go_loopw [9, 48] (fun o i wr => ∃ j : Nat, i = .int .i64 j ∧ j ≤ 8 ∧ wr.ownsRow w.heap.size 5 1 o (4 * j) (byteC ((u.list.take j).flatMap be4)) ∧ Below w.heap.size w wr) (fun _ i _ => 8 - (intOf i).toNat)
            case atStart => exact ⟨0, by go_num, by omega, World.ownsRow_nil _ _ _ _, HB.out⟩
            case round =>
              clear HB m0 m1 m2 m3 m4 m5 m6 m7
              obtain ⟨j, rfl, hj, hO, hB⟩ := hrel
              obtain ⟨av, cv, rfl⟩ := slice_own hO
              have hS := hB.size
              by_cases hlt2 : j < 8
              · obtain ⟨_, y, _, hy, _, _⟩ := hmix_at u u hlt2
                have ly := V8.lt_at HUL.out hy
                have hidx : ∀ W, (Instr.index 70 (Value.agg #[.int .u32 (u.a : Nat), .int .u32 (u.b : Nat), .int .u32 (u.c : Nat), .int .u32 (u.d : Nat), .int .u32 (u.e : Nat), .int .u32 (u.f : Nat), .int .u32 (u.g : Nat), .int .u32 (u.h : Nat)]) (.int .i64 (j : Nat))).run Try.prog W = .ok (.int .u32 (y : Nat)) W := by
                  intro W
                  have hj8 : j = 0 ∨ j = 1 ∨ j = 2 ∨ j = 3 ∨ j = 4 ∨ j = 5 ∨ j = 6 ∨ j = 7 := by omega
                  rcases hj8 with rfl | rfl | rfl | rfl | rfl | rfl | rfl | rfl <;> (injection hy with hy; rw [← hy]; rfl)
                have HY : Hid (byteC ((u.list.take (j + 1)).flatMap be4) = byteC ((u.list.take j).flatMap be4) ++ [.int .u8 (((y / 16777216) % 256 : Nat) : Int), .int .u8 (((y / 65536) % 256 : Nat) : Int), .int .u8 (((y / 256) % 256 : Nat) : Int), .int .u8 ((y % 256 : Nat) : Int)]) := Lib.hid (by rw [outV_take u hy, byteC_be4])
                obtain ⟨b0, hb0⟩ : ∃ b, b = (y / 16777216) % 256 := ⟨_, rfl⟩
                obtain ⟨b1, hb1⟩ : ∃ b, b = (y / 65536) % 256 := ⟨_, rfl⟩
                obtain ⟨b2, hb2⟩ : ∃ b, b = (y / 256) % 256 := ⟨_, rfl⟩
                obtain ⟨b3, hb3⟩ : ∃ b, b = y % 256 := ⟨_, rfl⟩
                rw [← hb0, ← hb1, ← hb2, ← hb3] at HY
                have z0 : IntKind.u8.wrap ((y : Int) / 16777216) = (b0 : Int) := by rw [IntKind.wrap_u8, hb0]; omega
                have z1 : IntKind.u8.wrap ((y : Int) / 65536) = (b1 : Int) := by rw [IntKind.wrap_u8, hb1]; omega
                have z2 : IntKind.u8.wrap ((y : Int) / 256) = (b2 : Int) := by rw [IntKind.wrap_u8, hb2]; omega
                have z3 : IntKind.u8.wrap (y : Int) = (b3 : Int) := by rw [IntKind.wrap_u8, hb3]; omega
                have z4 : ((y : Int) / 16777216) % 256 = (b0 : Int) := by rw [hb0]; omega
                have z5 : ((y : Int) / 65536) % 256 = (b1 : Int) := by rw [hb1]; omega
                have z6 : ((y : Int) / 256) % 256 = (b2 : Int) := by rw [hb2]; omega
                have z7 : (y : Int) % 256 = (b3 : Int) := by rw [hb3]; omega
                have i1 : (0 : Int) ≤ (j : Int) := by omega
                have i2 : (j : Int) < 8 := by omega
                have HO := Lib.hid hO
                have HB := Lib.hid hB
                clear hb0 hb1 hb2 hb3 hO hB hy
                go_wp2_with (at_builtin; refine wpList_append_own _ rfl _ _ 81 rfl w.heap.size 5 i0 (.int .u8 0) 1 1 Try.underlying81 hi hz0 hz1 hz2 rfl (by decide) _ _ _ rfl (World.ownsRow.alloc HO.out _) ⟨wr.heap.size, 0, none⟩ 4 4 [.int .u8 (b0 : Int), .int .u8 (b1 : Int), .int .u8 (b2 : Int), .int .u8 (b3 : Int)] rfl rfl (sha_cells_new wr _ _) (by intro x hx; simp only [List.mem_cons, List.not_mem_nil, or_false] at hx; rcases hx with rfl | rfl | rfl | rfl <;> rfl) (by unfold maxLen; omega) (by omega) (by simp; omega) ?_)
                intro v' w3 hO3 hg3 _
                have hO4 : w3.ownsRow w.heap.size 5 1 v' (4 * (j + 1)) (byteC ((u.list.take (j + 1)).flatMap be4)) := by rw [HY.out]; exact hO3
                have hB4 : Below w.heap.size w w3 := (HB.out.alloc (by omega) _).grown hg3 (by simp; omega) (fun j hj => by have := World.ownsRow.lt HO.out j hj; omega)
                have HF := Lib.hid (And.intro hO4 hB4)
                clear hO3 hg3 hO4 hB4
                go_wp2
                exact ⟨⟨j + 1, by go_num, by omega, HF.out⟩, by simp [intOf]; omega⟩
              · have hj8 : j = 8 := by omega
                subst hj8
                have hcv : (convert 81 9 (.slice av (4 * 8) cv)).run Try.prog wr = .ok (.string ⟨(outV u).toArray⟩) wr := owns_bytes_str (outV u) Try.underlying81 Try.underlying5 Try.underlying9 hO (by omega)
                rw [HU.out] at hcv
                have HB := Lib.hid hB
                clear hO hB
                go_wp2
                go_ret
                exact ⟨rfl, HB.out⟩
end Go.Proofs.Ytgemhgllifhckaa
namespace Go.Proofs.Ytgemhgllifhckaa
open Go.RowKit
set_option linter.unusedVariables false
set_option linter.unusedSimpArgs false
noncomputable def KL0 : List Nat := P64.map k3
noncomputable def H0 : V8 := ⟨k2 2, k2 3, k2 5, k2 7, k2 11, k2 13, k2 17, k2 19⟩
theorem KL0_len : KL0.length = 64 := by unfold KL0; rw [List.length_map]; exact P64_len
theorem KL0_lt : ∀ x ∈ KL0, x < 4294967296 := by
  intro x hx
  obtain ⟨p, _, rfl⟩ := List.mem_map.1 hx
  exact k3_lt p
theorem H0_lt : H0.lt := ⟨k2_lt _, k2_lt _, k2_lt _, k2_lt _, k2_lt _, k2_lt _, k2_lt _, k2_lt _⟩
theorem kC_len : kC.length = 64 := arrC_len (Nat.le_refl _) (Nat.le_refl _)
theorem hC_len : hC.length = 8 := arrC_len (Nat.le_refl _) (by decide)
theorem kC_size : kC.toArray.size = 64 := by rw [List.size_toArray]; exact kC_len
theorem hC_size : hC.toArray.size = 8 := by rw [List.size_toArray]; exact hC_len
theorem kC_info : (Try.prog.info? 69).map (·.size) = some kC.toArray.size := by rw [kC_size]; kernel_rfl
theorem hC_info : (Try.prog.info? 70).map (·.size) = some hC.toArray.size := by rw [hC_size]; kernel_rfl
theorem kC_eq : kC = KL0.map v32 := by
  unfold kC arrC KL0
  rw [List.map_map]
  rfl
/-- SHA-256 -/
noncomputable def shaS (s : ByteArray) : ByteArray := ⟨(shaL (fun i => KL0.getD i 0) H0 s.data.toList).toArray⟩
theorem shaS_size (s : ByteArray) : (shaS s).size = 32 := rfl
theorem sum_real (w : World) (s : ByteArray) (hs : s.size ≤ 900000000) :
    Calls Try.prog 44 #[.agg (mixC KL0 H0).toArray, .string s] w fun e w' => e = .returned (.string (shaS s)) ∧ Below w.heap.size w w' :=
  sum_any w KL0 KL0_len KL0_lt H0 H0_lt s hs
theorem fold_put (g : Nat → Nat) (off : Nat) (hg : ∀ n, g n = off + n) : ∀ (l pre mid post : List Value) (k : Nat), l.length = mid.length → pre.length = off + k → List.foldl (fun (cs : Array Value) (x : Value × Nat) => cs.setIfInBounds (g x.2) x.1) (pre ++ mid ++ post).toArray (l.zipIdx k) = (pre ++ l ++ post).toArray := by
  intro l
  induction l with
  | nil =>
    intro pre mid post k hl _
    have : mid = [] := List.length_eq_zero_iff.1 (by simpa using hl.symm)
    rw [this]; rfl
  | cons a l ih =>
    intro pre mid post k hl hp
    cases mid with
    | nil => simp at hl
    | cons m mid =>
      rw [List.zipIdx_cons, List.foldl_cons]
      have e : ((pre ++ (m :: mid) ++ post).toArray).setIfInBounds (g k) a = ((pre ++ [a]) ++ mid ++ post).toArray := by
        rw [hg, ← hp, List.setIfInBounds_toArray]
        congr 1
        rw [List.append_assoc, List.set_append_right _ _ (Nat.le_refl _), Nat.sub_self]
        simp
      show List.foldl _ (((pre ++ (m :: mid) ++ post).toArray).setIfInBounds (g k) a) (l.zipIdx (k + 1)) = _
      rw [e, ih (pre ++ [a]) mid post (k + 1) (by simpa using hl) (by simp; omega)]
      congr 1
      simp
def z45 : Array Value := (List.replicate 72 (Value.int .u32 0)).toArray
theorem z45_run (w : World) : (zeroValue 72).run Try.prog w = .ok (.agg z45) w := by kernel_rfl
theorem build45 (KC HC : List Value) (kl : KC.length = 64) (hl : HC.length = 8) : ∃ M1 : Array Value, List.foldl (fun (cs : Array Value) (x : Value × Nat) => cs.setIfInBounds x.2 x.1) z45 KC.zipIdx = M1 ∧ M1.size = 72 ∧ List.foldl (fun (cs : Array Value) (x : Value × Nat) => cs.setIfInBounds (64 + x.2) x.1) M1 HC.zipIdx = (KC ++ HC).toArray := by
  refine ⟨(KC ++ List.replicate 8 (Value.int .u32 0)).toArray, ?_, by rw [List.size_toArray, List.length_append, kl, List.length_replicate], ?_⟩
  · have h := fold_put (fun n => n) 0 (fun n => (Nat.zero_add n).symm) KC [] (List.replicate 64 (Value.int .u32 0)) (List.replicate 8 (Value.int .u32 0)) 0 (by rw [kl, List.length_replicate]) rfl
    rw [List.nil_append, List.nil_append, List.replicate_append_replicate] at h
    exact h
  · have h := fold_put (fun n => 64 + n) 64 (fun n => rfl) HC KC (List.replicate 8 (Value.int .u32 0)) [] 0 (by rw [hl, List.length_replicate]) (by rw [kl])
    rw [List.append_nil, List.append_nil] at h
    exact h
theorem z45_size : z45.size = 72 := by unfold z45; rw [List.size_toArray, List.length_replicate]
end Go.Proofs.Ytgemhgllifhckaa
namespace Go.Proofs.Ytgemhgllifhckaa
open Go.RowKit
set_option linter.unusedVariables false
set_option linter.unusedSimpArgs false
/-- a real book's cells -/
noncomputable def realC : List Value := mixC KL0 H0 ++ [.bool true, .map none, .bool false]
def RealB (w : World) (p : Nat) : Prop := Blk w p realC 74
def RealP (w : World) (e : Ending) (w' : World) : Prop := ∃ p, e = .returned (.pointer (some ⟨p, 0, none⟩)) ∧ RealB w' p ∧ w.heap.size ≤ p ∧ Below w.heap.size w w'
theorem build48 (KC HC : List Value) (kl : KC.length = 64) (hl : HC.length = 8) : ∃ B1 : Array Value, List.foldl (fun (cs : Array Value) (x : Value × Nat) => cs.setIfInBounds x.2 x.1) bookZ (KC ++ HC).zipIdx = B1 ∧ B1.size = 75 ∧ B1.setIfInBounds 72 (Value.bool true) = (KC ++ HC ++ [Value.bool true, Value.map none, Value.bool false]).toArray := by
  refine ⟨(KC ++ HC ++ [Value.bool false, Value.map none, Value.bool false]).toArray, ?_, by rw [List.size_toArray, List.length_append, List.length_append, kl, hl]; rfl, ?_⟩
  · have h := fold_put (fun n => n) 0 (fun n => (Nat.zero_add n).symm) (KC ++ HC) [] (List.replicate 72 (Value.int .u32 0)) [Value.bool false, Value.map none, Value.bool false] 0 (by rw [List.length_append, kl, hl, List.length_replicate]) rfl
    rw [List.nil_append, List.nil_append] at h
    exact h
  · rw [List.setIfInBounds_toArray]
    congr 1
    rw [List.set_append_right _ _ (by rw [List.length_append, kl, hl]; decide), List.length_append, kl, hl]
    rfl
set_option maxRecDepth 100000 in
set_option maxHeartbeats 1000000 in
theorem real_any (w : World) : Calls Try.prog 31 #[] w (RealP w) := by
  have hak := arr42_run
  have hah := arr43_run
  have HT := Lib.hid (tables_any w)
  obtain ⟨KC, hKC⟩ : ∃ KC, KC = kC := ⟨_, rfl⟩
  obtain ⟨HC, hHC⟩ : ∃ HC, HC = hC := ⟨_, rfl⟩
  have kl := kC_len
  have hl := hC_len
  have ki := kC_info
  have hi := hC_info
  have ko := kC_one
  have ho := hC_one
  have hmix : (mixC KL0 H0) = KC ++ HC := by unfold mixC; rw [hKC, hHC, kC_eq]; rfl
  rw [← hKC] at HT kl ki ko
  rw [← hHC] at HT hl hi ho
  have HMX := Lib.hid (And.intro hmix (And.intro (And.intro kl hl) (And.intro (And.intro ki hi) (And.intro ko ho))))
  clear hKC hHC hmix kl hl ki hi ko ho
  obtain ⟨M1, bb1, bb2, bb3⟩ := build45 KC HC HMX.out.2.1.1 HMX.out.2.1.2
  have kl := HMX.out.2.1.1
  have hl := HMX.out.2.1.2
  have hz45 := z45_run
  have hzs := z45_size
  obtain ⟨B1, bb4, bb5, bb6⟩ := build48 KC HC HMX.out.2.1.1 HMX.out.2.1.2
  have hz48 := bookZ_run
  have hzs48 := bookZ_size
  obtain ⟨RC, hRC⟩ : ∃ RC, RC = KC ++ HC ++ [Value.bool true, Value.map none, Value.bool false] := ⟨_, rfl⟩
  rw [← hRC] at bb6
  have HRC := Lib.hid hRC
  clear hRC
  go_enter Try.func31, Try.ntmps31
  go_wp2_with fail
  refine HT.out.mono ?_
  rintro e w1 ⟨rfl, hb1⟩
  obtain ⟨q3, hq3⟩ : ∃ q, q = w1.heap.size := ⟨_, rfl⟩
  obtain ⟨q4, hq4⟩ : ∃ q, q = w1.heap.size + 1 := ⟨_, rfl⟩
  have hA : Blk ((w1.alloc (Obj.cells z42 69)).alloc (Obj.cells z43 70)) w1.heap.size (List.replicate 64 (Value.int .u32 0)) 69 := (Blk.new w1 (List.replicate 64 (Value.int .u32 0)) _).alloc _
  have hX : Blk ((w1.alloc (Obj.cells z42 69)).alloc (Obj.cells z43 70)) (w1.heap.size + 1) (List.replicate 8 (Value.int .u32 0)) 70 := by
    have := Blk.new (w1.alloc (Obj.cells z42 69)) (List.replicate 8 (Value.int .u32 0)) 70
    rw [World.size_alloc] at this
    exact this
  have hX2 := hX.setAllOther (q := w1.heap.size) (vs := KC) (by omega)
  have hA2 := (hA.setAll (vs := KC) (by rw [HMX.out.2.1.1, List.length_replicate])).setAllOther (q := w1.heap.size + 1) (vs := HC) (by omega)
  have hX3 := hX2.setAll (vs := HC) (by rw [HMX.out.2.1.2, List.length_replicate])
  have hBB : Below w.heap.size w ((((w1.alloc (Obj.cells z42 69)).alloc (Obj.cells z43 70)).setCells w1.heap.size 0 KC).setCells (w1.heap.size + 1) 0 HC) := below_setAll (below_setAll ((hb1.alloc hb1.size _).alloc (by have := hb1.size; simp; omega) _) (by have := hb1.size; omega) _) (by have := hb1.size; omega) _
  have H := Lib.hid (And.intro hA (And.intro hX2 (And.intro hA2 (And.intro hX3 hBB))))
  clear hA hX hX2 hA2 hX3 hBB
  have th1 := H.out.1.thereA (n := KC.toArray.size) (by rw [List.size_toArray, HMX.out.2.1.1, List.length_replicate])
  have th2 := H.out.2.1.thereA (n := HC.toArray.size) (by rw [List.size_toArray, HMX.out.2.1.2, List.length_replicate])
  have g3 := H.out.2.2.1
  have g4 := H.out.2.2.2.1
  unfold Blk at g3 g4
  have TH1 := Lib.hid th1
  have TH2 := Lib.hid th2
  have G3 := Lib.hid g3
  have G4 := Lib.hid g4
  clear th1 th2 g3 g4
  go_wp2_with (first | (refine wpList_store_mid rfl 69 _ _ rfl w1.heap.size 0 KC.toArray rfl rfl (by exact TH1.out) HMX.out.2.2.1.1 HMX.out.2.2.2.1 ?_) | (refine wpList_store_mid rfl 70 _ _ rfl (w1.heap.size + 1) 0 HC.toArray rfl rfl (by exact TH2.out) HMX.out.2.2.1.2 HMX.out.2.2.2.2 ?_) | (refine wpList_load_row rfl 69 _ rfl w1.heap.size rfl 69 KC.toArray _ _ (by exact G3.out) Try.underlying69 rfl HMX.out.2.2.1.1 ?_) | (refine wpList_load_row rfl 70 _ rfl (w1.heap.size + 1) rfl 70 HC.toArray _ _ (by exact G4.out) Try.underlying70 rfl HMX.out.2.2.1.2 ?_))
  have hRCe : RC = realC := by rw [HRC.out]; unfold realC; rw [HMX.out.1]
  have HRE := Lib.hid hRCe
  clear hRCe
  go_ret
  exact ⟨_, rfl, by unfold RealB; rw [← HRE.out]; exact Blk.new _ RC _, by have := H.out.2.2.2.2.size; simpa using this, H.out.2.2.2.2.alloc H.out.2.2.2.2.size _⟩
theorem realC_at : realC[72]? = some (.bool true) := by
  unfold realC
  rw [List.getElem?_append_right (by unfold mixC; rw [List.length_append, List.length_map, KL0_len]; decide)]
  unfold mixC
  rw [List.length_append, List.length_map, KL0_len]
  rfl
theorem mix_len : (mixC KL0 H0).length = 72 := by unfold mixC; rw [List.length_append, List.length_map, KL0_len]; rfl
theorem RealB.range {w : World} {p : Nat} (h : RealB w p) : w.rangeAt p 0 (mixC KL0 H0) := fun j v hv => by
  rw [Nat.zero_add]
  have hj := (List.getElem?_eq_some_iff.1 hv).1
  exact Blk.cell h (by unfold realC; rw [List.getElem?_append_left hj]; exact hv)
theorem RealB.next {w w' : World} {p : Nat} (h : RealB w p) (hb : Below w.heap.size w w') : RealB w' p := Blk.below h hb (Blk.lt h)
theorem RealB.lt {w : World} {p : Nat} (h : RealB w p) : p < w.heap.size := Blk.lt h
theorem none_real (w : World) (p : Nat) (h : RealB w p) :
    Calls Try.prog 43 #[.pointer (some ⟨p, 0, none⟩)] w fun e w' => e = .returned (.bool false) ∧ w = w' := by
  have c := Blk.cell h realC_at
  clear h
  go_enter Try.func43, Try.ntmps43
  go_wp2
  go_ret
  exact ⟨rfl, rfl⟩
theorem mix_info : (Try.prog.info? 72).map (·.size) = some (mixC KL0 H0).length := by rw [mix_len]; kernel_rfl
set_option maxRecDepth 100000 in
theorem mark_real (w : World) (p : Nat) (s : ByteArray) (h : RealB w p) (hs : s.size ≤ 900000000) :
    Calls Try.prog 40 #[.pointer (some ⟨p, 0, none⟩), .string s] w fun e w' => e = .returned (.string (shaS s)) ∧ Below w.heap.size w w' := by
  have c := Blk.cell h realC_at
  have HR := Lib.hid h.range
  have HN := Lib.hid (none_real w p h)
  have HS := Lib.hid (sum_real w s hs)
  have hi := mix_info
  obtain ⟨MX, hMX⟩ : ∃ MX, MX = mixC KL0 H0 := ⟨_, rfl⟩
  rw [← hMX] at HR HS hi
  have HI := Lib.hid hi
  clear h hMX hi
  go_enter Try.func40, Try.ntmps40
  go_wp2_with fail
  refine HN.out.mono ?_
  rintro e w' ⟨rfl, rfl⟩
  go_wp2_with (refine wpList_load_mid rfl 72 _ rfl p 0 rfl MX _ (by exact HR.out) Try.underlying72 rfl HI.out ?_)
  refine HS.out.mono ?_
  rintro e w' ⟨rfl, hb⟩
  go_wp2
  go_ret
  exact ⟨rfl, hb⟩
end Go.Proofs.Ytgemhgllifhckaa
