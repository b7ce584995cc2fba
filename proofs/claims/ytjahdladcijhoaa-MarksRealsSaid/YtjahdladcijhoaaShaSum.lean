/- SHA-256 of a text by a mixer: mixer.sum. Conditions: as named in each theorem. -/
import Derived.Test.YtjahdladcijhoaaShaBlock
import Derived.Test.YtjahdladcijhoaaShaEnding
namespace Go.Proofs.Ytjahdladcijhoaa
open Go.RowKit
set_option linter.unusedVariables false
set_option linter.unusedSimpArgs false

theorem sha_cells_new (w : World) (l : List Value) (e : TypeId) : ∀ j u, l[j]? = some u → (w.alloc (.cells l.toArray e)).cell? ((⟨w.heap.size, 0, none⟩ : Addr).add j) = some u := by
  intro j u hj
  have := (Blk.new w l e).cell hj
  have hadd : (⟨w.heap.size, 0, none⟩ : Addr).add j = ⟨w.heap.size, j, none⟩ := by unfold Addr.add; split <;> simp_all
  rw [hadd]; exact this
def padL (s : List UInt8) : List UInt8 := s ++ endingL s.length
theorem shaL_eq (K : Nat → Nat) (H : V8) (s : List UInt8) : shaL K H s = outV (blks K (padL s) H ((padL s).length / 64)) := rfl
theorem dl (s : ByteArray) : s.data.toList.length = s.size := by simp
theorem exl (s : ByteArray) (a b : Nat) : (s.extract a b).data.toList = (s.data.toList.drop a).take (b - a) := by simp [List.extract_eq_take_drop]
/-- whole blocks of the text itself -/
theorem chunk_lo (s : ByteArray) (q : Nat) (h : 64 * q + 64 ≤ s.size) : ((padL s.data.toList).drop (64 * q)).take 64 = (s.extract (64 * q) (64 * q + 64)).data.toList := by
  rw [exl, show 64 * q + 64 - 64 * q = 64 by omega]
  unfold padL
  rw [List.drop_append_of_le_length (by rw [dl]; omega), List.take_append_of_le_length (by rw [List.length_drop, dl]; omega)]
/-- the blocks behind -/
theorem chunk_hi (s E : ByteArray) (Q r : Nat) (hQ : 64 * Q ≤ s.size) (hE : E.data.toList = (s.extract (64 * Q) s.size).data.toList ++ endingL s.size) : ((padL s.data.toList).drop (64 * (Q + r))).take 64 = (E.extract (64 * r) (64 * r + 64)).data.toList := by
  rw [exl, show 64 * r + 64 - 64 * r = 64 by omega, hE, exl]
  unfold padL
  rw [dl, show 64 * (Q + r) = 64 * Q + 64 * r by omega, ← List.drop_drop, List.drop_append_of_le_length (by rw [dl]; omega)]
  have : (s.data.toList.drop (64 * Q)).take (s.size - 64 * Q) = s.data.toList.drop (64 * Q) := List.take_of_length_le (by rw [List.length_drop, dl]; omega)
  rw [this]
theorem outV_take (v : V8) {j x : Nat} (h : v.list[j]? = some x) : (v.list.take (j + 1)).flatMap be4 = (v.list.take j).flatMap be4 ++ be4 x := by
  rw [List.take_add_one, h, List.flatMap_append]; simp
theorem flat4 (l : List Nat) : (l.flatMap be4).length = 4 * l.length := by
  induction l with
  | nil => rfl
  | cons x l ih => rw [List.flatMap_cons, List.length_append, ih, List.length_cons]; simp only [be4, List.length_cons, List.length_nil]; omega
theorem byteC_be4 (l : List UInt8) (x : Nat) : byteC (l ++ be4 x) = byteC l ++ [.int .u8 (((x / 16777216) % 256 : Nat) : Int), .int .u8 (((x / 65536) % 256 : Nat) : Int), .int .u8 (((x / 256) % 256 : Nat) : Int), .int .u8 ((x % 256 : Nat) : Int)] := by
  simp [byteC, be4]

set_option maxRecDepth 100000 in
set_option maxHeartbeats 4000000 in
theorem sum_any (w : World) (KL : List Nat) (hKL : KL.length = 64) (hKb : ∀ x ∈ KL, x < 4294967296) (v : V8) (hv : v.lt) (s : ByteArray) (hs : s.size ≤ 900000000) :
    Calls Try.prog 23 #[.agg (mixC KL v).toArray, .string s] w fun e w' => e = .returned (.string ⟨(shaL (fun i => KL.getD i 0) v s.data.toList).toArray⟩) ∧ Below w.heap.size w w' := by
  obtain ⟨i0, hi, hz0, hz1, hz2⟩ := info_parts infoByte
  obtain ⟨K, hK⟩ : ∃ K : Nat → Nat, K = fun i => KL.getD i 0 := ⟨_, rfl⟩
  rw [← hK]
  have HBL : Hid (∀ (W : World) (pm : Nat) (u : V8) (t : ByteArray), u.lt → t.size = 64 → Blk W pm (mixC KL u) 45 → Calls Try.prog 30 #[.pointer (some ⟨pm, 0, none⟩), .string t] W fun e w' => e = .returned (.tuple #[]) ∧ Blk w' pm (mixC KL (blkV K (byteAt t.data.toList) u)) 45 ∧ W.grownBy w' (some pm)) := Lib.hid (fun W pm u t hu ht hb => by rw [hK]; exact block_any W pm KL hKL hKb u hu t ht hb)
  obtain ⟨C, hC⟩ : ∃ C, C = (mixC KL v).toArray := ⟨_, rfl⟩
  obtain ⟨V1, hV1⟩ : ∃ V, V = w.alloc (Obj.cells C 45) := ⟨_, rfl⟩
  obtain ⟨pm, hpm⟩ : ∃ p, p = w.heap.size := ⟨_, rfl⟩
  have hM1 : Blk V1 pm (mixC KL v) 45 := by rw [hV1, hpm, hC]; exact Blk.new w (mixC KL v) _
  have hB1 : Below w.heap.size w V1 := by rw [hV1]; exact (Below.refl _ _).alloc (Nat.le_refl _) _
  obtain ⟨P, hP⟩ : ∃ P, P = padL s.data.toList := ⟨_, rfl⟩
  have hH : shaL K v s.data.toList = outV (blks K P v (P.length / 64)) := by rw [hP]; rfl
  rw [hH, ← hC]
  have HP := Lib.hid hP
  have H1 := Lib.hid (And.intro hM1 hB1)
  have HV1 := Lib.hid hV1
  have HPM := Lib.hid hpm
  have HV := Lib.hid hv
  have HKL := Lib.hid (And.intro hKL hKb)
  obtain ⟨Q, hQ⟩ : ∃ Q, Q = s.size / 64 := ⟨_, rfl⟩
  have hq1 : (s.size : Int) / 64 = (Q : Int) := by omega
  obtain ⟨WQ, hWQ⟩ : ∃ W, W = 64 * Q := ⟨_, rfl⟩
  have hq2 : (Q : Int) * 64 = (WQ : Int) := by omega
  have HWQ := Lib.hid hWQ
  have HQ := Lib.hid hQ
  have hQs : 64 * Q ≤ s.size := by omega
  have hQs2 : s.size < 64 * Q + 64 := by omega
  clear hP hH hK hC hV1 hpm hM1 hB1 hv hKL hKb hQ hWQ
  go_enter Try.func23, Try.ntmps23
  go_upto_region 1 with fail
  rw [← HPM.out, ← HV1.out]
  go_wp2_with fail
  go_loopw [6] (fun i wr => ∃ q : Nat, i = .int .i64 ((64 * q : Nat) : Int) ∧ q ≤ Q ∧ Blk wr pm (mixC KL (blks K P v q)) 45 ∧ Below w.heap.size w wr) (fun i _ => 64 * Q - (intOf i).toNat)
  case atStart => exact ⟨0, by simp, by omega, H1.out.1, H1.out.2⟩
  case round =>
    clear H1
    obtain ⟨q, rfl, hq, hM, hB⟩ := hrel
    obtain ⟨a, ha⟩ : ∃ a, a = 64 * q := ⟨_, rfl⟩
    rw [← ha]
    by_cases hlt : q < Q
    · have i1 : (a : Int) < (WQ : Int) := by have := HWQ.out; omega
      have i2 : (0 : Int) ≤ (a : Int) := by omega
      have i3 : (a : Int) ≤ (a : Int) + 64 := by omega
      have i4 : (a : Int) + 64 ≤ (s.size : Int) := by omega
      have i5 : ((a : Int) + 64).toNat = a + 64 := by omega
      have hts : (s.extract a (a + 64)).size = 64 := by rw [ByteArray.size_extract]; omega
      have HBK := Lib.hid (HBL.out wr pm _ (s.extract a (a + 64)) (blks_lt HV.out q) hts hM)
      have hnx : blkV K (byteAt (s.extract a (a + 64)).data.toList) (blks K P v q) = blks K P v (q + 1) := by
        rw [blks, HP.out, chunk_lo s q (by omega), ha]
      rw [hnx] at HBK
      have HB := Lib.hid hB
      have HA := Lib.hid ha
      clear hts hnx hM hB ha
      go_wp2_with fail
      refine HBK.out.mono ?_
      rintro e w3 ⟨rfl, hM3, hg3⟩
      have HF := Lib.hid (And.intro hM3 (HB.out.grown hg3 HB.out.size (fun k hk => by cases hk; have := HPM.out; omega)))
      clear hM3 hg3 HBK
      go_wp2
      exact ⟨⟨q + 1, by have := HA.out; simp; omega, by omega, HF.out⟩, by have := HA.out; simp [intOf]; omega⟩
    · have hqQ : q = Q := by omega
      rw [hqQ] at hM
      have HM := Lib.hid (And.intro hM hB)
      have haQ : a = 64 * Q := by rw [ha, hqQ]
      have HAQ := Lib.hid haQ
      have ni : ¬ (a : Int) < (WQ : Int) := by have := HWQ.out; omega
      have HEN := Lib.hid (ending_any s.size (by omega))
      have hWQ := HWQ.out
      have k1 : (0 : Int) ≤ (WQ : Int) := by omega
      have k2 : (WQ : Int) ≤ (s.size : Int) := by omega
      obtain ⟨EN, hEN⟩ : ∃ EN : ByteArray, EN = ⟨(endingL s.size).toArray⟩ := ⟨_, rfl⟩
      rw [← hEN] at HEN
      have hENl : EN.data.toList = endingL s.size := by rw [hEN]
      have hel := endingL_len s.size
      have helb : (endingL s.size).length ≤ 200 := by
        rw [endingL_eq, List.length_append, endA_len, be8_len]; omega
      have hENs : EN.size = (endingL s.size).length := by rw [← hENl, dl]
      have hxs : (s.extract WQ s.size).size = s.size - WQ := by rw [ByteArray.size_extract]; omega
      obtain ⟨E, hE⟩ : ∃ E, E = s.extract WQ s.size ++ EN := ⟨_, rfl⟩
      have hEs : E.size = (s.extract WQ s.size).size + EN.size := by rw [hE, ByteArray.size_append]
      have hEl : E.data.toList = (s.extract (64 * Q) s.size).data.toList ++ endingL s.size := by rw [hE, hWQ, ByteArray.data_append, Array.toList_append, hENl]
      obtain ⟨R, hR⟩ : ∃ R, R = E.size / 64 := ⟨_, rfl⟩
      have hER : E.size = 64 * R := by omega
      have hPl : P.length / 64 = Q + R := by
        rw [HP.out, padL, List.length_append, dl]; omega
      have HPL := Lib.hid hPl
      have HEL := Lib.hid hEl
      have HER := Lib.hid hER
      have hRb : R ≤ 100000000 := by omega
      have hadd : ¬ 9223372036854775807 < (s.extract WQ s.size).size + EN.size := by omega
      have hadd2 : ¬ 9223372036854775807 < s.size - WQ + EN.size := by omega
      have HE := Lib.hid hE
      clear hM hB ha hqQ hq hWQ hEN hENl hel helb hENs hxs hE hEs hEl hR hER hPl haQ
      go_upto_region 6 with fail
      go_cut [7] (fun t wx => t = .string E ∧ Blk wx pm (mixC KL (blks K P v Q)) 45 ∧ Below w.heap.size w wx)
      case first =>
        have hM : Blk wr.drew pm (mixC KL (blks K P v Q)) 45 := HM.out.1
        have hB : Below w.heap.size w wr.drew := below_drewN' HM.out.2 1
        go_region_held3 (fun w' => w.heap.size ≤ w'.heap.size)
          (exact hB.size)
          (first
            | (go_at_call 31; ((with_reducible refine (HEN.out _).mono ?_)); rintro e' w4 ⟨rfl, hb4⟩; replace hM := hM.below hb4 hM.lt; replace hB := hB.trans (hb4.mono hB.size)))
        all_goals
          go_wp2_with fail
          go_meet
          case rel => exact ⟨congrArg Value.string HE.out.symm, hM, hB⟩
      case rest =>
        obtain ⟨rfl, hM, hB⟩ := hcut
        have hEb : E.size ≤ 6400000000 := by have := HER.out; omega
        have HM2 := Lib.hid (And.intro hM hB)
        clear hM hB hadd hadd2
        go_wp2_with fail
        go_loopw [8] (fun i wr => ∃ q : Nat, i = .int .i64 ((64 * q : Nat) : Int) ∧ q ≤ R ∧ Blk wr pm (mixC KL (blks K P v (Q + q))) 45 ∧ Below w.heap.size w wr) (fun i _ => 64 * R - (intOf i).toNat)
        case atStart => exact ⟨0, by simp, by omega, HM2.out.1, HM2.out.2⟩
        case round =>
          clear HM2 HM
          obtain ⟨q, rfl, hq, hM, hB⟩ := hrel
          obtain ⟨a, ha⟩ : ∃ a, a = 64 * q := ⟨_, rfl⟩
          rw [← ha]
          by_cases hlt : q < R
          · have hER := HER.out
            have i1 : (a : Int) < (E.size : Int) := by omega
            have i2 : (0 : Int) ≤ (a : Int) := by omega
            have i3 : (a : Int) ≤ (a : Int) + 64 := by omega
            have i4 : (a : Int) + 64 ≤ (E.size : Int) := by omega
            have i5 : ((a : Int) + 64).toNat = a + 64 := by omega
            have hts : (E.extract a (a + 64)).size = 64 := by rw [ByteArray.size_extract]; omega
            have HBK := Lib.hid (HBL.out wr pm _ (E.extract a (a + 64)) (blks_lt HV.out (Q + q)) hts hM)
            have hnx : blkV K (byteAt (E.extract a (a + 64)).data.toList) (blks K P v (Q + q)) = blks K P v (Q + (q + 1)) := by
              rw [show Q + (q + 1) = (Q + q) + 1 by omega, blks, HP.out, chunk_hi s E Q q hQs HEL.out, ha]
            rw [hnx] at HBK
            have HB := Lib.hid hB
            have HA := Lib.hid ha
            clear hts hnx hM hB ha hER
            go_wp2_with fail
            refine HBK.out.mono ?_
            rintro e w3 ⟨rfl, hM3, hg3⟩
            have HF := Lib.hid (And.intro hM3 (HB.out.grown hg3 HB.out.size (fun k hk => by cases hk; have := HPM.out; omega)))
            clear hM3 hg3 HBK
            go_wp2
            exact ⟨⟨q + 1, by have := HA.out; simp; omega, by omega, HF.out⟩, by have := HA.out; simp [intOf]; omega⟩
          · have hER := HER.out
            have hqR : q = R := by omega
            have ni2 : ¬ (a : Int) < (E.size : Int) := by omega
            rw [hqR] at hM
            rw [← HPL.out] at hM
            obtain ⟨u, hu⟩ : ∃ u, u = blks K P v (P.length / 64) := ⟨_, rfl⟩
            rw [← hu] at hM
            have HU := Lib.hid hu
            have hul : u.lt := by rw [hu]; exact blks_lt HV.out _
            have cm : ∀ (i : Nat) (x : Nat), u.list[i]? = some x → wr.cell? ⟨pm, 64 + i, none⟩ = some (.int .u32 (x : Nat)) := fun i x hx => hM.cell (i := 64 + i) (v := v32 x) (by
              unfold mixC
              rw [List.getElem?_append_right (by rw [List.length_map, HKL.out.1]; omega), List.length_map, HKL.out.1, show 64 + i - 64 = i by omega, List.getElem?_map, hx]; rfl)
            have m0 := cm 0 u.a rfl
            have m1 := cm 1 u.b rfl
            have m2 := cm 2 u.c rfl
            have m3 := cm 3 u.d rfl
            have m4 := cm 4 u.e rfl
            have m5 := cm 5 u.f rfl
            have m6 := cm 6 u.g rfl
            have m7 := cm 7 u.h rfl
            simp only [Nat.reduceAdd] at m0 m1 m2 m3 m4 m5 m6 m7
            have HB := Lib.hid hB
            have HUL := Lib.hid hul
            clear cm hM hB hu hul ha hqR hER
            go_wp2_with fail
            go_loopw [9, 48] (fun o i wr => ∃ j : Nat, i = .int .i64 j ∧ j ≤ 8 ∧ wr.ownsRow w.heap.size 5 1 o (4 * j) (byteC ((u.list.take j).flatMap be4)) ∧ Below w.heap.size w wr) (fun _ i _ => 8 - (intOf i).toNat)
            case atStart => exact ⟨0, by go_num, by omega, World.ownsRow_nil _ _ _ _, HB.out⟩
            case round =>
              clear HB m0 m1 m2 m3 m4 m5 m6 m7
              obtain ⟨j, rfl, hj, hO, hB⟩ := hrel
              obtain ⟨av, cv, rfl⟩ := slice_own hO
              have hS := hB.size
              by_cases hlt2 : j < 8
              · obtain ⟨_, y, _, hy, _, _⟩ := hmix_at u u hlt2
                have ly := V8.lt_at HUL.out hy
                have hidx : ∀ W, (Instr.index 43 (Value.agg #[.int .u32 (u.a : Nat), .int .u32 (u.b : Nat), .int .u32 (u.c : Nat), .int .u32 (u.d : Nat), .int .u32 (u.e : Nat), .int .u32 (u.f : Nat), .int .u32 (u.g : Nat), .int .u32 (u.h : Nat)]) (.int .i64 (j : Nat))).run Try.prog W = .ok (.int .u32 (y : Nat)) W := by
                  intro W
                  have hj8 : j = 0 ∨ j = 1 ∨ j = 2 ∨ j = 3 ∨ j = 4 ∨ j = 5 ∨ j = 6 ∨ j = 7 := by omega
                  rcases hj8 with rfl | rfl | rfl | rfl | rfl | rfl | rfl | rfl <;> (injection hy with hy; rw [← hy]; rfl)
                have HY : Hid (byteC ((u.list.take (j + 1)).flatMap be4) = byteC ((u.list.take j).flatMap be4) ++ [.int .u8 (((y / 16777216) % 256 : Nat) : Int), .int .u8 (((y / 65536) % 256 : Nat) : Int), .int .u8 (((y / 256) % 256 : Nat) : Int), .int .u8 ((y % 256 : Nat) : Int)]) := Lib.hid (by rw [outV_take u hy, byteC_be4])
                obtain ⟨b0, hb0⟩ : ∃ b, b = (y / 16777216) % 256 := ⟨_, rfl⟩
                obtain ⟨b1, hb1⟩ : ∃ b, b = (y / 65536) % 256 := ⟨_, rfl⟩
                obtain ⟨b2, hb2⟩ : ∃ b, b = (y / 256) % 256 := ⟨_, rfl⟩
                obtain ⟨b3, hb3⟩ : ∃ b, b = y % 256 := ⟨_, rfl⟩
                rw [← hb0, ← hb1, ← hb2, ← hb3] at HY
                have z0 : IntKind.u8.wrap ((y : Int) / 16777216) = (b0 : Int) := by rw [IntKind.wrap_u8, hb0]; omega
                have z1 : IntKind.u8.wrap ((y : Int) / 65536) = (b1 : Int) := by rw [IntKind.wrap_u8, hb1]; omega
                have z2 : IntKind.u8.wrap ((y : Int) / 256) = (b2 : Int) := by rw [IntKind.wrap_u8, hb2]; omega
                have z3 : IntKind.u8.wrap (y : Int) = (b3 : Int) := by rw [IntKind.wrap_u8, hb3]; omega
                have z4 : ((y : Int) / 16777216) % 256 = (b0 : Int) := by rw [hb0]; omega
                have z5 : ((y : Int) / 65536) % 256 = (b1 : Int) := by rw [hb1]; omega
                have z6 : ((y : Int) / 256) % 256 = (b2 : Int) := by rw [hb2]; omega
                have z7 : (y : Int) % 256 = (b3 : Int) := by rw [hb3]; omega
                have i1 : (0 : Int) ≤ (j : Int) := by omega
                have i2 : (j : Int) < 8 := by omega
                have HO := Lib.hid hO
                have HB := Lib.hid hB
                clear hb0 hb1 hb2 hb3 hO hB hy
                go_wp2_with (at_builtin; refine wpList_append_own _ rfl _ _ 52 rfl w.heap.size 5 i0 (.int .u8 0) 1 1 Try.underlying52 hi hz0 hz1 hz2 rfl (by decide) _ _ _ rfl (World.ownsRow.alloc HO.out _) ⟨wr.heap.size, 0, none⟩ 4 4 [.int .u8 (b0 : Int), .int .u8 (b1 : Int), .int .u8 (b2 : Int), .int .u8 (b3 : Int)] rfl rfl (sha_cells_new wr _ _) (by intro x hx; simp only [List.mem_cons, List.not_mem_nil, or_false] at hx; rcases hx with rfl | rfl | rfl | rfl <;> rfl) (by unfold maxLen; omega) (by omega) (by simp; omega) ?_)
                intro v' w3 hO3 hg3 _
                have hO4 : w3.ownsRow w.heap.size 5 1 v' (4 * (j + 1)) (byteC ((u.list.take (j + 1)).flatMap be4)) := by rw [HY.out]; exact hO3
                have hB4 : Below w.heap.size w w3 := (HB.out.alloc (by omega) _).grown hg3 (by simp; omega) (fun j hj => by have := World.ownsRow.lt HO.out j hj; omega)
                have HF := Lib.hid (And.intro hO4 hB4)
                clear hO3 hg3 hO4 hB4
                go_wp2
                exact ⟨⟨j + 1, by go_num, by omega, HF.out⟩, by simp [intOf]; omega⟩
              · have hj8 : j = 8 := by omega
                subst hj8
                have hcv : (convert 52 9 (.slice av (4 * 8) cv)).run Try.prog wr = .ok (.string ⟨(outV u).toArray⟩) wr := owns_bytes_str (outV u) Try.underlying52 Try.underlying5 Try.underlying9 hO (by omega)
                rw [HU.out] at hcv
                have HB := Lib.hid hB
                clear hO hB
                go_wp2
                go_ret
                exact ⟨rfl, HB.out⟩
end Go.Proofs.Ytjahdladcijhoaa
