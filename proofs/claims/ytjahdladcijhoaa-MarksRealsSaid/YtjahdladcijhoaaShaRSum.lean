/- The reference's SHA-256: Sum. Conditions: as named in each theorem. -/
import Derived.Test.YtjahdladcijhoaaShaRBlk
import Derived.Test.YtjahdladcijhoaaByR
namespace Go.Proofs.Ytjahdladcijhoaa
open Go.RowKit
set_option linter.unusedVariables false
set_option linter.unusedSimpArgs false

theorem below_alloc1 (w : World) (o : Obj) : Below w.heap.size w (w.alloc o) := (Below.refl _ _).alloc (Nat.le_refl _) _
theorem roots64 : (P64.map k3).take 64 = KL0 := List.take_of_length_le (by rw [List.length_map, P64_len]; exact Nat.le_refl _)
theorem P64_t8 : P64.take 8 = [2, 3, 5, 7, 11, 13, 17, 19] := by decide
theorem roots8 : (P64.map k2).take 8 = H0.list := by rw [← List.map_take, P64_t8]; rfl
theorem be8_last (n j : Nat) (l : List UInt8) : l ++ be8 n (j + 1) = l ++ be8 n j ++ [UInt8.ofNat (8 * n / 2 ^ (8 * (7 - j)))] := by rw [be8_succ, List.append_assoc]
theorem and255 (x : Nat) (hx : x < 4611686018427387904) : bits .and .i64 (x : Int) 255 = ((x % 256 : Nat) : Int) := by
  have h := i64_and x 255 (by omega) (by decide)
  rw [show x &&& 255 = x % 256 from Nat.and_two_pow_sub_one_eq_mod x 8] at h
  exact h
theorem padL_at (l : List UInt8) (q j : Nat) (hj : j < 64) (h : 64 * q + 64 ≤ l.length) : l[64 * q + j]? = some (((l.drop (64 * q)).take 64).getD j 0) := by
  have h1 : ((l.drop (64 * q)).take 64)[j]? = l[64 * q + j]? := by rw [List.getElem?_take, if_pos hj, List.getElem?_drop]
  rw [List.getD_eq_getElem?_getD, h1, List.getElem?_eq_getElem (by omega)]
  rfl

set_option maxRecDepth 100000 in
set_option maxHeartbeats 4000000 in
theorem rsum_any (w : World) (s : ByteArray) (hs : s.size ≤ 900000000) :
    Calls Try.prog 19 #[.string s] w fun e w' => e = .returned (.string (shaS s)) ∧ Below w.heap.size w w' := by
  obtain ⟨i0, hi, hz0, hz1, hz2⟩ := info_parts infoByte
  obtain ⟨K, hK⟩ : ∃ K : Nat → Nat, K = fun i => KL0.getD i 0 := ⟨_, rfl⟩
  obtain ⟨S, hS⟩ : ∃ S, S = s.data.toList := ⟨_, rfl⟩
  obtain ⟨n, hn⟩ : ∃ n, n = s.size := ⟨_, rfl⟩
  have hSn : S.length = n := by rw [hS, hn]; exact dl s
  obtain ⟨P, hP⟩ : ∃ P, P = padL S := ⟨_, rfl⟩
  have hH : shaS s = ⟨(outV (blks K P H0 (P.length / 64))).toArray⟩ := by rw [hP, hS, hK]; rfl
  obtain ⟨Z, hZ⟩ : ∃ Z, Z = (119 - n % 64) % 64 := ⟨_, rfl⟩
  have hPe : P = S ++ endA Z ++ be8 n 8 := by rw [hP, padL, hSn, endingL_eq, ← hZ, List.append_assoc]
  have hel := endingL_len n
  have hPm : P.length % 64 = 0 := by rw [hP, padL, List.length_append, hSn]; exact hel
  obtain ⟨R, hR⟩ : ∃ R, R = P.length / 64 := ⟨_, rfl⟩
  have hPR : P.length = 64 * R := by omega
  have hPl : P.length = n + 1 + Z + 8 := by rw [hPe, List.length_append, List.length_append, hSn, endA_len, be8_len]; omega
  rw [← hR] at hH
  have HH := Lib.hid hH
  have HPE := Lib.hid hPe
  have HPR := Lib.hid (And.intro hPR hPl)
  have HZ := Lib.hid hZ
  have hZ64 : Z < 64 := by omega
  have hs0 : n ≤ 900000000 := by omega
  obtain ⟨U, hU⟩ : ∃ U, U = shaS s := ⟨_, rfl⟩
  rw [← hU] at HH ⊢
  have HRT := Lib.hid (roots_3 64 (by decide) w)
  have HK := Lib.hid hK
  have HSN := Lib.hid (And.intro hS hn)
  clear hP hH hPe hel hPm hPR hPl hR hZ hU hs hK hS hn hSn
  go_enter Try.func19, Try.ntmps19
  go_wp2_with fail
  refine HRT.out.mono ?_
  rintro e w1 ⟨vk, rfl, hk1, hb1⟩
  rw [roots64] at hk1
  have HK1 := Lib.hid (And.intro hk1 hb1)
  have HRT2 := Lib.hid (roots_2 8 (by decide) w1)
  clear hk1 hb1 HRT
  go_wp2_with fail
  refine HRT2.out.mono ?_
  rintro e w2 ⟨vh, rfl, hh2, hb2⟩
  rw [roots8] at hh2
  have hk2 := own_below HK1.out.1 hb2
  have hB2 : Below w.heap.size w w2 := HK1.out.2.trans (hb2.mono HK1.out.2.size)
  obtain ⟨cap, C, fz, hcv, hby⟩ := letters_byR w2 w2.heap.size (Nat.le_refl _) s (by have := HSN.out.2; omega)
  obtain ⟨W3, hW3⟩ : ∃ W, W = w2.drew.alloc (.cells C 5 fz) := ⟨_, rfl⟩
  rw [← hW3] at hcv hby
  have hB3 : Below w2.heap.size w2 W3 := by rw [hW3]; exact (Below.refl _ _).drew.alloc (Nat.le_refl _) _
  rw [← HSN.out.1] at hby
  have hsz : s.size = n := HSN.out.2.symm
  rw [hsz] at hcv hby
  have HR2 := Lib.hid (And.intro (owns_mono hh2 HK1.out.2.size) (And.intro hk2 hB2))
  have HB3 := Lib.hid (And.intro (hby.kept (below_alloc1 W3 (Obj.cells #[.int .u8 128] 5))) hB3)
  clear hh2 hb2 hk2 hB2 hby hB3 hW3 HRT2 HK1 hsz
  go_wp2_with (at_builtin; refine wpList_append_byR _ rfl _ _ 52 rfl i0 (.int .u8 0) Try.underlying52 hi hz0 hz1 hz2 rfl w2.heap.size _ n S rfl HB3.out.1 (by have := HB3.out.2.size; simp; omega) ⟨W3.heap.size, 0, none⟩ 1 128 128 rfl rfl (cell1_new _ _ _) (by omega) ?_)
  intro v4 w4 hB4 hg4
  have hb4 : Below w2.heap.size w2 w4 := (HB3.out.2.alloc HB3.out.2.size _).grown hg4 (by have := HB3.out.2.size; simp; omega) (fun j hj => by cases hj; exact Nat.le_refl _)
  have H4 := Lib.hid (And.intro hB4 hb4)
  clear hB4 hg4 hb4 HB3 hcv
  go_wp2_with fail
  go_loopw [5] (fun v wr => ∃ k : Nat, k ≤ Z ∧ ByR wr w2.heap.size v (n + 1 + k) (S ++ endA k) ∧ Below w2.heap.size w2 wr) (fun v _ => n + 100 - lenOf v)
  case atStart => exact ⟨0, Nat.zero_le _, H4.out⟩
  case round =>
    clear H4
    obtain ⟨k, hk, hO, hB⟩ := hrel
    obtain ⟨g, cp, rfl, hg1, hg2, hcp⟩ := hO.slice
    have hS2 := hB.size
    obtain ⟨m, hm⟩ : ∃ m, m = n + 1 + k := ⟨_, rfl⟩
    rw [← hm] at hO hcp
    rw [← hm]
    by_cases hgo : k < Z
    · have hne : (((m : Int)) % 64 != 56) = true := by have := HZ.out; simp; omega
      have HO := Lib.hid (And.intro (hO.kept (below_alloc1 wr (Obj.cells #[.int .u8 0] 5))) hB)
      have HM := Lib.hid hm
      obtain ⟨L, hL⟩ : ∃ L, L = S ++ endA k := ⟨_, rfl⟩
      rw [← hL] at HO
      have HL := Lib.hid hL
      clear hO hB hm hL
      go_wp2_with (at_builtin; refine wpList_append_byR _ rfl _ _ 52 rfl i0 (.int .u8 0) Try.underlying52 hi hz0 hz1 hz2 rfl w2.heap.size _ m L rfl HO.out.1 (by simp; omega) ⟨wr.heap.size, 0, none⟩ 1 0 0 rfl rfl (cell1_new _ _ _) (by have := HM.out; omega) ?_)
      intro v5 w5 hB5 hg5
      have hb5 : Below w2.heap.size w2 w5 := (HO.out.2.alloc HO.out.2.size _).grown hg5 (by have := HO.out.2.size; simp; omega) (fun j hj => by cases hj; exact hg1)
      have hB6 : ByR w5 w2.heap.size v5 (n + 1 + (k + 1)) (S ++ endA (k + 1)) := by
        have e1 : S ++ endA (k + 1) = S ++ endA k ++ [0] := by rw [endA_succ, List.append_assoc]
        have e2 : n + 1 + (k + 1) = m + 1 := by have := HM.out; omega
        rw [e1, e2, ← HL.out]; exact hB5
      obtain ⟨g5, cp5, rfl, _, _, _⟩ := hB6.slice
      have HF := Lib.hid (And.intro hB6 hb5)
      clear hB5 hB6 hg5 hb5 HO
      go_wp2
      exact ⟨⟨k + 1, by omega, HF.out⟩, by have := HM.out; simp [lenOf]; omega⟩
    · have hkZ : k = Z := by omega
      have hne : (((m : Int)) % 64 != 56) = false := by have := HZ.out; simp; omega
      have HO : Hid (ByR wr w2.heap.size (.slice (some ⟨g, 0, none⟩) m cp) (n + 1 + Z + 0) (S ++ endA Z ++ be8 n 0) ∧ Below w2.heap.size w2 wr) := Lib.hid ⟨by
        have e : S ++ endA Z ++ be8 n 0 = S ++ endA k := by rw [hkZ]; simp [be8]
        rw [e, ← hkZ]
        have : n + 1 + k + 0 = m := by omega
        rw [this]; exact hO, hB⟩
      clear hO hB hm hkZ hcp
      go_wp2_with fail
      go_loopw [5, 6] (fun v i wr => ∃ j : Nat, i = .int .i64 (7 - (j : Int)) ∧ j ≤ 8 ∧ ByR wr w2.heap.size v (n + 1 + Z + j) (S ++ endA Z ++ be8 n j) ∧ Below w2.heap.size w2 wr) (fun _ i _ => (intOf i + 1).toNat)
      case atStart => exact ⟨0, by simp, by omega, HO.out⟩
      case round =>
        clear HO
        obtain ⟨j, rfl, hj, hO, hB⟩ := hrel
        obtain ⟨g, cp, rfl, hg1, hg2, hcp⟩ := hO.slice
        have hS2 := hB.size
        by_cases hlt : j < 8
        · have hj8 : j = 0 ∨ j = 1 ∨ j = 2 ∨ j = 3 ∨ j = 4 ∨ j = 5 ∨ j = 6 ∨ j = 7 := by omega
          rcases hj8 with rfl | rfl | rfl | rfl | rfl | rfl | rfl | rfl
          · obtain ⟨m, hm⟩ : ∃ m, m = n + 1 + Z + 0 := ⟨_, rfl⟩
            rw [← hm] at hO
            rw [← hm]
            obtain ⟨b, hb⟩ : ∃ b, b = 8 * n / 2 ^ (8 * (7 - 0)) % 256 := ⟨_, rfl⟩
            have w1 : IntKind.i64.wrap (8 * (s.size : Int)) = 8 * (n : Int) := by rw [IntWalk.i64_in _ (by have := HSN.out.2; omega)]; have := HSN.out.2; omega
            have hx1 : IntKind.u8.wrap (8 * (n : Int) / 72057594037927936) = (b : Int) := by rw [IntKind.wrap_u8, hb]; simp only [Nat.reduceSub, Nat.reduceMul, Nat.reducePow]; omega
            have hx2 : (8 * (n : Int) / 72057594037927936) % 256 = (b : Int) := by rw [hb]; simp only [Nat.reduceSub, Nat.reduceMul, Nat.reducePow]; omega
            have HBT : Hid ((b : Int) = ((UInt8.ofNat (8 * n / 2 ^ (8 * (7 - 0)))).toNat : Nat)) := Lib.hid (by rw [ofN8, hb])
            have HO := Lib.hid (And.intro (hO.kept (below_alloc1 wr (Obj.cells #[.int .u8 (b : Int)] 5))) hB)
            have HM := Lib.hid hm
            obtain ⟨L, hL⟩ : ∃ L, L = S ++ endA Z ++ be8 n 0 := ⟨_, rfl⟩
            rw [← hL] at HO
            have HL := Lib.hid hL
            obtain ⟨d, hd⟩ : ∃ d, d = UInt8.ofNat (8 * n / 2 ^ (8 * (7 - 0))) := ⟨_, rfl⟩
            rw [← hd] at HBT
            have HD := Lib.hid hd
            clear hb hO hB hm hL hd
            go_wp2_with (at_builtin; refine wpList_append_byR _ rfl _ _ 52 rfl i0 (.int .u8 0) Try.underlying52 hi hz0 hz1 hz2 rfl w2.heap.size _ m L rfl HO.out.1 (by simp; omega) ⟨wr.heap.size, 0, none⟩ 1 d (b : Int) HBT.out rfl (cell1_new _ _ _) (by have := HM.out; omega) ?_)
            intro v5 w5 hB5 hg5
            have hb5 : Below w2.heap.size w2 w5 := (HO.out.2.alloc HO.out.2.size _).grown hg5 (by have := HO.out.2.size; simp; omega) (fun j hj => by cases hj; exact hg1)
            have hB6 : ByR w5 w2.heap.size v5 (n + 1 + Z + 1) (S ++ endA Z ++ be8 n 1) := by
              have e2 : n + 1 + Z + 1 = m + 1 := by have := HM.out; omega
              rw [be8_last n 0, e2, ← HL.out, ← HD.out]; exact hB5
            obtain ⟨g5, cp5, rfl, _, _, _⟩ := hB6.slice
            have HF := Lib.hid (And.intro hB6 hb5)
            clear hB5 hB6 hg5 hb5 HO
            go_wp2
            exact ⟨⟨1, by simp, by omega, HF.out⟩, by simp [intOf]⟩
          · obtain ⟨m, hm⟩ : ∃ m, m = n + 1 + Z + 1 := ⟨_, rfl⟩
            rw [← hm] at hO
            rw [← hm]
            obtain ⟨b, hb⟩ : ∃ b, b = 8 * n / 2 ^ (8 * (7 - 1)) % 256 := ⟨_, rfl⟩
            have w1 : IntKind.i64.wrap (8 * (s.size : Int)) = 8 * (n : Int) := by rw [IntWalk.i64_in _ (by have := HSN.out.2; omega)]; have := HSN.out.2; omega
            have hx1 : IntKind.u8.wrap (8 * (n : Int) / 281474976710656) = (b : Int) := by rw [IntKind.wrap_u8, hb]; simp only [Nat.reduceSub, Nat.reduceMul, Nat.reducePow]; omega
            have hx2 : (8 * (n : Int) / 281474976710656) % 256 = (b : Int) := by rw [hb]; simp only [Nat.reduceSub, Nat.reduceMul, Nat.reducePow]; omega
            have HBT : Hid ((b : Int) = ((UInt8.ofNat (8 * n / 2 ^ (8 * (7 - 1)))).toNat : Nat)) := Lib.hid (by rw [ofN8, hb])
            have HO := Lib.hid (And.intro (hO.kept (below_alloc1 wr (Obj.cells #[.int .u8 (b : Int)] 5))) hB)
            have HM := Lib.hid hm
            obtain ⟨L, hL⟩ : ∃ L, L = S ++ endA Z ++ be8 n 1 := ⟨_, rfl⟩
            rw [← hL] at HO
            have HL := Lib.hid hL
            obtain ⟨d, hd⟩ : ∃ d, d = UInt8.ofNat (8 * n / 2 ^ (8 * (7 - 1))) := ⟨_, rfl⟩
            rw [← hd] at HBT
            have HD := Lib.hid hd
            clear hb hO hB hm hL hd
            go_wp2_with (at_builtin; refine wpList_append_byR _ rfl _ _ 52 rfl i0 (.int .u8 0) Try.underlying52 hi hz0 hz1 hz2 rfl w2.heap.size _ m L rfl HO.out.1 (by simp; omega) ⟨wr.heap.size, 0, none⟩ 1 d (b : Int) HBT.out rfl (cell1_new _ _ _) (by have := HM.out; omega) ?_)
            intro v5 w5 hB5 hg5
            have hb5 : Below w2.heap.size w2 w5 := (HO.out.2.alloc HO.out.2.size _).grown hg5 (by have := HO.out.2.size; simp; omega) (fun j hj => by cases hj; exact hg1)
            have hB6 : ByR w5 w2.heap.size v5 (n + 1 + Z + 2) (S ++ endA Z ++ be8 n 2) := by
              have e2 : n + 1 + Z + 2 = m + 1 := by have := HM.out; omega
              rw [be8_last n 1, e2, ← HL.out, ← HD.out]; exact hB5
            obtain ⟨g5, cp5, rfl, _, _, _⟩ := hB6.slice
            have HF := Lib.hid (And.intro hB6 hb5)
            clear hB5 hB6 hg5 hb5 HO
            go_wp2
            exact ⟨⟨2, by simp, by omega, HF.out⟩, by simp [intOf]⟩
          · obtain ⟨m, hm⟩ : ∃ m, m = n + 1 + Z + 2 := ⟨_, rfl⟩
            rw [← hm] at hO
            rw [← hm]
            obtain ⟨b, hb⟩ : ∃ b, b = 8 * n / 2 ^ (8 * (7 - 2)) % 256 := ⟨_, rfl⟩
            have w1 : IntKind.i64.wrap (8 * (s.size : Int)) = 8 * (n : Int) := by rw [IntWalk.i64_in _ (by have := HSN.out.2; omega)]; have := HSN.out.2; omega
            have hx1 : IntKind.u8.wrap (8 * (n : Int) / 1099511627776) = (b : Int) := by rw [IntKind.wrap_u8, hb]; simp only [Nat.reduceSub, Nat.reduceMul, Nat.reducePow]; omega
            have hx2 : (8 * (n : Int) / 1099511627776) % 256 = (b : Int) := by rw [hb]; simp only [Nat.reduceSub, Nat.reduceMul, Nat.reducePow]; omega
            have HBT : Hid ((b : Int) = ((UInt8.ofNat (8 * n / 2 ^ (8 * (7 - 2)))).toNat : Nat)) := Lib.hid (by rw [ofN8, hb])
            have HO := Lib.hid (And.intro (hO.kept (below_alloc1 wr (Obj.cells #[.int .u8 (b : Int)] 5))) hB)
            have HM := Lib.hid hm
            obtain ⟨L, hL⟩ : ∃ L, L = S ++ endA Z ++ be8 n 2 := ⟨_, rfl⟩
            rw [← hL] at HO
            have HL := Lib.hid hL
            obtain ⟨d, hd⟩ : ∃ d, d = UInt8.ofNat (8 * n / 2 ^ (8 * (7 - 2))) := ⟨_, rfl⟩
            rw [← hd] at HBT
            have HD := Lib.hid hd
            clear hb hO hB hm hL hd
            go_wp2_with (at_builtin; refine wpList_append_byR _ rfl _ _ 52 rfl i0 (.int .u8 0) Try.underlying52 hi hz0 hz1 hz2 rfl w2.heap.size _ m L rfl HO.out.1 (by simp; omega) ⟨wr.heap.size, 0, none⟩ 1 d (b : Int) HBT.out rfl (cell1_new _ _ _) (by have := HM.out; omega) ?_)
            intro v5 w5 hB5 hg5
            have hb5 : Below w2.heap.size w2 w5 := (HO.out.2.alloc HO.out.2.size _).grown hg5 (by have := HO.out.2.size; simp; omega) (fun j hj => by cases hj; exact hg1)
            have hB6 : ByR w5 w2.heap.size v5 (n + 1 + Z + 3) (S ++ endA Z ++ be8 n 3) := by
              have e2 : n + 1 + Z + 3 = m + 1 := by have := HM.out; omega
              rw [be8_last n 2, e2, ← HL.out, ← HD.out]; exact hB5
            obtain ⟨g5, cp5, rfl, _, _, _⟩ := hB6.slice
            have HF := Lib.hid (And.intro hB6 hb5)
            clear hB5 hB6 hg5 hb5 HO
            go_wp2
            exact ⟨⟨3, by simp, by omega, HF.out⟩, by simp [intOf]⟩
          · obtain ⟨m, hm⟩ : ∃ m, m = n + 1 + Z + 3 := ⟨_, rfl⟩
            rw [← hm] at hO
            rw [← hm]
            obtain ⟨b, hb⟩ : ∃ b, b = 8 * n / 2 ^ (8 * (7 - 3)) % 256 := ⟨_, rfl⟩
            have w1 : IntKind.i64.wrap (8 * (s.size : Int)) = 8 * (n : Int) := by rw [IntWalk.i64_in _ (by have := HSN.out.2; omega)]; have := HSN.out.2; omega
            have hx1 : IntKind.u8.wrap (8 * (n : Int) / 4294967296) = (b : Int) := by rw [IntKind.wrap_u8, hb]; simp only [Nat.reduceSub, Nat.reduceMul, Nat.reducePow]; omega
            have hx2 : (8 * (n : Int) / 4294967296) % 256 = (b : Int) := by rw [hb]; simp only [Nat.reduceSub, Nat.reduceMul, Nat.reducePow]; omega
            have HBT : Hid ((b : Int) = ((UInt8.ofNat (8 * n / 2 ^ (8 * (7 - 3)))).toNat : Nat)) := Lib.hid (by rw [ofN8, hb])
            have HO := Lib.hid (And.intro (hO.kept (below_alloc1 wr (Obj.cells #[.int .u8 (b : Int)] 5))) hB)
            have HM := Lib.hid hm
            obtain ⟨L, hL⟩ : ∃ L, L = S ++ endA Z ++ be8 n 3 := ⟨_, rfl⟩
            rw [← hL] at HO
            have HL := Lib.hid hL
            obtain ⟨d, hd⟩ : ∃ d, d = UInt8.ofNat (8 * n / 2 ^ (8 * (7 - 3))) := ⟨_, rfl⟩
            rw [← hd] at HBT
            have HD := Lib.hid hd
            clear hb hO hB hm hL hd
            go_wp2_with (at_builtin; refine wpList_append_byR _ rfl _ _ 52 rfl i0 (.int .u8 0) Try.underlying52 hi hz0 hz1 hz2 rfl w2.heap.size _ m L rfl HO.out.1 (by simp; omega) ⟨wr.heap.size, 0, none⟩ 1 d (b : Int) HBT.out rfl (cell1_new _ _ _) (by have := HM.out; omega) ?_)
            intro v5 w5 hB5 hg5
            have hb5 : Below w2.heap.size w2 w5 := (HO.out.2.alloc HO.out.2.size _).grown hg5 (by have := HO.out.2.size; simp; omega) (fun j hj => by cases hj; exact hg1)
            have hB6 : ByR w5 w2.heap.size v5 (n + 1 + Z + 4) (S ++ endA Z ++ be8 n 4) := by
              have e2 : n + 1 + Z + 4 = m + 1 := by have := HM.out; omega
              rw [be8_last n 3, e2, ← HL.out, ← HD.out]; exact hB5
            obtain ⟨g5, cp5, rfl, _, _, _⟩ := hB6.slice
            have HF := Lib.hid (And.intro hB6 hb5)
            clear hB5 hB6 hg5 hb5 HO
            go_wp2
            exact ⟨⟨4, by simp, by omega, HF.out⟩, by simp [intOf]⟩
          · obtain ⟨m, hm⟩ : ∃ m, m = n + 1 + Z + 4 := ⟨_, rfl⟩
            rw [← hm] at hO
            rw [← hm]
            obtain ⟨b, hb⟩ : ∃ b, b = 8 * n / 2 ^ (8 * (7 - 4)) % 256 := ⟨_, rfl⟩
            have w1 : IntKind.i64.wrap (8 * (s.size : Int)) = 8 * (n : Int) := by rw [IntWalk.i64_in _ (by have := HSN.out.2; omega)]; have := HSN.out.2; omega
            have hx1 : IntKind.u8.wrap (8 * (n : Int) / 16777216) = (b : Int) := by rw [IntKind.wrap_u8, hb]; simp only [Nat.reduceSub, Nat.reduceMul, Nat.reducePow]; omega
            have hx2 : (8 * (n : Int) / 16777216) % 256 = (b : Int) := by rw [hb]; simp only [Nat.reduceSub, Nat.reduceMul, Nat.reducePow]; omega
            have HBT : Hid ((b : Int) = ((UInt8.ofNat (8 * n / 2 ^ (8 * (7 - 4)))).toNat : Nat)) := Lib.hid (by rw [ofN8, hb])
            have HO := Lib.hid (And.intro (hO.kept (below_alloc1 wr (Obj.cells #[.int .u8 (b : Int)] 5))) hB)
            have HM := Lib.hid hm
            obtain ⟨L, hL⟩ : ∃ L, L = S ++ endA Z ++ be8 n 4 := ⟨_, rfl⟩
            rw [← hL] at HO
            have HL := Lib.hid hL
            obtain ⟨d, hd⟩ : ∃ d, d = UInt8.ofNat (8 * n / 2 ^ (8 * (7 - 4))) := ⟨_, rfl⟩
            rw [← hd] at HBT
            have HD := Lib.hid hd
            clear hb hO hB hm hL hd
            go_wp2_with (at_builtin; refine wpList_append_byR _ rfl _ _ 52 rfl i0 (.int .u8 0) Try.underlying52 hi hz0 hz1 hz2 rfl w2.heap.size _ m L rfl HO.out.1 (by simp; omega) ⟨wr.heap.size, 0, none⟩ 1 d (b : Int) HBT.out rfl (cell1_new _ _ _) (by have := HM.out; omega) ?_)
            intro v5 w5 hB5 hg5
            have hb5 : Below w2.heap.size w2 w5 := (HO.out.2.alloc HO.out.2.size _).grown hg5 (by have := HO.out.2.size; simp; omega) (fun j hj => by cases hj; exact hg1)
            have hB6 : ByR w5 w2.heap.size v5 (n + 1 + Z + 5) (S ++ endA Z ++ be8 n 5) := by
              have e2 : n + 1 + Z + 5 = m + 1 := by have := HM.out; omega
              rw [be8_last n 4, e2, ← HL.out, ← HD.out]; exact hB5
            obtain ⟨g5, cp5, rfl, _, _, _⟩ := hB6.slice
            have HF := Lib.hid (And.intro hB6 hb5)
            clear hB5 hB6 hg5 hb5 HO
            go_wp2
            exact ⟨⟨5, by simp, by omega, HF.out⟩, by simp [intOf]⟩
          · obtain ⟨m, hm⟩ : ∃ m, m = n + 1 + Z + 5 := ⟨_, rfl⟩
            rw [← hm] at hO
            rw [← hm]
            obtain ⟨b, hb⟩ : ∃ b, b = 8 * n / 2 ^ (8 * (7 - 5)) % 256 := ⟨_, rfl⟩
            have w1 : IntKind.i64.wrap (8 * (s.size : Int)) = 8 * (n : Int) := by rw [IntWalk.i64_in _ (by have := HSN.out.2; omega)]; have := HSN.out.2; omega
            have hx1 : IntKind.u8.wrap (8 * (n : Int) / 65536) = (b : Int) := by rw [IntKind.wrap_u8, hb]; simp only [Nat.reduceSub, Nat.reduceMul, Nat.reducePow]; omega
            have hx2 : (8 * (n : Int) / 65536) % 256 = (b : Int) := by rw [hb]; simp only [Nat.reduceSub, Nat.reduceMul, Nat.reducePow]; omega
            have HBT : Hid ((b : Int) = ((UInt8.ofNat (8 * n / 2 ^ (8 * (7 - 5)))).toNat : Nat)) := Lib.hid (by rw [ofN8, hb])
            have HO := Lib.hid (And.intro (hO.kept (below_alloc1 wr (Obj.cells #[.int .u8 (b : Int)] 5))) hB)
            have HM := Lib.hid hm
            obtain ⟨L, hL⟩ : ∃ L, L = S ++ endA Z ++ be8 n 5 := ⟨_, rfl⟩
            rw [← hL] at HO
            have HL := Lib.hid hL
            obtain ⟨d, hd⟩ : ∃ d, d = UInt8.ofNat (8 * n / 2 ^ (8 * (7 - 5))) := ⟨_, rfl⟩
            rw [← hd] at HBT
            have HD := Lib.hid hd
            clear hb hO hB hm hL hd
            go_wp2_with (at_builtin; refine wpList_append_byR _ rfl _ _ 52 rfl i0 (.int .u8 0) Try.underlying52 hi hz0 hz1 hz2 rfl w2.heap.size _ m L rfl HO.out.1 (by simp; omega) ⟨wr.heap.size, 0, none⟩ 1 d (b : Int) HBT.out rfl (cell1_new _ _ _) (by have := HM.out; omega) ?_)
            intro v5 w5 hB5 hg5
            have hb5 : Below w2.heap.size w2 w5 := (HO.out.2.alloc HO.out.2.size _).grown hg5 (by have := HO.out.2.size; simp; omega) (fun j hj => by cases hj; exact hg1)
            have hB6 : ByR w5 w2.heap.size v5 (n + 1 + Z + 6) (S ++ endA Z ++ be8 n 6) := by
              have e2 : n + 1 + Z + 6 = m + 1 := by have := HM.out; omega
              rw [be8_last n 5, e2, ← HL.out, ← HD.out]; exact hB5
            obtain ⟨g5, cp5, rfl, _, _, _⟩ := hB6.slice
            have HF := Lib.hid (And.intro hB6 hb5)
            clear hB5 hB6 hg5 hb5 HO
            go_wp2
            exact ⟨⟨6, by simp, by omega, HF.out⟩, by simp [intOf]⟩
          · obtain ⟨m, hm⟩ : ∃ m, m = n + 1 + Z + 6 := ⟨_, rfl⟩
            rw [← hm] at hO
            rw [← hm]
            obtain ⟨b, hb⟩ : ∃ b, b = 8 * n / 2 ^ (8 * (7 - 6)) % 256 := ⟨_, rfl⟩
            have w1 : IntKind.i64.wrap (8 * (s.size : Int)) = 8 * (n : Int) := by rw [IntWalk.i64_in _ (by have := HSN.out.2; omega)]; have := HSN.out.2; omega
            have hx1 : IntKind.u8.wrap (8 * (n : Int) / 256) = (b : Int) := by rw [IntKind.wrap_u8, hb]; simp only [Nat.reduceSub, Nat.reduceMul, Nat.reducePow]; omega
            have hx2 : (8 * (n : Int) / 256) % 256 = (b : Int) := by rw [hb]; simp only [Nat.reduceSub, Nat.reduceMul, Nat.reducePow]; omega
            have HBT : Hid ((b : Int) = ((UInt8.ofNat (8 * n / 2 ^ (8 * (7 - 6)))).toNat : Nat)) := Lib.hid (by rw [ofN8, hb])
            have HO := Lib.hid (And.intro (hO.kept (below_alloc1 wr (Obj.cells #[.int .u8 (b : Int)] 5))) hB)
            have HM := Lib.hid hm
            obtain ⟨L, hL⟩ : ∃ L, L = S ++ endA Z ++ be8 n 6 := ⟨_, rfl⟩
            rw [← hL] at HO
            have HL := Lib.hid hL
            obtain ⟨d, hd⟩ : ∃ d, d = UInt8.ofNat (8 * n / 2 ^ (8 * (7 - 6))) := ⟨_, rfl⟩
            rw [← hd] at HBT
            have HD := Lib.hid hd
            clear hb hO hB hm hL hd
            go_wp2_with (at_builtin; refine wpList_append_byR _ rfl _ _ 52 rfl i0 (.int .u8 0) Try.underlying52 hi hz0 hz1 hz2 rfl w2.heap.size _ m L rfl HO.out.1 (by simp; omega) ⟨wr.heap.size, 0, none⟩ 1 d (b : Int) HBT.out rfl (cell1_new _ _ _) (by have := HM.out; omega) ?_)
            intro v5 w5 hB5 hg5
            have hb5 : Below w2.heap.size w2 w5 := (HO.out.2.alloc HO.out.2.size _).grown hg5 (by have := HO.out.2.size; simp; omega) (fun j hj => by cases hj; exact hg1)
            have hB6 : ByR w5 w2.heap.size v5 (n + 1 + Z + 7) (S ++ endA Z ++ be8 n 7) := by
              have e2 : n + 1 + Z + 7 = m + 1 := by have := HM.out; omega
              rw [be8_last n 6, e2, ← HL.out, ← HD.out]; exact hB5
            obtain ⟨g5, cp5, rfl, _, _, _⟩ := hB6.slice
            have HF := Lib.hid (And.intro hB6 hb5)
            clear hB5 hB6 hg5 hb5 HO
            go_wp2
            exact ⟨⟨7, by simp, by omega, HF.out⟩, by simp [intOf]⟩
          · obtain ⟨m, hm⟩ : ∃ m, m = n + 1 + Z + 7 := ⟨_, rfl⟩
            rw [← hm] at hO
            rw [← hm]
            obtain ⟨b, hb⟩ : ∃ b, b = 8 * n / 2 ^ (8 * (7 - 7)) % 256 := ⟨_, rfl⟩
            have w1 : IntKind.i64.wrap (8 * (s.size : Int)) = 8 * (n : Int) := by rw [IntWalk.i64_in _ (by have := HSN.out.2; omega)]; have := HSN.out.2; omega
            have hx1 : IntKind.u8.wrap (8 * (n : Int)) = (b : Int) := by rw [IntKind.wrap_u8, hb]; simp only [Nat.reduceSub, Nat.reduceMul, Nat.reducePow]; omega
            have hx2 : (8 * (n : Int)) % 256 = (b : Int) := by rw [hb]; simp only [Nat.reduceSub, Nat.reduceMul, Nat.reducePow]; omega
            have HBT : Hid ((b : Int) = ((UInt8.ofNat (8 * n / 2 ^ (8 * (7 - 7)))).toNat : Nat)) := Lib.hid (by rw [ofN8, hb])
            have HO := Lib.hid (And.intro (hO.kept (below_alloc1 wr (Obj.cells #[.int .u8 (b : Int)] 5))) hB)
            have HM := Lib.hid hm
            obtain ⟨L, hL⟩ : ∃ L, L = S ++ endA Z ++ be8 n 7 := ⟨_, rfl⟩
            rw [← hL] at HO
            have HL := Lib.hid hL
            obtain ⟨d, hd⟩ : ∃ d, d = UInt8.ofNat (8 * n / 2 ^ (8 * (7 - 7))) := ⟨_, rfl⟩
            rw [← hd] at HBT
            have HD := Lib.hid hd
            clear hb hO hB hm hL hd
            go_wp2_with (at_builtin; refine wpList_append_byR _ rfl _ _ 52 rfl i0 (.int .u8 0) Try.underlying52 hi hz0 hz1 hz2 rfl w2.heap.size _ m L rfl HO.out.1 (by simp; omega) ⟨wr.heap.size, 0, none⟩ 1 d (b : Int) HBT.out rfl (cell1_new _ _ _) (by have := HM.out; omega) ?_)
            intro v5 w5 hB5 hg5
            have hb5 : Below w2.heap.size w2 w5 := (HO.out.2.alloc HO.out.2.size _).grown hg5 (by have := HO.out.2.size; simp; omega) (fun j hj => by cases hj; exact hg1)
            have hB6 : ByR w5 w2.heap.size v5 (n + 1 + Z + 8) (S ++ endA Z ++ be8 n 8) := by
              have e2 : n + 1 + Z + 8 = m + 1 := by have := HM.out; omega
              rw [be8_last n 7, e2, ← HL.out, ← HD.out]; exact hB5
            obtain ⟨g5, cp5, rfl, _, _, _⟩ := hB6.slice
            have HF := Lib.hid (And.intro hB6 hb5)
            clear hB5 hB6 hg5 hb5 HO
            go_wp2
            exact ⟨⟨8, by simp, by omega, HF.out⟩, by simp [intOf]⟩
        · have hj8 : j = 8 := by omega
          rw [hj8, ← HPE.out] at hO
          have hmP : n + 1 + Z + 8 = P.length := by have := HPR.out.2; omega
          obtain ⟨m, hm⟩ : ∃ m, m = n + 1 + Z + j := ⟨_, rfl⟩
          have hm2 : n + 1 + Z + 8 = m := by omega
          rw [← hm] at hcp ⊢
          rw [hm2] at hO hmP
          have HMP : Hid (m = 64 * R) := Lib.hid (by rw [hmP]; exact HPR.out.1)
          have ni : ¬ (0 : Int) ≤ 7 - (j : Int) := by omega
          obtain ⟨W5, hW5⟩ : ∃ W5, W5 = wr := ⟨_, rfl⟩
          have h5h : W5.ownsRow w.heap.size 3 1 vh 8 (iV H0.list) := by rw [hW5]; exact own_below HR2.out.1 hB
          have h5k : W5.ownsRow w.heap.size 3 1 vk 64 (iV KL0) := by rw [hW5]; exact own_below HR2.out.2.1 hB
          have h5B : Below w.heap.size w W5 := by rw [hW5]; exact HR2.out.2.2.trans (hB.mono HR2.out.2.2.size)
          have h5c : ∀ (i : Nat) (c : UInt8), P[i]? = some c → W5.cell? ⟨g, i, none⟩ = some (.int .u8 (c.toNat : Nat)) := fun i c hc => by rw [hW5]; exact hO.cell hc
          rw [← hW5] at hg2
          have HG := Lib.hid hg2
          have H5 := Lib.hid (And.intro h5h (And.intro h5k (And.intro h5B h5c)))
          have HB5 : Hid (Below W5.heap.size W5 wr) := Lib.hid (by rw [hW5]; exact Below.refl _ _)
          have hm64 : m ≤ 900000200 := by omega
          clear hO hB hm hm2 hmP hj8 h5h h5k h5B h5c hW5 hS2 hg1 hg2
          go_wp2_with fail
          go_loopw [4, 7] (fun v a wr => ∃ q : Nat, a = .int .i64 ((64 * q : Nat) : Int) ∧ q ≤ R ∧ wr.ownsRow w.heap.size 3 1 v 8 (iV (blks K P H0 q).list) ∧ Below W5.heap.size W5 wr) (fun _ a _ => 64 * R - (intOf a).toNat)
          case atStart => exact ⟨0, by simp, by omega, own_below H5.out.1 HB5.out, HB5.out⟩
          case round =>
            clear HB5
            obtain ⟨q, rfl, hq, hO, hB⟩ := hrel
            obtain ⟨a, ha⟩ : ∃ a, a = 64 * q := ⟨_, rfl⟩
            rw [← ha]
            obtain ⟨av, vc, rfl⟩ := slice_own hO
            by_cases hlt : q < R
            · have i1 : (a : Int) < (m : Int) := by have := HMP.out; omega
              have i2 : (0 : Int) ≤ (a : Int) := by omega
              have i3 : (a : Int) ≤ (a : Int) + 64 := by omega
              have i4 : (a : Int) + 64 ≤ (cp : Int) := by have := HMP.out; omega
              have i5 : ((a : Int) + 64).toNat = a + 64 := by omega
              have i6 : a + 64 - a = 64 := by omega
              have HBK : Hid (Calls Try.prog 28 #[.slice av 8 vc, vk, .slice (some ⟨g, a, none⟩) 64 (cp - a)] wr (RBlkP (blks K P H0 (q + 1)) wr)) := Lib.hid (by
                have hh := refBlock_any wr w.heap.size w.heap.size (.slice av 8 vc) vk (blks K P H0 q) (blks_lt H0_lt q) KL0 KL0_len KL0_lt g a (cp - a) (byteAt ((P.drop (64 * q)).take 64)) (fun i => byteAt_lt _ i) (Nat.lt_of_lt_of_le HG.out hB.size) (fun i hi => by
                  rw [ha]
                  exact (hB.cell (p := ⟨g, 64 * q + i, none⟩) HG.out).trans (H5.out.2.2.2 _ _ (padL_at P q i hi (by have := HMP.out; have := HPR.out; omega)))) hO (own_below H5.out.2.1 hB)
                rw [← HK.out] at hh
                exact hh)
              have HOB := Lib.hid hB
              have HA := Lib.hid ha
              clear hO hB ha
              go_wp2_with fail
              refine HBK.out.mono ?_
              rintro e w6 ⟨v6, rfl, hO6, hb6⟩
              have HF : Hid (w6.ownsRow w.heap.size 3 1 v6 8 (iV (blks K P H0 (q + 1)).list) ∧ Below W5.heap.size W5 w6) := Lib.hid ⟨owns_mono hO6 (Nat.le_trans H5.out.2.2.1.size HOB.out.size), HOB.out.trans (hb6.mono HOB.out.size)⟩
              clear hO6 hb6 HBK
              go_wp2
              exact ⟨⟨q + 1, by have := HA.out; simp; omega, by omega, HF.out⟩, by have := HA.out; simp [intOf]; omega⟩
            · have hqR : q = R := by omega
              obtain ⟨u, hu⟩ : ∃ u, u = blks K P H0 q := ⟨_, rfl⟩
              have hul : u.lt := by rw [hu]; exact blks_lt H0_lt q
              have hUu : U = ⟨(outV u).toArray⟩ := by rw [HH.out, hu, hqR]
              rw [← hu] at hO
              obtain ⟨gv, rfl, hgv1, hgv2, hvc, hvl⟩ := own_cell hO (by omega)
              have ni2 : ¬ (a : Int) < (m : Int) := by have := HMP.out; omega
              obtain ⟨W6, hW6⟩ : ∃ W6, W6 = wr := ⟨_, rfl⟩
              rw [← hW6] at hvl hgv2
              have HV := Lib.hid (And.intro hvl (And.intro hgv2 (And.intro hul hUu)))
              have HB6 : Hid (Below w.heap.size w W6 ∧ Below W6.heap.size W6 wr) := Lib.hid (by rw [hW6]; exact ⟨H5.out.2.2.1.trans (hB.mono H5.out.2.2.1.size), Below.refl _ _⟩)
              clear hvl hgv2 hul hUu hO hB hW6 hu hqR ha
              go_wp2_with fail
              go_loopw [8, 9] (fun o i wr => ∃ j : Nat, i = .int .i64 j ∧ j ≤ 8 ∧ wr.ownsRow W6.heap.size 5 1 o (4 * j) (byteC ((u.list.take j).flatMap be4)) ∧ Below W6.heap.size W6 wr) (fun _ i _ => 8 - (intOf i).toNat)
              case atStart => exact ⟨0, by go_num, by omega, World.ownsRow_nil _ _ _ _, HB6.out.2⟩
              case round =>
                obtain ⟨j, rfl, hj, hO, hB⟩ := hrel
                obtain ⟨ao, co, rfl⟩ := slice_own hO
                have hS6 := hB.size
                by_cases hlt2 : j < 8
                · obtain ⟨_, y, _, hy, _, _⟩ := hmix_at u u hlt2
                  have ly := V8.lt_at HV.out.2.2.1 hy
                  have gy := HV.out.1 j y hy
                  have cy := (hB.cell (p := ⟨gv, j, none⟩) HV.out.2.1).trans gy
                  have HY : Hid (byteC ((u.list.take (j + 1)).flatMap be4) = byteC ((u.list.take j).flatMap be4) ++ [.int .u8 (((y / 16777216) % 256 : Nat) : Int), .int .u8 (((y / 65536) % 256 : Nat) : Int), .int .u8 (((y / 256) % 256 : Nat) : Int), .int .u8 ((y % 256 : Nat) : Int)]) := Lib.hid (by rw [outV_take u hy, byteC_be4])
                  obtain ⟨b0, hb0⟩ : ∃ b, b = (y / 16777216) % 256 := ⟨_, rfl⟩
                  obtain ⟨b1, hb1⟩ : ∃ b, b = (y / 65536) % 256 := ⟨_, rfl⟩
                  obtain ⟨b2, hb2⟩ : ∃ b, b = (y / 256) % 256 := ⟨_, rfl⟩
                  obtain ⟨b3, hb3⟩ : ∃ b, b = y % 256 := ⟨_, rfl⟩
                  rw [← hb0, ← hb1, ← hb2, ← hb3] at HY
                  have a1 : bits .and .i64 ((y : Int) / 65536) 255 = (b1 : Int) := by
                    have h := and255 (y / 65536) (by omega)
                    rw [← hb1, show ((y / 65536 : Nat) : Int) = (y : Int) / 65536 by omega] at h
                    exact h
                  have a2 : bits .and .i64 ((y : Int) / 256) 255 = (b2 : Int) := by
                    have h := and255 (y / 256) (by omega)
                    rw [← hb2, show ((y / 256 : Nat) : Int) = (y : Int) / 256 by omega] at h
                    exact h
                  have a3 : bits .and .i64 (y : Int) 255 = (b3 : Int) := by
                    have h := and255 y (by omega)
                    rw [← hb3] at h
                    exact h
                  have z0 : IntKind.u8.wrap ((y : Int) / 16777216) = (b0 : Int) := by rw [IntKind.wrap_u8, hb0]; omega
                  have z1 : IntKind.u8.wrap (b1 : Int) = (b1 : Int) := by rw [IntKind.wrap_u8]; omega
                  have z2 : IntKind.u8.wrap (b2 : Int) = (b2 : Int) := by rw [IntKind.wrap_u8]; omega
                  have z3 : IntKind.u8.wrap (b3 : Int) = (b3 : Int) := by rw [IntKind.wrap_u8]; omega
                  have z4 : ((y : Int) / 16777216) % 256 = (b0 : Int) := by rw [hb0]; omega
                  have z5 : (b1 : Int) % 256 = (b1 : Int) := by omega
                  have z6 : (b2 : Int) % 256 = (b2 : Int) := by omega
                  have z7 : (b3 : Int) % 256 = (b3 : Int) := by omega
                  have i1 : (0 : Int) ≤ (j : Int) := by omega
                  have i2 : (j : Int) < 8 := by omega
                  have HOB := Lib.hid (And.intro hO hB)
                  have GY := Lib.hid gy
                  have hgv2 := HV.out.2.1
                  have HGV := Lib.hid hgv2
                  clear hb0 hb1 hb2 hb3 hO hB hy gy hgv2 ly
                  go_upto_region 18 with fail
                  go_region_held3 (fun w' => w'.cell? ⟨gv, j, none⟩ = some (.int .i64 (y : Nat)))
                    (first | exact cy | exact cellA cy _ | exact d0)
                    ((refine step_append_lies _ (by rfl) _ _ _ (by rfl) W6.heap.size 5 i0 (.int .u8 0) 1 1 Try.underlying52 hi hz0 hz1 hz2 rfl (by decide) (.slice ao (4 * j) co) (4 * j) (byteC ((u.list.take j).flatMap be4)) (by rfl) (drewO (World.ownsRow.alloc HOB.out.1 _)) ⟨wr.heap.size, 0, none⟩ 4 4 [.int .u8 (b0 : Int), .int .u8 (b1 : Int), .int .u8 (b2 : Int), .int .u8 (b3 : Int)] (by rfl) (by rfl) (sha_cells_new wr _ _) (by intro x hx; simp only [List.mem_cons, List.not_mem_nil, or_false] at hx; rcases hx with rfl | rfl | rfl | rfl <;> rfl) (by decide) (by unfold maxLen; omega) (by omega) (by have := HOB.out.2.size; simp; omega) (wr.heap.size + 1) (by simp) ?_; intro gg cap w7 hown1 hgrow hat hlt'; have hB1 : Below W6.heap.size W6 w7 := ((HOB.out.2.alloc HOB.out.2.size _).drew).grown hgrow (Nat.le_trans HOB.out.2.size (by simp)) (fun q hq => (World.ownsRow.lt HOB.out.1 q hq).1); have d0 := (hB1.cell (p := ⟨gv, j, none⟩) HGV.out).trans GY.out))
                  all_goals
                    have hO4 : w7.ownsRow W6.heap.size 5 1 (.slice (some ⟨gg, 0, none⟩) (4 * j + 4) cap) (4 * (j + 1)) (byteC ((u.list.take (j + 1)).flatMap be4)) := by
                      rw [HY.out]; exact hown1
                    have HF := Lib.hid (And.intro hO4 hB1)
                    clear d0 hown1 hgrow hat hlt' hO4 hB1 HOB GY HY cy a1 a2 a3 z0 z1 z2 z3 z4 z5 z6 z7
                    go_wp2
                    exact ⟨⟨j + 1, by go_num, by omega, HF.out.1, HF.out.2⟩, by simp [intOf]; omega⟩
                · have hj8 : j = 8 := by omega
                  subst hj8
                  have hcv : (convert 52 9 (.slice ao (4 * 8) co)).run Try.prog wr = .ok (.string U) wr := by
                    rw [HV.out.2.2.2]
                    exact owns_bytes_str (outV u) Try.underlying52 Try.underlying5 Try.underlying9 hO (by omega)
                  have HF := Lib.hid (HB6.out.1.trans (hB.mono HB6.out.1.size))
                  clear hO hB
                  go_wp2
                  go_ret
                  exact ⟨rfl, HF.out⟩
end Go.Proofs.Ytjahdladcijhoaa
