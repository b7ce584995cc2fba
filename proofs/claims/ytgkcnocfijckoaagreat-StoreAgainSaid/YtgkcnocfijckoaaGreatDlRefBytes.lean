/- A delta's bytes: the reference's Bytes. Conditions: as named in each theorem. -/
import Derived.Test.YtgkcnocfijckoaaGreatDlRun
import Derived.Test.YtgkcnocfijckoaaGreatCodeNum
import Derived.Test.YtgkcnocfijckoaaGreatDlRights
import Derived.Deep.RegionHeld3
namespace Go.Proofs.YtgkcnocfijckoaaGreat
open Go.RowKit Sg
set_option linter.unusedVariables false
set_option linter.unusedSimpArgs false
def stL (x : St) : List UInt8 := if x.text.size = 0 then numL (2 * x.len.toNat + 1) ++ numL x.pos.toNat else numL (2 * x.text.size) ++ x.text.data.toList
def headL (d : Dl) : List UInt8 := d.basis.data.toList ++ d.mark.data.toList ++ numL d.size.toNat ++ numL d.steps.length
def bytesD (d : Dl) : List UInt8 := headL d ++ d.steps.flatMap stL
open Classical in
noncomputable def bytesR (d : Dl) : ByteArray × Int := if RightP d then (⟨(bytesD d).toArray⟩, 0) else (ByteArray.empty, 1)
theorem bytesR_yes {d : Dl} (h : RightP d) : bytesR d = (⟨(bytesD d).toArray⟩, 0) := by unfold bytesR; rw [if_pos h]
theorem bytesR_no {d : Dl} (h : ¬ RightP d) : bytesR d = (ByteArray.empty, 1) := by unfold bytesR; rw [if_neg h]
theorem stL_text {x : St} (h : x.text.size ≠ 0) : stL x = numL (2 * x.text.size) ++ x.text.data.toList := by unfold stL; rw [if_neg h]
theorem stL_copy {x : St} (h : x.text.size = 0) : stL x = numL (2 * x.len.toNat + 1) ++ numL x.pos.toNat := by unfold stL; rw [if_pos h]
theorem stL_len {x : St} (h : rightS x) : (stL x).length ≤ 4200 := by
  obtain ⟨r1, r2, r3, r4, r5⟩ := rightS_pos h
  by_cases ht : x.text.size = 0
  · rw [stL_copy ht, List.length_append]
    have a := numL_le9 (2 * x.len.toNat + 1) (by omega)
    have b := numL_le9 x.pos.toNat (by omega)
    omega
  · rw [stL_text ht, List.length_append, bs_len]
    have a := numL_le9 (2 * x.text.size) (by omega)
    omega
theorem stFlat_len {l : List St} (h : ∀ x ∈ l, rightS x) : (l.flatMap stL).length ≤ 4200 * l.length := by
  induction l with
  | nil => exact Nat.zero_le _
  | cons x l ih =>
    have a := ih (fun y hy => h y (by simp [hy]))
    have b := stL_len (h x (by simp))
    rw [List.flatMap_cons, List.length_append, List.length_cons]
    omega
theorem stFlat_take (l : List St) (k : Nat) (hk : k < l.length) : (l.take (k + 1)).flatMap stL = (l.take k).flatMap stL ++ stL l[k] := by
  rw [List.take_succ_eq_append_getElem hk, List.flatMap_append]; simp
theorem head_len {d : Dl} (h : RightP d) : (headL d).length ≤ 100 := by
  obtain ⟨h1, h2, h3, h4, h5, h6⟩ := h
  have hs := sum2_len h5
  have a := numL_le9 d.size.toNat (by omega)
  have b := numL_le9 d.steps.length (by omega)
  unfold headL
  rw [List.length_append, List.length_append, List.length_append, bs_len, bs_len]
  omega
theorem dnum_any (B b : Nat) (l : List UInt8) (N : Nat) (w : World) (hN : N ≤ 4611686018427387903) (h : Bld B b l w) (hlen : l.length ≤ 100000000000) (hBw : B ≤ w.heap.size) :
    Calls Tryz.prog 54 #[.int .i64 N, .pointer (some ⟨b, 0, none⟩)] w fun e w' => e = .returned (.tuple #[]) ∧ Bld B b (l ++ numL N) w' ∧ Below B w w' ∧ (∀ p cs t, Blk w p cs t → p ≠ b → t ≠ 5 → Blk w' p cs t) := by
  have h9 : (numBs N).size ≤ 9 := by rw [numBs_size]; exact numL_le9 N hN
  have HH := Lib.hid h
  clear h
  go_enter Tryz.func54, Tryz.ntmps54
  go_wp2_with fail
  refine (num_any N w hN).mono ?_
  rintro e w1 ⟨rfl, hb1⟩
  have HB1 := Lib.hid hb1
  have HH1 := Lib.hid (HH.out.next hb1)
  have hBw1 : B ≤ w1.heap.size := Nat.le_trans hBw hb1.size
  clear hb1
  go_wp2_with fail
  refine (write_any B b l (numBs N) w1 HH1.out (by omega) hBw1).mono ?_
  rintro e w2 ⟨rfl, h2, hb2, ho⟩
  have HF := Lib.hid (And.intro h2 (And.intro ((HB1.out.mono hBw).trans hb2) (fun p cs t (hp : Blk w p cs t) (hpb : p ≠ b) (ht : t ≠ 5) => (hp.below HB1.out hp.lt).others ho hpb ht)))
  clear h2 hb2 ho
  go_wp2
  go_end0
  exact ⟨rfl, HF.out.1, HF.out.2.1, HF.out.2.2⟩
set_option maxRecDepth 100000 in
set_option maxHeartbeats 4000000 in
theorem dlBytes_any (w : World) (b m : ByteArray) (s : Int) (ao : Option Addr) (n cap : Nat) (l : List St) (hs : (Lit.int .i64 s).wf = true) (hbs : b.size ≤ maxLen) (hms : m.size ≤ maxLen) (hR : Rs w ao n cap 3 l St.c) (hok : ∀ x ∈ l, x.ok) :
    Calls Tryz.prog 23 #[.agg #[.string b, .string m, .int .i64 s, .slice ao n cap]] w fun e w' => e = .returned (.tuple #[.string (bytesR ⟨b, m, s, l⟩).1, .int .i64 (bytesR ⟨b, m, s, l⟩).2]) ∧ Below w.heap.size w w' := by
  have hstz := stepZ_run
  have hlen : l.length = n := hR.2.2.1
  obtain ⟨V1, hV1⟩ : ∃ V, V = w.alloc (Obj.cells #[.string b, .string m, .int .i64 s, .slice ao n cap] 55) := ⟨_, rfl⟩
  obtain ⟨p1, hp1⟩ : ∃ q, q = w.heap.size := ⟨_, rfl⟩
  have hG : Blk V1 p1 [.string b, .string m, .int .i64 s, .slice ao n cap] 55 := by rw [hV1, hp1]; exact Blk.new _ _ _
  have hB1 : Below w.heap.size w V1 := by rw [hV1]; exact below_alloc _ _
  obtain ⟨R, hRR⟩ : ∃ R, R = bytesR ⟨b, m, s, l⟩ := ⟨_, rfl⟩
  have HDR := Lib.hid (deltaRight_any V1 b m s ao n cap l hs hbs hms (hR.next hB1) hok)
  have q0 := hG.cell (i := 0) rfl
  have q1 := hG.cell (i := 1) rfl
  have q2 := hG.cell (i := 2) rfl
  have q3 := hG.cell (i := 3) rfl
  have HRR := Lib.hid hRR
  have HR := Lib.hid hR
  have HOK := Lib.hid hok
  have HLN := Lib.hid hlen
  have HV1 := Lib.hid hV1
  have HP1 := Lib.hid hp1
  have HGB := Lib.hid (And.intro hG hB1)
  rw [← hRR]
  clear hRR hR hok hlen hV1 hp1 hG hB1 hbs hms hs
  go_enter Tryz.func23, Tryz.ntmps23
  go_upto_region 1 with fail
  rw [← HP1.out, ← HV1.out]
  go_wp2_with fail
  refine HDR.out.mono ?_
  rintro e w2 ⟨⟨r, rfl, hr⟩, hb2⟩
  cases r with
  | false =>
    have HN : Hid (R = (ByteArray.empty, 1)) := Lib.hid (by rw [HRR.out]; exact bytesR_no (fun h => by have := hr.2 h; cases this))
    have HB := Lib.hid (bl_nx HGB.out.2 hb2)
    clear hr hb2 q0 q1 q2 q3
    go_wp2
    go_ret2
    rw [HN.out]
    exact ⟨rfl, HB.out⟩
  | true =>
    have hrp := hr.1 rfl
    have HN : Hid (R = (⟨(bytesD ⟨b, m, s, l⟩).toArray⟩, 0)) := Lib.hid (by rw [HRR.out]; exact bytesR_yes hrp)
    have HL0 := head_len hrp
    obtain ⟨r1, r2, r3, r4, r5, r6⟩ := hrp
    simp only at r1 r2 r3 r4 r5 r6
    obtain ⟨Z, rfl⟩ : ∃ Z : Nat, s = Z := ⟨s.toNat, by omega⟩
    have hZ : Z ≤ 524288 := by omega
    have hn5 : n ≤ 524288 := by have a := sum2_len r5; have := HLN.out; omega
    have hbm : (b ++ m).size = 64 := by rw [ByteArray.size_append, r1, r2]
    have hadd : ¬ (9223372036854775807 : Int) < (b.size : Int) + m.size := by omega
    have HR5 := Lib.hid r5
    have HBM := Lib.hid hbm
    have hG2 := HGB.out.1.below hb2 HGB.out.1.lt
    have HB2 := Lib.hid (bl_nx HGB.out.2 hb2)
    obtain ⟨V3, hV3⟩ : ∃ V, V = w2.alloc (Obj.cells #[.pointer none, .slice none 0 0] 100) := ⟨_, rfl⟩
    obtain ⟨p3, hp3⟩ : ∃ q, q = w2.heap.size := ⟨_, rfl⟩
    have hb3 : Below w2.heap.size w2 V3 := by rw [hV3]; exact below_alloc _ _
    have hBl : Bld p3 p3 [] V3 := by rw [hV3, hp3]; exact Bld.fresh w2
    have hG3 := hG2.below hb3 hG2.lt
    have hp13 : p1 < p3 := by rw [hp3]; exact hG2.lt
    have HB3 := Lib.hid (bl_nx HB2.out hb3)
    have x0 := hG3.cell (i := 0) rfl
    have x1 := hG3.cell (i := 1) rfl
    have x2 := hG3.cell (i := 2) rfl
    have x3 := hG3.cell (i := 3) rfl
    have hp3V : p3 ≤ V3.heap.size := Nat.le_of_lt hBl.lt
    have HWR := Lib.hid (write_any p3 p3 [] (b ++ m) V3 hBl (by rw [hbm]; decide) hp3V)
    have HG3 := Lib.hid hG3
    have HP3 := Lib.hid hp3
    have HV3 := Lib.hid hV3
    have HWP : Hid (w.heap.size ≤ p3) := Lib.hid (by rw [HP3.out]; exact HB2.out.size)
    clear hr hb2 q0 q1 q2 q3 r1 r2 r5 r6 hbm hG2 hb3 hBl hG3 hp3 hV3 r3 r4
    go_upto_region 5 with fail
    rw [← HP3.out, ← HV3.out]
    go_wp2_with fail
    refine HWR.out.mono ?_
    rintro e w4 ⟨rfl, hBl4, hb4, ho4⟩
    rw [List.nil_append] at hBl4
    have hG4 := HG3.out.others ho4 (by omega) (by decide)
    have HB4 := Lib.hid (HB3.out.trans (hb4.mono HWP.out))
    have hl4 : (b ++ m).data.toList.length = 64 := by rw [bs_len]; exact HBM.out
    have HBB : Hid ((b ++ m).data.toList = b.data.toList ++ m.data.toList) := Lib.hid (by simp [ByteArray.data_append])
    obtain ⟨L0, hL0⟩ : ∃ L0, L0 = (b ++ m).data.toList := ⟨_, rfl⟩
    rw [← hL0] at hBl4 hl4 HBB
    have HN4 := Lib.hid (dnum_any p3 p3 L0 Z w4 (by omega) hBl4 (by omega) (Nat.le_of_lt hBl4.lt))
    have x2 := hG4.cell (i := 2) rfl
    have HG4 := Lib.hid hG4
    clear hBl4 hb4 ho4 x0 x1 x3 hG4 HWR hL0 HG3 HB3
    go_wp2_with fail
    refine HN4.out.mono ?_
    rintro e w5 ⟨rfl, hBl5, hb5, ho5⟩
    have hG5 := ho5 _ _ _ HG4.out (by omega) (by decide)
    have HB5 := Lib.hid (HB4.out.trans (hb5.mono HWP.out))
    have h9 := numL_le9 Z (by omega)
    have HN5 := Lib.hid (dnum_any p3 p3 _ n w5 (by omega) hBl5 (by rw [List.length_append]; omega) (Nat.le_of_lt hBl5.lt))
    have x3 := hG5.cell (i := 3) rfl
    have HG5 := Lib.hid hG5
    clear hBl5 hb5 ho5 x2 hG5 HN4 HG4 HB4 h9
    go_wp2_with fail
    refine HN5.out.mono ?_
    rintro e w6 ⟨rfl, hBl6, hb6, ho6⟩
    have hG6 := ho6 _ _ _ HG5.out (by omega) (by decide)
    have HB6 := Lib.hid (HB5.out.trans (hb6.mono HWP.out))
    have HHD : Hid (L0 ++ numL Z ++ numL n = headL ⟨b, m, Z, l⟩) := Lib.hid (by rw [HBB.out, ← HLN.out]; rfl)
    rw [HHD.out] at hBl6
    obtain ⟨H0, hH0⟩ : ∃ H0, H0 = headL ⟨b, m, Z, l⟩ := ⟨_, rfl⟩
    have HH0 := Lib.hid hH0
    rw [← hH0] at hBl6 HL0
    have HBL6 := Lib.hid hBl6
    have x3 := hG6.cell (i := 3) rfl
    clear hBl6 hb6 ho6 hG6 HN5 HG5 HB5 hH0 HHD HBB hl4
    go_wp2_with fail
    go_loopw [30] (fun i wr => ∃ (k : Nat), i = .int .i64 k ∧ k ≤ n ∧ Bld p3 p3 (H0 ++ (l.take k).flatMap stL) wr ∧ Below w.heap.size w wr) (fun i _ => n - (intOf i).toNat)
    case atStart => exact ⟨0, by go_num, Nat.zero_le _, by simpa using HBL6.out, HB6.out⟩
    case round =>
      obtain ⟨k, rfl, hk, hBl, hB⟩ := hrel
      have hlen := HLN.out
      have hfl : ((l.take k).flatMap stL).length ≤ 4200 * k := by
        have a := stFlat_len (l := l.take k) (fun x hx => HR5.out x (List.mem_of_mem_take hx))
        rw [List.length_take] at a
        have : min k l.length = k := by omega
        rw [this] at a; exact a
      by_cases hkn : k < n
      · obtain ⟨g, off, rfl, hbw, hc⟩ := rs_s (HR.out.next hB) (by omega)
        have hks : k < l.length := by omega
        obtain ⟨c0, c1, c2⟩ := hc k hks
        have hft := stFlat_take l k hks
        have hxr := HR5.out _ (List.getElem_mem hks)
        obtain ⟨x, hx⟩ : ∃ x, x = l[k] := ⟨_, rfl⟩
        rw [← hx] at c0 c1 c2 hft hxr
        obtain ⟨p, q, t⟩ := x
        obtain ⟨r1, r2, r3, r4, r5⟩ := rightS_pos hxr
        simp only at c0 c1 c2 r1 r2 r3 r4 r5
        obtain ⟨P, rfl⟩ : ∃ P : Nat, p = P := ⟨p.toNat, by omega⟩
        obtain ⟨K, rfl⟩ : ∃ K : Nat, q = K := ⟨q.toNat, by omega⟩
        have hK : K ≤ 524288 := by omega
        have hP : P ≤ 524288 := by omega
        have i1 : (k : Int) < (n : Int) := by omega
        obtain ⟨V2, hV2⟩ : ∃ V, V = wr.alloc (Obj.cells #[.int .i64 P, .int .i64 K, .string t] 107) := ⟨_, rfl⟩
        obtain ⟨p8, hp8⟩ : ∃ q, q = wr.heap.size := ⟨_, rfl⟩
        have hX2 : Blk V2 p8 [.int .i64 P, .int .i64 K, .string t] 107 := by rw [hV2, hp8]; exact Blk.new _ _ _
        have hb2 : Below wr.heap.size wr V2 := by rw [hV2]; exact below_alloc _ _
        have hpl : p3 < p8 := by have := hBl.lt; omega
        have y0 := hX2.cell (i := 0) rfl
        have y1 := hX2.cell (i := 1) rfl
        have y2 := hX2.cell (i := 2) rfl
        have HX2 := Lib.hid hX2
        have HBL2 := Lib.hid (hBl.next hb2)
        have HB2 := Lib.hid (bl_nx hB hb2)
        have HV2 := Lib.hid hV2
        have HP8 := Lib.hid hp8
        have HFT := Lib.hid hft
        have HFL := Lib.hid hfl
        clear hx hV2 hp8 hX2 hb2 hc hB hBl hlen hks hxr hft hfl r1 r2 r3
        by_cases ht : t.size = 0
        · obtain rfl := strEmpty ht
          have HST : Hid (stL ⟨P, K, ByteArray.empty⟩ = numL (2 * K + 1) ++ numL P) := Lib.hid (stL_copy rfl)
          have HN2 := Lib.hid (dnum_any p3 p3 _ (2 * K + 1) V2 (by omega) HBL2.out (by rw [List.length_append]; have := HFL.out; omega) (Nat.le_of_lt HBL2.out.lt))
          have hmul : IntKind.i64.wrap (2 * (K : Int)) = 2 * (K : Int) := IntWalk.i64_in _ (by omega)
          have hcast : (((2 * K + 1 : Nat) : Int)) = 2 * (K : Int) + 1 := by omega
          rw [hcast] at HN2
          clear ht hcast
          go_upto_region 11 with fail
          rw [← HP8.out, ← HV2.out]
          clear c0 c1 c2
          go_wp2_with fail
          refine HN2.out.mono ?_
          rintro e w7 ⟨rfl, hBl7, hb7, ho7⟩
          have hX7 := ho7 _ _ _ HX2.out (by omega) (by decide)
          have h9 := numL_le9 (2 * K + 1) (by omega)
          have HN7 := Lib.hid (dnum_any p3 p3 _ P w7 (by omega) hBl7 (by rw [List.length_append, List.length_append]; have := HFL.out; omega) (Nat.le_of_lt hBl7.lt))
          have HB7 := Lib.hid (HB2.out.trans (hb7.mono HWP.out))
          have z0 := hX7.cell (i := 0) rfl
          clear y0 y1 y2 hBl7 hb7 ho7 hX7 h9 HN2
          go_wp2_with fail
          refine HN7.out.mono ?_
          rintro e w8 ⟨rfl, hBl8, hb8, ho8⟩
          have HB8 := Lib.hid (HB7.out.trans (hb8.mono HWP.out))
          have HBL8 : Hid (Bld p3 p3 (H0 ++ (l.take (k + 1)).flatMap stL) w8) := Lib.hid (by rw [HFT.out, HST.out, ← List.append_assoc, ← List.append_assoc]; exact hBl8)
          clear hBl8 hb8 ho8 z0
          go_wp2
          go_roundw
          case rel => exact ⟨k + 1, by go_num, by omega, HBL8.out, HB8.out⟩
          case measure => simp [intOf]; omega
        · have hne := strNe ht
          have HST : Hid (stL ⟨P, K, t⟩ = numL (2 * t.size) ++ t.data.toList) := Lib.hid (stL_text ht)
          have HN2 := Lib.hid (dnum_any p3 p3 _ (2 * t.size) V2 (by omega) HBL2.out (by rw [List.length_append]; have := HFL.out; omega) (Nat.le_of_lt HBL2.out.lt))
          have hcast : (((2 * t.size : Nat) : Int)) = 2 * (t.size : Int) := by omega
          rw [hcast] at HN2
          clear ht hcast
          go_upto_region 11 with fail
          rw [← HP8.out, ← HV2.out]
          clear c0 c1 c2
          go_wp2_with fail
          refine HN2.out.mono ?_
          rintro e w7 ⟨rfl, hBl7, hb7, ho7⟩
          have hX7 := ho7 _ _ _ HX2.out (by omega) (by decide)
          have h9 := numL_le9 (2 * t.size) (by omega)
          have HN7 := Lib.hid (write_any p3 p3 _ t w7 hBl7 (by rw [List.length_append, List.length_append]; have := HFL.out; omega) (Nat.le_of_lt hBl7.lt))
          have HB7 := Lib.hid (HB2.out.trans (hb7.mono HWP.out))
          have z2 := hX7.cell (i := 2) rfl
          clear y0 y1 y2 hBl7 hb7 ho7 hX7 h9 HN2
          go_wp2_with fail
          refine HN7.out.mono ?_
          rintro e w8 ⟨rfl, hBl8, hb8, ho8⟩
          have HB8 := Lib.hid (HB7.out.trans (hb8.mono HWP.out))
          have HBL8 : Hid (Bld p3 p3 (H0 ++ (l.take (k + 1)).flatMap stL) w8) := Lib.hid (by rw [HFT.out, HST.out, ← List.append_assoc, ← List.append_assoc]; exact hBl8)
          clear hBl8 hb8 ho8 z2
          go_wp2
          go_roundw
          case rel => exact ⟨k + 1, by go_num, by omega, HBL8.out, HB8.out⟩
          case measure => simp [intOf]; omega
      · have htk : l.take k = l := List.take_of_length_le (by omega)
        rw [htk] at hBl
        have hp4 : p3 ≤ wr.heap.size := Nat.le_of_lt hBl.lt
        have HST := Lib.hid (string_any p3 p3 _ wr hBl hp4)
        have HB := Lib.hid hB
        clear hBl hB hlen hfl htk
        go_wp2_with fail
        refine HST.out.mono ?_
        rintro e w9 ⟨rfl, _, hb9, _⟩
        go_wp2
        go_ret2
        rw [HN.out]
        exact ⟨by rw [HH0.out]; rfl, HB.out.trans (hb9.mono HWP.out)⟩
end Go.Proofs.YtgkcnocfijckoaaGreat
namespace Go.Proofs.YtgkcnocfijckoaaGreat
open Go.RowKit Sg
set_option linter.unusedVariables false
set_option linter.unusedSimpArgs false
theorem ba_eq {a : ByteArray} {l : List UInt8} (h : a.data.toList = l) : (⟨l.toArray⟩ : ByteArray) = a := by rw [← h]
end Go.Proofs.YtgkcnocfijckoaaGreat
