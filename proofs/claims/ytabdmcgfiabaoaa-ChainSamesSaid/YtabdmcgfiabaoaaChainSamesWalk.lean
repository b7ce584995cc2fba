/- ChainSames: the walk. Conditions: none. -/
import Derived.Test.YtabdmcgfiabaoaaChSame
import Derived.Test.YtabdmcgfiabaoaaDlLaw
import Derived.Deep.RegionHeld3
namespace Go.Proofs.Ytabdmcgfiabaoaa
open Go.RowKit Sg
set_option linter.unusedVariables false
set_option linter.unusedSimpArgs false
set_option maxRecDepth 100000 in
set_option maxHeartbeats 4000000 in
theorem chainSames_walk (w : World) (s0 : ByteArray) (hs0 : s0.size ≤ 140737488351232) (t0 : ByteArray) (ht0 : t0.size ≤ 140737488351232) (block : Int) (wb : (Lit.int .i64 block).wf = true) (mk : ByteArray) (hmk : mk.size ≤ 140737488351232) (z : Int) (wz : (Lit.int .i64 z).wf = true) :
    Calls Try.prog 9 #[.string s0, .string t0, .int .i64 block, .string mk, .int .i64 z] w fun e w' => e = .returned (.bool true) ∧ Below w.heap.size w w' := by
  have hdz := dlZ_run
  obtain ⟨V1, hV1⟩ : ∃ V, V = w.alloc (Obj.cells #[.string s0, .string t0] 9) := ⟨_, rfl⟩
  have hb1 : Below w.heap.size w V1 := by rw [hV1]; exact below_alloc _ _
  have hR0 : Rs V1 (some ⟨w.heap.size, 0, none⟩) 2 2 1 [s0, t0] (fun x => [.string x]) := by
    have hG : Blk V1 w.heap.size [.string s0, .string t0] 9 := by rw [hV1]; exact Blk.new _ _ _
    refine ⟨Nat.le_refl _, by decide, rfl, fun _ => ⟨w.heap.size, 0, rfl, hG.lt, fun i hi j v hj => ?_⟩⟩
    match i, hi with
    | 0, _ =>
      match j, hj with
      | 0, hj => simp at hj; subst hj; exact hG.cell (i := 0) rfl
      | j + 1, hj => simp at hj
    | 1, _ =>
      match j, hj with
      | 0, hj => simp at hj; subst hj; exact hG.cell (i := 1) rfl
      | j + 1, hj => simp at hj
  have HFW := Lib.hid (few_any V1 (some ⟨w.heap.size, 0, none⟩) 2 2 [s0, t0] hR0 (by intro x hx; simp only [List.mem_cons, List.not_mem_nil, or_false] at hx; rcases hx with rfl | rfl <;> (unfold maxLen; omega)))
  have HV1 := Lib.hid hV1
  have HB1 := Lib.hid hb1
  obtain ⟨a, ha⟩ : ∃ a, a = cut1000 s0 := ⟨_, rfl⟩
  obtain ⟨b, hb⟩ : ∃ a, a = cut1000 t0 := ⟨_, rfl⟩
  have has : a.size ≤ 1000 := by rw [ha]; exact cut1000_size _
  have hbs : b.size ≤ 1000 := by rw [hb]; exact cut1000_size _
  rw [show fewL [s0, t0] = [a, b] by rw [ha, hb]; rfl] at HFW
  clear hV1 hb1 hR0 ha hb
  have FIN : Hid (∀ W, Below w.heap.size w W → Calls Try.prog 12 #[] W fun e w' => e = .returned (.bool true) ∧ Below w.heap.size w w') := Lib.hid (fun W hW => (chAwake_any W).mono (fun e w' ⟨h1, h2⟩ => ⟨h1, bl_nx hW h2⟩))
  go_enter Try.func9, Try.ntmps9
  go_wp2_with fail
  rw [← HV1.out]
  refine HFW.out.mono ?_
  rintro e w1 ⟨v1, rfl, hT, hB1⟩
  obtain ⟨a1, k1, rfl⟩ := slice_of hT
  have HT := Lib.hid (And.intro (owns_mono hT HB1.out.size : RowS w1 w.heap.size (.slice a1 2 k1) [a, b]) (bl_nx HB1.out hB1))
  have HSM := Lib.hid (fun W => sameC_any W mk z wz (by unfold maxLen; omega))
  clear hT hB1 HFW
  -- GENERATED
  go_upto_region 2 with fail
  go_cut [12, 13] (fun v12 e13 wy => SamV w wy v12 e13 mk z ∧ RowS wy w.heap.size (.slice a1 2 k1) [a, b] ∧ Below w.heap.size w wy)
  case first =>
    go_wp2_with fail
    refine (HSM.out w1).mono ?_
    rintro e w2 ⟨hb2, ⟨hok, a2, k2, rfl, hO2⟩ | ⟨hno, rfl⟩⟩
    · obtain ⟨Y, hY⟩ : ∃ Y, Y = w2.alloc (Obj.cells #[.string mk, .string mk, .int .i64 z, .slice a2 (sameL z.toNat).length k2] 25) := ⟨_, rfl⟩
      have hbY : Below w1.heap.size w1 Y := by rw [hY]; exact bl_nx hb2 (below_alloc _ _)
      have hv : VarD w Y (.pointer (some ⟨w2.heap.size, 0, none⟩)) ⟨mk, mk, z, sameL z.toNat⟩ := by rw [hY]; exact VarD.new (d := ⟨mk, mk, z, sameL z.toNat⟩) (owns_mono hO2 HT.out.2.size)
      have HF : Hid (SamV w Y (.pointer (some ⟨w2.heap.size, 0, none⟩)) (.int .i64 0) mk z ∧ RowS Y w.heap.size (.slice a1 2 k1) [a, b] ∧ Below w.heap.size w Y) := Lib.hid ⟨.inl ⟨hok, hv, rfl⟩, RowS.nextB HT.out.1 hbY, bl_nx HT.out.2 hbY⟩
      have HY := Lib.hid hY
      clear hY hbY hv hb2 hO2 hok
      go_wp2
      rw [← HY.out]
      go_meet
      exact HF.out
    · obtain ⟨Y, hY⟩ : ∃ Y, Y = w2.alloc (Obj.cells #[.string ByteArray.empty, .string ByteArray.empty, .int .i64 0, .slice none 0 0] 25) := ⟨_, rfl⟩
      have hbY : Below w1.heap.size w1 Y := by rw [hY]; exact bl_nx hb2 (below_alloc _ _)
      have HF : Hid (SamV w Y (.pointer (some ⟨w2.heap.size, 0, none⟩)) (.int .i64 1) mk z ∧ RowS Y w.heap.size (.slice a1 2 k1) [a, b] ∧ Below w.heap.size w Y) := Lib.hid ⟨.inr ⟨hno, rfl⟩, RowS.nextB HT.out.1 hbY, bl_nx HT.out.2 hbY⟩
      have HY := Lib.hid hY
      clear hY hbY hb2 hno
      go_wp2
      rw [← HY.out]
      go_meet
      exact HF.out
  case rest =>
    obtain ⟨hsv, hT, hbx⟩ := hcut
    obtain ⟨wx, rfl⟩ : ∃ x : World, x = wc := ⟨_, rfl⟩
    have HX := Lib.hid (And.intro hT hbx)
    clear hT hbx HT HSM
    go_upto_region 3 with fail
    go_cut [57] (fun c wy => c = .bool false ∧ RowS wy w.heap.size (.slice a1 2 k1) [a, b] ∧ Below w.heap.size w wy)
    case first =>
      rcases hsv with ⟨hok, ⟨q, a2, k2, rfl, hG, hO⟩, rfl⟩ | ⟨hno, rfl⟩
      · obtain ⟨h32, hz0, hz1⟩ := hok
        have e1 : ((mk.size : Int) == 32) = true := by rw [h32]; rfl
        have e2 : decide ((0 : Int) ≤ z) = true := decide_eq_true hz0
        have e3 : decide (z ≤ 524288) = true := decide_eq_true hz1
        have c0 := hG.cell (i := 0) rfl
        have c1 := hG.cell (i := 1) rfl
        have c2 := hG.cell (i := 2) rfl
        have c3 := hG.cell (i := 3) rfl
        have hok2 : ∀ x ∈ sameL z.toNat, x.ok := by
          intro x hx
          unfold sameL at hx
          split at hx
          · cases hx
          · obtain rfl := List.mem_singleton.1 hx
            exact ⟨wfI _ (by simp only; omega) (by simp only; omega), wfI _ (by simp only; omega) (by simp only; omega), by show (0 : Nat) ≤ maxLen; exact Nat.zero_le _⟩
        have HRI := Lib.hid (deltaRight_any wx mk mk z a2 (sameL z.toNat).length k2 (sameL z.toNat) wz (by unfold maxLen; omega) (by unfold maxLen; omega) (Own.rs rfl hO) hok2)
        have HY : Hid (RightP ⟨mk, mk, z, sameL z.toNat⟩) := Lib.hid (rightP_same.2 ⟨h32, hz0, hz1⟩)
        clear hok2 hG hO
        go_wp2_with fail
        refine HRI.out.mono ?_
        rintro e w5 ⟨⟨r, rfl, hr⟩, hb5⟩
        obtain rfl : r = true := hr.2 HY.out
        have HF : Hid (RowS w5 w.heap.size (.slice a1 2 k1) [a, b] ∧ Below w.heap.size w w5) := Lib.hid ⟨RowS.nextB HX.out.1 hb5, bl_nx HX.out.2 hb5⟩
        clear hr hb5 c0 c1 c2 c3 HRI
        go_wp2
        go_meet
        exact ⟨rfl, HF.out.1, HF.out.2⟩
      · by_cases h32 : (mk.size : Int) = 32
        · have e1 : ((mk.size : Int) == 32) = true := by rw [h32]; rfl
          by_cases hz0 : 0 ≤ z
          · have e2 : decide ((0 : Int) ≤ z) = true := decide_eq_true hz0
            have e3 : decide (z ≤ 524288) = false := decide_eq_false (fun h => hno ⟨by omega, hz0, h⟩)
            clear hno
            go_wp2
            go_meet
            exact ⟨rfl, HX.out.1, HX.out.2⟩
          · have e2 : decide ((0 : Int) ≤ z) = false := decide_eq_false hz0
            clear hno
            go_wp2
            go_meet
            exact ⟨rfl, HX.out.1, HX.out.2⟩
        · have e1 : ((mk.size : Int) == 32) = false := by simpa using h32
          clear hno
          go_wp2
          go_meet
          exact ⟨rfl, HX.out.1, HX.out.2⟩
    case rest =>
      obtain ⟨rfl, hT, hbx⟩ := hcut
      obtain ⟨wx, rfl⟩ : ∃ x : World, x = wc := ⟨_, rfl⟩
      have HX := Lib.hid (And.intro hT hbx)
      clear hT hbx hsv
      obtain ⟨g1, off1, rfl, hg1, hc1⟩ := (RowS.rs HX.out.1 rfl).cell1 (by omega)
      have cA : wx.cell? ⟨g1, off1, none⟩ = some (.string a) := hc1 0 (by simp) _ rfl
      have cB : wx.cell? ⟨g1, off1 + 1, none⟩ = some (.string b) := hc1 1 (by simp) _ rfl
      clear hc1
      go_wp2_with fail
      refine (ideal_any _).mono ?_
      rintro e w2 ⟨rfl, hI2, hbI⟩
      have hw2 : wx.heap.size + 2 ≤ w2.heap.size := by have := hI2.2.2.2.2.1.1; omega
      have HBI := Lib.hid hbI
      have dA := (hbI.cell (p := ⟨g1, off1, none⟩) hg1).trans cA
      have dB := (hbI.cell (p := ⟨g1, off1 + 1, none⟩) hg1).trans cB
      have nqg : w2.heap.size ≠ g1 := by omega
      have hg2 : g1 < w2.heap.size := by omega
      have HAL : Hid (∀ x : Obj, Below w2.heap.size w2 (w2.drew.alloc x)) := Lib.hid (fun x => (Below.refl _ _).drew.trans ((below_alloc w2.drew x).mono (Nat.le_refl _)))
      by_cases hf : 16 ≤ block ∧ block ≤ 1024
      case neg =>
        have HOB : Hid (∀ W, Calls Try.prog 28 #[.pointer (some ⟨wx.heap.size + 1, 0, none⟩), .string a, .string b, .int .i64 block] W fun e w' => e = .returned (.tuple #[.agg #[.string ByteArray.empty, .string ByteArray.empty, .int .i64 0, .slice none 0 0], .int .i64 1]) ∧ Below W.heap.size W w') := Lib.hid (fun W => of_bad W _ a b block wb hf)
        clear hf hI2 cA cB hbI
        go_upto_region 6 with fail
        go_region_held3 (fun w' => w'.cell? ⟨g1, off1, none⟩ = some (.string a) ∧ w'.cell? ⟨g1, off1 + 1, none⟩ = some (.string b))
          (first | exact ⟨dA, dB⟩ | go_keep)
          (first
            | (go_at_call 28; refine (HOB.out w2.drew).mono ?_; rintro e w5 ⟨rfl, hb5⟩; replace dA := (hb5.cell (p := ⟨g1, off1, none⟩) (by exact hg2)).trans dA; replace dB := (hb5.cell (p := ⟨g1, off1 + 1, none⟩) (by exact hg2)).trans dB)
            | (go_at_call 28; refine (HOB.out (w2.drew.alloc _)).mono ?_; rintro e w5 ⟨rfl, hb5⟩; replace dA := (hb5.cell (p := ⟨g1, off1, none⟩) (by exact Nat.lt_of_lt_of_le hg2 (HAL.out _).size)).trans (((HAL.out _).cell (p := ⟨g1, off1, none⟩) hg2).trans dA); replace dB := (hb5.cell (p := ⟨g1, off1 + 1, none⟩) (by exact Nat.lt_of_lt_of_le hg2 (HAL.out _).size)).trans (((HAL.out _).cell (p := ⟨g1, off1 + 1, none⟩) hg2).trans dB); have hQ5 : Blk w5 w2.heap.size [.string ByteArray.empty, .string ByteArray.empty, .int .i64 0, .slice none 0 0] 25 := (Blk.new w2.drew [.string ByteArray.empty, .string ByteArray.empty, .int .i64 0, .slice none 0 0] 25).below hb5 (Blk.lt (Blk.new w2.drew [.string ByteArray.empty, .string ByteArray.empty, .int .i64 0, .slice none 0 0] 25)); have u0 := hQ5.cell (i := 0) rfl; have u1 := hQ5.cell (i := 1) rfl; have u2 := hQ5.cell (i := 2) rfl; have u3 := hQ5.cell (i := 3) rfl; have v0 := hQ5.frozen 0; have v1 := hQ5.frozen 1; have v2 := hQ5.frozen 2; have v3 := hQ5.frozen 3))
        · obtain ⟨Y, hY⟩ : ∃ Y, Y = w5.alloc (Obj.cells #[.string ByteArray.empty, .string ByteArray.empty, .int .i64 0, .slice none 0 0] 25) := ⟨_, rfl⟩
          have HBY : Hid (Below w.heap.size w Y) := Lib.hid (by rw [hY]; exact bl_nx (bl_nx HX.out.2 HBI.out) (bl_nx (bl_nx (bl_drew (Below.refl _ w2)) hb5) (below_alloc _ _)))
          rw [← hY]
          clear hY hb5 dA dB HOB
          go_wp2_with fail
          refine (FIN.out _ HBY.out).mono ?_
          rintro e w7 ⟨rfl, hb7⟩
          go_wp2
          go_ret
          exact ⟨rfl, hb7⟩
        · obtain ⟨Y, hY⟩ : ∃ Y, Y = (((w5.setCell ⟨w2.heap.size, 0, none⟩ (.string ByteArray.empty)).setCell ⟨w2.heap.size, 1, none⟩ (.string ByteArray.empty)).setCell ⟨w2.heap.size, 2, none⟩ (.int .i64 0)).setCell ⟨w2.heap.size, 3, none⟩ (.slice none 0 0) := ⟨_, rfl⟩
          have HBY : Hid (Below w.heap.size w Y) := Lib.hid (by rw [hY]; exact bl_nx (bl_nx HX.out.2 HBI.out) (below_set4 (bl_nx (HAL.out _) hb5) (Nat.le_refl _) _ _ _ _))
          rw [← hY]
          clear hY hb5 dA dB HOB u0 u1 u2 u3 v0 v1 v2 v3 hQ5
          go_wp2_with fail
          refine (FIN.out _ HBY.out).mono ?_
          rintro e w7 ⟨rfl, hb7⟩
          go_wp2
          go_ret
          exact ⟨rfl, hb7⟩
      case pos =>
        obtain ⟨B, rfl⟩ : ∃ B : Nat, block = B := ⟨block.toNat, by omega⟩
        obtain ⟨L, hL⟩ : ∃ L, L = stepsI a b B := ⟨_, rfl⟩
        have KM : ∀ M0 M1 : ByteArray, M0.size = 32 → M1.size = 32 → Mks a b ⟨M0, M1, (b.size : Int), L⟩ := fun M0 M1 h0 h1 => by
          rw [hL]
          obtain ⟨p1, p2, p3, p4, p5⟩ := stepsI_right a b B 1 1 (by omega) (by omega) (by omega)
          obtain ⟨q1, q2, q3, q4⟩ := stepsI_made a b B (by omega) (by omega)
          exact ⟨⟨h0, h1, p1.2.2.1, p1.2.2.2.1, p1.2.2.2.2.1, p1.2.2.2.2.2⟩, rfl, q1, q2, q3⟩
        have HKM := Lib.hid KM
        have HLO : Hid (∀ x ∈ L, x.ok) := Lib.hid (by rw [hL]; exact (stepsI_right a b B 1 1 (by omega) (by omega) (by omega)).2.2.2.2)
        have HOF : Hid (∀ W, Below w2.heap.size w2 W → Calls Try.prog 28 #[.pointer (some ⟨wx.heap.size + 1, 0, none⟩), .string a, .string b, .int .i64 B] W (OfQ (wx.heap.size + 1) wx.heap.size [] a b b.size L W)) := Lib.hid (fun W hW => by
          rw [hL]
          exact of_q W (wx.heap.size + 1) wx.heap.size [] a b B (hI2.next hW) (by simp) (by omega) (by omega) (by omega) (by omega))
        have hgn : ¬ (some wx.heap.size = some g1) := fun e => by injection e with e; omega
        clear hL KM hf hI2 cA cB hbI
        go_upto_region 6 with fail
        go_cut [15, 16] (fun v15 e16 wy => OfV w wy v15 e16 b L ∧ RowS wy w.heap.size (.slice (some ⟨g1, off1, none⟩) 2 k1) [a, b] ∧ Below w.heap.size w wy)
        case first =>
          go_region_held3 (fun w' => w'.cell? ⟨g1, off1, none⟩ = some (.string a) ∧ w'.cell? ⟨g1, off1 + 1, none⟩ = some (.string b))
            (first | exact ⟨dA, dB⟩ | go_keep)
            (first
              | (go_at_call 28; refine (HOF.out w2.drew (bl_drew (Below.refl _ _))).mono ?_; rintro e w5 ⟨a5, n5, k5, M0, M1, S', rfl, HQ5, hk5⟩; replace dA := (hk5.cell (i := off1) (by exact hg2) hgn).trans dA; replace dB := (hk5.cell (i := off1 + 1) (by exact hg2) hgn).trans dB)
              | (go_at_call 28; refine (HOF.out (w2.drew.alloc _) (HAL.out _)).mono ?_; rintro e w5 ⟨a5, n5, k5, M0, M1, S', rfl, HQ5, hk5⟩; replace dA := (hk5.cell (i := off1) (by exact Nat.lt_of_lt_of_le hg2 (HAL.out _).size) hgn).trans (((HAL.out _).cell (p := ⟨g1, off1, none⟩) hg2).trans dA); replace dB := (hk5.cell (i := off1 + 1) (by exact Nat.lt_of_lt_of_le hg2 (HAL.out _).size) hgn).trans (((HAL.out _).cell (p := ⟨g1, off1 + 1, none⟩) hg2).trans dB); have hQ5 : Blk w5 w2.heap.size [.string ByteArray.empty, .string ByteArray.empty, .int .i64 0, .slice none 0 0] 25 := blk_kept (Blk.new w2.drew [.string ByteArray.empty, .string ByteArray.empty, .int .i64 0, .slice none 0 0] 25) hk5 (fun e => by injection e with e; have e2 : wx.heap.size = w2.heap.size := e; omega); have u0 := hQ5.cell (i := 0) rfl; have u1 := hQ5.cell (i := 1) rfl; have u2 := hQ5.cell (i := 2) rfl; have u3 := hQ5.cell (i := 3) rfl; have v0 := hQ5.frozen 0; have v1 := hQ5.frozen 1; have v2 := hQ5.frozen 2; have v3 := hQ5.frozen 3))
          · obtain ⟨x1, x2, x3, x4, _⟩ := HQ5.out
            obtain ⟨Y, hY⟩ : ∃ Y, Y = w5.alloc (Obj.cells #[.string M0, .string M1, .int .i64 b.size, .slice a5 n5 k5] 25) := ⟨_, rfl⟩
            obtain ⟨qn, hq⟩ : ∃ q, q = w5.heap.size := ⟨_, rfl⟩
            have hbY : Below wx.heap.size wx Y := by rw [hY]; exact bl_nx (below_kept (bl_nx HBI.out (bl_drew (Below.refl _ _))) (Nat.le_refl _) hk5) (below_alloc _ _)
            have hww : w.heap.size ≤ w2.drew.heap.size := Nat.le_trans HX.out.2.size (Nat.le_trans (Nat.le_add_right _ 2) hw2)
            have hvY : VarD w Y (.pointer (some ⟨qn, 0, none⟩)) ⟨M0, M1, (b.size : Int), L⟩ := by
              rw [hY, hq, x3]
              rw [x3] at x4
              exact VarD.new (d := ⟨M0, M1, (b.size : Int), L⟩) (owns_mono x4 hww)
            have hwqn : w.heap.size ≤ qn := by rw [hq]; exact Nat.le_trans hww hk5.size
            rw [← hY, ← hq]
            have HF : Hid (OfV w Y (.pointer (some ⟨qn, 0, none⟩)) (.int .i64 0) b L ∧ RowS Y w.heap.size (.slice (some ⟨g1, off1, none⟩) 2 k1) [a, b] ∧ Below w.heap.size w Y) := Lib.hid ⟨⟨M0, M1, by rw [x1]; exact numS_size _, by rw [x2]; exact numS_size _, hvY, rfl, qn, rfl, hwqn⟩, RowS.nextB HX.out.1 hbY, bl_nx HX.out.2 hbY⟩
            clear hY hq hbY hvY x1 x2 x3 x4 dA dB hk5 HQ5
            go_wp2
            go_meet
            exact HF.out
          · obtain ⟨x1, x2, x3, x4, _⟩ := HQ5.out
            obtain ⟨Y, hY⟩ : ∃ Y, Y = (((w5.setCell ⟨w2.heap.size, 0, none⟩ (.string M0)).setCell ⟨w2.heap.size, 1, none⟩ (.string M1)).setCell ⟨w2.heap.size, 2, none⟩ (.int .i64 b.size)).setCell ⟨w2.heap.size, 3, none⟩ (.slice a5 n5 k5) := ⟨_, rfl⟩
            obtain ⟨qn, hq⟩ : ∃ q, q = w2.heap.size := ⟨_, rfl⟩
            have hbY : Below wx.heap.size wx Y := by rw [hY]; exact below_set4 (below_kept (bl_nx HBI.out (HAL.out _)) (Nat.le_refl _) hk5) (by omega) _ _ _ _
            have hww : w.heap.size ≤ w2.heap.size := Nat.le_trans HX.out.2.size (Nat.le_trans (Nat.le_add_right _ 2) hw2)
            have hvY : VarD w Y (.pointer (some ⟨qn, 0, none⟩)) ⟨M0, M1, (b.size : Int), L⟩ := by
              rw [hY, hq, x3]
              rw [x3] at x4
              exact VarD.store (d := ⟨M0, M1, (b.size : Int), L⟩) hQ5 x4 (by simp) (Nat.le_trans hww (by simp))
            have hwqn : w.heap.size ≤ qn := by rw [hq]; exact hww
            rw [← hY, ← hq]
            have HF : Hid (OfV w Y (.pointer (some ⟨qn, 0, none⟩)) (.int .i64 0) b L ∧ RowS Y w.heap.size (.slice (some ⟨g1, off1, none⟩) 2 k1) [a, b] ∧ Below w.heap.size w Y) := Lib.hid ⟨⟨M0, M1, by rw [x1]; exact numS_size _, by rw [x2]; exact numS_size _, hvY, rfl, qn, rfl, hwqn⟩, RowS.nextB HX.out.1 hbY, bl_nx HX.out.2 hbY⟩
            clear hY hq hbY hvY x1 x2 x3 x4 dA dB hk5 HQ5 u0 u1 u2 u3 v0 v1 v2 v3 hQ5
            go_wp2
            go_meet
            exact HF.out
        case rest =>
          obtain ⟨⟨M0, M1, s0', s1', hv15, rfl, qq, hqq, hwq⟩, hT, hbx⟩ := hcut
          obtain ⟨q15, a15, k15, rfl, hG15, hO15⟩ := hv15
          injection hqq with hqq; injection hqq with hqq; injection hqq with hqq; subst hqq
          have HQ15 := Lib.hid hwq
          clear hwq
          obtain ⟨wy, rfl⟩ : ∃ x : World, x = wc := ⟨_, rfl⟩
          have HV15 : Hid (VarD w wy (.pointer (some ⟨q15, 0, none⟩)) ⟨M0, M1, (b.size : Int), L⟩) := Lib.hid ⟨q15, a15, k15, rfl, hG15, hO15⟩
          have HM := Lib.hid (HKM.out M0 M1 s0' s1')
          have HM32 := Lib.hid (And.intro s0' s1')
          clear HX HBI HAL HOF HKM dA dB nqg hg2 hgn hw2 hG15 hO15 s0' s1'
          have HX := Lib.hid (And.intro hT hbx)
          obtain ⟨wx, rfl⟩ : ∃ x : World, x = wy := ⟨_, rfl⟩
          clear hT hbx
          obtain ⟨LA, hLA⟩ : ∃ L, L = sameL a.size := ⟨_, rfl⟩
          obtain ⟨LB, hLB⟩ : ∃ L, L = sameL b.size := ⟨_, rfl⟩
          obtain ⟨LX, hLX⟩ : ∃ L', L' = stepsB (bytesL L) := ⟨_, rfl⟩
          have HSA : Hid (∀ Y, Below wx.heap.size wx Y → Calls Try.prog 26 #[.string M0, .int .i64 (a.size : Int)] Y (CmpQ M0 M0 (a.size : Int) LA Y)) := Lib.hid (fun Y _ => by
            refine (sameC_any Y M0 (a.size : Int) (wfI _ (by omega) (by omega)) (by rw [HM32.out.1]; decide)).mono ?_
            rintro e w' ⟨hb, ⟨_, a5, k5, rfl, hO⟩ | ⟨hno, _⟩⟩
            · rw [Int.toNat_natCast, ← hLA] at hO
              exact ⟨a5, k5, by rw [Int.toNat_natCast, ← hLA], hO, hb⟩
            · exact absurd ⟨HM32.out.1, by omega, by omega⟩ hno)
          have HSB : Hid (∀ Y, Calls Try.prog 26 #[.string M1, .int .i64 (b.size : Int)] Y (CmpQ M1 M1 (b.size : Int) LB Y)) := Lib.hid (fun Y => by
            refine (sameC_any Y M1 (b.size : Int) (wfI _ (by omega) (by omega)) (by rw [HM32.out.2]; decide)).mono ?_
            rintro e w' ⟨hb, ⟨_, a5, k5, rfl, hO⟩ | ⟨hno, _⟩⟩
            · rw [Int.toNat_natCast, ← hLB] at hO
              exact ⟨a5, k5, by rw [Int.toNat_natCast, ← hLB], hO, hb⟩
            · exact absurd ⟨HM32.out.2, by omega, by omega⟩ hno)
          have MA : Mks a a ⟨M0, M0, (a.size : Int), LA⟩ := by rw [hLA]; exact mk_same a M0 HM32.out.1 (by omega)
          have MB : Mks b b ⟨M1, M1, (b.size : Int), LB⟩ := by rw [hLB]; exact mk_same b M1 HM32.out.2 (by omega)
          have hIn : Inn a.size (bytesL L) := inn_bytes (by omega) HM.out.sh HM.out.inn
          have EA : LX = stepsB (compB LA L) := by
            rw [hLX, hLA]
            show _ = stepsB ((bytesL L).flatMap (sub (bytesL (sameL a.size))))
            rw [bytes_same, comp_same (by omega) hIn]
          have EB : LX = stepsB (compB L LB) := by
            rw [hLX, hLB]
            show _ = stepsB ((bytesL (sameL b.size)).flatMap (sub (bytesL L)))
            have h1 := HM.out.len
            simp only at h1
            rw [bytes_same, ← h1, same_comp (by omega)]
          have okX : (⟨M0, M1, (b.size : Int), L⟩ : Dl).ok := ⟨wfI _ (by simp only; omega) (by simp only; omega), by rw [HM32.out.1]; decide, by rw [HM32.out.2]; decide, HLO.out⟩
          have okS : ∀ n : Nat, n ≤ 1000 → ∀ x ∈ sameL n, x.ok := fun n hn x hx => by
            unfold sameL at hx
            split at hx
            · cases hx
            · obtain rfl := List.mem_singleton.1 hx
              exact ⟨wfI _ (by simp only; omega) (by simp only; omega), wfI _ (by simp only; omega) (by simp only; omega), by show (0 : Nat) ≤ maxLen; exact Nat.zero_le _⟩
          have okA : (⟨M0, M0, (a.size : Int), LA⟩ : Dl).ok := ⟨wfI _ (by simp only; omega) (by simp only; omega), by rw [HM32.out.1]; decide, by rw [HM32.out.1]; decide, by rw [hLA]; exact okS _ has⟩
          have okB : (⟨M1, M1, (b.size : Int), LB⟩ : Dl).ok := ⟨wfI _ (by simp only; omega) (by simp only; omega), by rw [HM32.out.2]; decide, by rw [HM32.out.2]; decide, by rw [hLB]; exact okS _ hbs⟩
          have HCU : Hid (∀ Y aa na ca ab nb cb, Rs Y aa na ca 3 LA St.c → Rs Y ab nb cb 3 L St.c → Calls Try.prog 17 #[.agg #[.string M0, .string M0, .int .i64 (a.size : Int), .slice aa na ca], .agg #[.string M0, .string M1, .int .i64 (b.size : Int), .slice ab nb cb]] Y (CmpQ M0 M1 (b.size : Int) LX Y)) := Lib.hid (fun Y aa na ca ab nb cb r1 r2 => cmp_q (compose_mks Y MA HM.out rfl (by omega) aa na ca ab nb cb r1 r2 okA okX) EA)
          have HCV : Hid (∀ Y aa na ca ab nb cb, Rs Y aa na ca 3 L St.c → Rs Y ab nb cb 3 LB St.c → Calls Try.prog 17 #[.agg #[.string M0, .string M1, .int .i64 (b.size : Int), .slice aa na ca], .agg #[.string M1, .string M1, .int .i64 (b.size : Int), .slice ab nb cb]] Y (CmpQ M0 M1 (b.size : Int) LX Y)) := Lib.hid (fun Y aa na ca ab nb cb r1 r2 => cmp_q (compose_mks Y HM.out MB rfl (by omega) aa na ca ab nb cb r1 r2 okX okB) EB)
          have HLX : Hid (LX.length ≤ 1000000 ∧ LX = stepsB (bytesL L)) := Lib.hid (by
            have h1 := (cmp_ok MA HM.out rfl (by omega) okA okX).2.2
            refine ⟨?_, hLX⟩
            rw [EA]; exact h1)
          clear hLA hLB hLX MA MB hIn EA EB okX okS okA okB
          have cA : wx.cell? ⟨g1, off1, none⟩ = some (.string a) := by
            obtain ⟨g2, off2, he, _, hc1⟩ := (RowS.rs HX.out.1 rfl).cell1 (by omega)
            injection he with he; injection he with h1 h2; subst h1; subst h2
            exact hc1 0 (by simp) _ rfl
          obtain ⟨q15x, a15, k15, hqe, hG15, hO15⟩ := HV15.out
          injection hqe with hqe; injection hqe with hqe; injection hqe with hqe; subst hqe
          have c0 := hG15.cell (i := 0) rfl
          have c1 := cA
          clear hG15 hO15 cA
          simp only at c0
          go_upto_region 9 with fail
          go_cut [17, 18] (fun v17 e18 wy => VarD w wy (.pointer (some ⟨q15, 0, none⟩)) ⟨M0, M1, (b.size : Int), L⟩ ∧ VarD w wy v17 ⟨M0, M0, (a.size : Int), LA⟩ ∧ e18 = .int .i64 0 ∧ RowS wy w.heap.size (.slice (some ⟨g1, off1, none⟩) 2 k1) [a, b] ∧ Below w.heap.size w wy)
          case first =>
            have ALLOC : ∀ x : Obj, Below wx.heap.size wx (wx.drew.alloc x) := fun x => (Below.refl _ _).drew.trans ((below_alloc wx.drew x).mono (Nat.le_refl _))
            have HAL := Lib.hid ALLOC
            clear ALLOC
            have nqq15 : wx.heap.size ≠ q15 := fun e => Nat.lt_irrefl _ (e ▸ (World.block_lt_of_cell? _ _ c0))
            have nqg1 : wx.heap.size ≠ g1 := fun e => Nat.lt_irrefl _ (e ▸ (World.block_lt_of_cell? _ _ c1))
            go_region_held3 (fun w' => w'.cell? ⟨q15, 0, none⟩ = some (.string M0) ∧ w'.cell? ⟨g1, off1, none⟩ = some (.string a))
              (first | exact ⟨c0, c1⟩ | go_keep)
              (first
                | (go_at_call 26; refine (HSA.out wx.drew (bl_drew (Below.refl _ _))).mono ?_; rintro e w5 ⟨a5, k5, rfl, hO5, hb5⟩; replace c0 := (hb5.cell (p := ⟨q15, 0, none⟩) (by exact World.block_lt_of_cell? _ _ c0)).trans c0; replace c1 := (hb5.cell (p := ⟨g1, off1, none⟩) (by exact World.block_lt_of_cell? _ _ c1)).trans c1)
                | (go_at_call 26; refine (HSA.out (wx.drew.alloc _) (HAL.out _)).mono ?_; rintro e w5 ⟨a5, k5, rfl, hO5, hb5⟩; replace c0 := (hb5.cell (p := ⟨q15, 0, none⟩) (by exact Nat.lt_of_lt_of_le (World.block_lt_of_cell? _ _ c0) (HAL.out _).size)).trans (((HAL.out _).cell (p := ⟨q15, 0, none⟩) (World.block_lt_of_cell? _ _ c0)).trans c0); replace c1 := (hb5.cell (p := ⟨g1, off1, none⟩) (by exact Nat.lt_of_lt_of_le (World.block_lt_of_cell? _ _ c1) (HAL.out _).size)).trans (((HAL.out _).cell (p := ⟨g1, off1, none⟩) (World.block_lt_of_cell? _ _ c1)).trans c1); have hQ5 : Blk w5 wx.heap.size [.string ByteArray.empty, .string ByteArray.empty, .int .i64 0, .slice none 0 0] 25 := (Blk.new wx.drew [.string ByteArray.empty, .string ByteArray.empty, .int .i64 0, .slice none 0 0] 25).below hb5 (Blk.lt (Blk.new wx.drew [.string ByteArray.empty, .string ByteArray.empty, .int .i64 0, .slice none 0 0] 25)); have u0 := hQ5.cell (i := 0) rfl; have u1 := hQ5.cell (i := 1) rfl; have u2 := hQ5.cell (i := 2) rfl; have u3 := hQ5.cell (i := 3) rfl; have v0 := hQ5.frozen 0; have v1 := hQ5.frozen 1; have v2 := hQ5.frozen 2; have v3 := hQ5.frozen 3))
            · obtain ⟨Y, hY⟩ : ∃ Y, Y = w5.alloc (Obj.cells #[.string M0, .string M0, .int .i64 (a.size : Int), .slice a5 LA.length k5] 25) := ⟨_, rfl⟩
              obtain ⟨qn, hq⟩ : ∃ q, q = w5.heap.size := ⟨_, rfl⟩
              have hbY : Below wx.heap.size wx Y := by rw [hY]; exact bl_nx (bl_nx (bl_drew (Below.refl _ wx)) hb5) (below_alloc _ _)
              have hvY : VarD w Y (.pointer (some ⟨qn, 0, none⟩)) ⟨M0, M0, (a.size : Int), LA⟩ := by rw [hY, hq]; exact VarD.new (d := ⟨M0, M0, (a.size : Int), LA⟩) (owns_mono hO5 (HX.out.2.size))
              rw [← hY, ← hq]
              have HF : Hid (VarD w Y (.pointer (some ⟨q15, 0, none⟩)) ⟨M0, M1, (b.size : Int), L⟩ ∧ VarD w Y (.pointer (some ⟨qn, 0, none⟩)) ⟨M0, M0, (a.size : Int), LA⟩ ∧ RowS Y w.heap.size (.slice (some ⟨g1, off1, none⟩) 2 k1) [a, b] ∧ Below w.heap.size w Y) := Lib.hid ⟨HV15.out.below hbY, hvY, RowS.nextB HX.out.1 hbY, bl_nx HX.out.2 hbY⟩
              clear c0 c1 hY hq hbY hvY hO5 hb5
              go_wp2
              go_meet
              exact ⟨HF.out.1, HF.out.2.1, rfl, HF.out.2.2.1, HF.out.2.2.2⟩
            · obtain ⟨Y, hY⟩ : ∃ Y, Y = (((w5.setCell ⟨wx.heap.size, 0, none⟩ (.string M0)).setCell ⟨wx.heap.size, 1, none⟩ (.string M0)).setCell ⟨wx.heap.size, 2, none⟩ (.int .i64 (a.size : Int))).setCell ⟨wx.heap.size, 3, none⟩ (.slice a5 LA.length k5) := ⟨_, rfl⟩
              obtain ⟨qn, hq⟩ : ∃ q, q = wx.heap.size := ⟨_, rfl⟩
              have hbY : Below wx.heap.size wx Y := by rw [hY]; exact below_set4 (bl_nx (HAL.out _) hb5) (Nat.le_refl _) _ _ _ _
              have hvY : VarD w Y (.pointer (some ⟨qn, 0, none⟩)) ⟨M0, M0, (a.size : Int), LA⟩ := by rw [hY, hq]; exact VarD.store (d := ⟨M0, M0, (a.size : Int), LA⟩) hQ5 hO5 (by simp) (Nat.le_trans (HX.out.2.size) (by simp))
              rw [← hY, ← hq]
              have HF : Hid (VarD w Y (.pointer (some ⟨q15, 0, none⟩)) ⟨M0, M1, (b.size : Int), L⟩ ∧ VarD w Y (.pointer (some ⟨qn, 0, none⟩)) ⟨M0, M0, (a.size : Int), LA⟩ ∧ RowS Y w.heap.size (.slice (some ⟨g1, off1, none⟩) 2 k1) [a, b] ∧ Below w.heap.size w Y) := Lib.hid ⟨HV15.out.below hbY, hvY, RowS.nextB HX.out.1 hbY, bl_nx HX.out.2 hbY⟩
              clear c0 c1 u0 u1 u2 u3 v0 v1 v2 v3 hQ5 hY hq hbY hvY hO5 hb5
              go_wp2
              go_meet
              exact ⟨HF.out.1, HF.out.2.1, rfl, HF.out.2.2.1, HF.out.2.2.2⟩
          case rest =>
            obtain ⟨hv15, hv17, rfl, hT, hbx⟩ := hcut
            obtain ⟨wy, rfl⟩ : ∃ x : World, x = wc := ⟨_, rfl⟩
            obtain ⟨q17, a17, k17, rfl, hG17, hO17⟩ := hv17
            have HV17 : Hid (VarD w wy (.pointer (some ⟨q17, 0, none⟩)) ⟨M0, M0, (a.size : Int), LA⟩) := Lib.hid ⟨q17, a17, k17, rfl, hG17, hO17⟩
            clear HX HV15 hG17 hO17
            have HV15 := Lib.hid hv15
            have HX := Lib.hid (And.intro hT hbx)
            obtain ⟨wx, rfl⟩ : ∃ x : World, x = wy := ⟨_, rfl⟩
            clear hT hbx hv15
            have cA : wx.cell? ⟨g1, off1 + 1, none⟩ = some (.string b) := by
              obtain ⟨g2, off2, he, _, hc1⟩ := (RowS.rs HX.out.1 rfl).cell1 (by omega)
              injection he with he; injection he with h1 h2; subst h1; subst h2
              exact hc1 1 (by simp) _ rfl
            obtain ⟨q15x, a15, k15, hqe, hG15, hO15⟩ := HV15.out
            injection hqe with hqe; injection hqe with hqe; injection hqe with hqe; subst hqe
            have c0 := hG15.cell (i := 1) rfl
            have c1 := cA
            have HSB2 : Hid (∀ Y, Below wx.heap.size wx Y → Calls Try.prog 26 #[.string M1, .int .i64 (b.size : Int)] Y (CmpQ M1 M1 (b.size : Int) LB Y)) := Lib.hid (fun Y _ => HSB.out Y)
            clear hG15 hO15 cA
            simp only at c0
            go_upto_region 10 with fail
            go_cut [19, 20] (fun v19 e20 wy => VarD w wy (.pointer (some ⟨q15, 0, none⟩)) ⟨M0, M1, (b.size : Int), L⟩ ∧ VarD w wy (.pointer (some ⟨q17, 0, none⟩)) ⟨M0, M0, (a.size : Int), LA⟩ ∧ VarD w wy v19 ⟨M1, M1, (b.size : Int), LB⟩ ∧ e20 = .int .i64 0 ∧ Below w.heap.size w wy)
            case first =>
              have ALLOC : ∀ x : Obj, Below wx.heap.size wx (wx.drew.alloc x) := fun x => (Below.refl _ _).drew.trans ((below_alloc wx.drew x).mono (Nat.le_refl _))
              have HAL := Lib.hid ALLOC
              clear ALLOC
              have nqq15 : wx.heap.size ≠ q15 := fun e => Nat.lt_irrefl _ (e ▸ (World.block_lt_of_cell? _ _ c0))
              have nqg1 : wx.heap.size ≠ g1 := fun e => Nat.lt_irrefl _ (e ▸ (World.block_lt_of_cell? _ _ c1))
              go_region_held3 (fun w' => w'.cell? ⟨q15, 1, none⟩ = some (.string M1) ∧ w'.cell? ⟨g1, off1 + 1, none⟩ = some (.string b))
                (first | exact ⟨c0, c1⟩ | go_keep)
                (first
                  | (go_at_call 26; refine (HSB2.out wx.drew (bl_drew (Below.refl _ _))).mono ?_; rintro e w5 ⟨a5, k5, rfl, hO5, hb5⟩; replace c0 := (hb5.cell (p := ⟨q15, 1, none⟩) (by exact World.block_lt_of_cell? _ _ c0)).trans c0; replace c1 := (hb5.cell (p := ⟨g1, off1 + 1, none⟩) (by exact World.block_lt_of_cell? _ _ c1)).trans c1)
                  | (go_at_call 26; refine (HSB2.out (wx.drew.alloc _) (HAL.out _)).mono ?_; rintro e w5 ⟨a5, k5, rfl, hO5, hb5⟩; replace c0 := (hb5.cell (p := ⟨q15, 1, none⟩) (by exact Nat.lt_of_lt_of_le (World.block_lt_of_cell? _ _ c0) (HAL.out _).size)).trans (((HAL.out _).cell (p := ⟨q15, 1, none⟩) (World.block_lt_of_cell? _ _ c0)).trans c0); replace c1 := (hb5.cell (p := ⟨g1, off1 + 1, none⟩) (by exact Nat.lt_of_lt_of_le (World.block_lt_of_cell? _ _ c1) (HAL.out _).size)).trans (((HAL.out _).cell (p := ⟨g1, off1 + 1, none⟩) (World.block_lt_of_cell? _ _ c1)).trans c1); have hQ5 : Blk w5 wx.heap.size [.string ByteArray.empty, .string ByteArray.empty, .int .i64 0, .slice none 0 0] 25 := (Blk.new wx.drew [.string ByteArray.empty, .string ByteArray.empty, .int .i64 0, .slice none 0 0] 25).below hb5 (Blk.lt (Blk.new wx.drew [.string ByteArray.empty, .string ByteArray.empty, .int .i64 0, .slice none 0 0] 25)); have u0 := hQ5.cell (i := 0) rfl; have u1 := hQ5.cell (i := 1) rfl; have u2 := hQ5.cell (i := 2) rfl; have u3 := hQ5.cell (i := 3) rfl; have v0 := hQ5.frozen 0; have v1 := hQ5.frozen 1; have v2 := hQ5.frozen 2; have v3 := hQ5.frozen 3))
              · obtain ⟨Y, hY⟩ : ∃ Y, Y = w5.alloc (Obj.cells #[.string M1, .string M1, .int .i64 (b.size : Int), .slice a5 LB.length k5] 25) := ⟨_, rfl⟩
                obtain ⟨qn, hq⟩ : ∃ q, q = w5.heap.size := ⟨_, rfl⟩
                have hbY : Below wx.heap.size wx Y := by rw [hY]; exact bl_nx (bl_nx (bl_drew (Below.refl _ wx)) hb5) (below_alloc _ _)
                have hvY : VarD w Y (.pointer (some ⟨qn, 0, none⟩)) ⟨M1, M1, (b.size : Int), LB⟩ := by rw [hY, hq]; exact VarD.new (d := ⟨M1, M1, (b.size : Int), LB⟩) (owns_mono hO5 (HX.out.2.size))
                rw [← hY, ← hq]
                have HF : Hid (VarD w Y (.pointer (some ⟨q15, 0, none⟩)) ⟨M0, M1, (b.size : Int), L⟩ ∧ VarD w Y (.pointer (some ⟨q17, 0, none⟩)) ⟨M0, M0, (a.size : Int), LA⟩ ∧ VarD w Y (.pointer (some ⟨qn, 0, none⟩)) ⟨M1, M1, (b.size : Int), LB⟩ ∧ Below w.heap.size w Y) := Lib.hid ⟨HV15.out.below hbY, HV17.out.below hbY, hvY, bl_nx HX.out.2 hbY⟩
                clear c0 c1 hY hq hbY hvY hO5 hb5
                go_wp2
                go_meet
                exact ⟨HF.out.1, HF.out.2.1, HF.out.2.2.1, rfl, HF.out.2.2.2⟩
              · obtain ⟨Y, hY⟩ : ∃ Y, Y = (((w5.setCell ⟨wx.heap.size, 0, none⟩ (.string M1)).setCell ⟨wx.heap.size, 1, none⟩ (.string M1)).setCell ⟨wx.heap.size, 2, none⟩ (.int .i64 (b.size : Int))).setCell ⟨wx.heap.size, 3, none⟩ (.slice a5 LB.length k5) := ⟨_, rfl⟩
                obtain ⟨qn, hq⟩ : ∃ q, q = wx.heap.size := ⟨_, rfl⟩
                have hbY : Below wx.heap.size wx Y := by rw [hY]; exact below_set4 (bl_nx (HAL.out _) hb5) (Nat.le_refl _) _ _ _ _
                have hvY : VarD w Y (.pointer (some ⟨qn, 0, none⟩)) ⟨M1, M1, (b.size : Int), LB⟩ := by rw [hY, hq]; exact VarD.store (d := ⟨M1, M1, (b.size : Int), LB⟩) hQ5 hO5 (by simp) (Nat.le_trans (HX.out.2.size) (by simp))
                rw [← hY, ← hq]
                have HF : Hid (VarD w Y (.pointer (some ⟨q15, 0, none⟩)) ⟨M0, M1, (b.size : Int), L⟩ ∧ VarD w Y (.pointer (some ⟨q17, 0, none⟩)) ⟨M0, M0, (a.size : Int), LA⟩ ∧ VarD w Y (.pointer (some ⟨qn, 0, none⟩)) ⟨M1, M1, (b.size : Int), LB⟩ ∧ Below w.heap.size w Y) := Lib.hid ⟨HV15.out.below hbY, HV17.out.below hbY, hvY, bl_nx HX.out.2 hbY⟩
                clear c0 c1 u0 u1 u2 u3 v0 v1 v2 v3 hQ5 hY hq hbY hvY hO5 hb5
                go_wp2
                go_meet
                exact ⟨HF.out.1, HF.out.2.1, HF.out.2.2.1, rfl, HF.out.2.2.2⟩
            case rest =>
              obtain ⟨hv15, hv17, hv19, rfl, hbx⟩ := hcut
              obtain ⟨wy, rfl⟩ : ∃ x : World, x = wc := ⟨_, rfl⟩
              obtain ⟨q19, a19, k19, rfl, hG19, hO19⟩ := hv19
              obtain ⟨q15x, a15, k15, hqe, hG15, hO15⟩ := hv15
              injection hqe with hqe; injection hqe with hqe; injection hqe with hqe; subst hqe
              obtain ⟨q17x, a17, k17, hqe, hG17, hO17⟩ := hv17
              injection hqe with hqe; injection hqe with hqe; injection hqe with hqe; subst hqe
              simp only at hG15 hO15 hG17 hO17 hG19 hO19
              have HBX := Lib.hid hbx
              clear HX HV15 HV17 hbx
              have c0 := hG17.cell (i := 0) rfl
              have c1 := hG17.cell (i := 1) rfl
              have c2 := hG17.cell (i := 2) rfl
              have c3 := hG17.cell (i := 3) rfl
              have d0 := hG15.cell (i := 0) rfl
              have d1 := hG15.cell (i := 1) rfl
              have d2 := hG15.cell (i := 2) rfl
              have d3 := hG15.cell (i := 3) rfl
              have HCU2 := Lib.hid (HCU.out wy a17 LA.length k17 a15 L.length k15 (Own.rs rfl hO17) (Own.rs rfl hO15))
              have HG := Lib.hid (And.intro hG15 (And.intro hO15 (And.intro hG19 hO19)))
              clear hG15 hO15 hG17 hO17 hG19 hO19 HCU
              go_wp2_with fail
              refine HCU2.out.mono ?_
              rintro e w5 ⟨a21, k21, rfl, hO21, hb5⟩
              obtain ⟨U, hU⟩ : ∃ U, U = w5.alloc (Obj.cells #[.string M0, .string M1, .int .i64 (b.size : Int), .slice a21 LX.length k21] 25) := ⟨_, rfl⟩
              obtain ⟨q21, hq21⟩ : ∃ q, q = w5.heap.size := ⟨_, rfl⟩
              have hbU : Below wy.heap.size wy U := by rw [hU]; exact bl_nx hb5 (below_alloc _ _)
              have hG21 : Blk U q21 [.string M0, .string M1, .int .i64 (b.size : Int), .slice a21 LX.length k21] 25 := by rw [hU, hq21]; exact Blk.new _ _ _
              have hO21' : Own U wy.heap.size (.slice a21 LX.length k21) LX := by rw [hU]; exact hO21.alloc _
              have hG15 := HG.out.1.below hbU HG.out.1.lt
              have hO15 := HG.out.2.1.below hbU
              have hG19 := HG.out.2.2.1.below hbU HG.out.2.2.1.lt
              have hO19 := HG.out.2.2.2.below hbU
              have hne21 : q15 < q21 := by rw [hq21]; exact Nat.lt_of_lt_of_le HG.out.1.lt hb5.size
              have HUU := Lib.hid (And.intro hU hq21)
              have HBU := Lib.hid (bl_nx HBX.out hbU)
              clear hU hq21 hbU hO21 hb5 c0 c1 c2 c3 d0 d1 d2 d3 HCU2
              have c0 := hG19.cell (i := 0) rfl
              have c1 := hG19.cell (i := 1) rfl
              have c2 := hG19.cell (i := 2) rfl
              have c3 := hG19.cell (i := 3) rfl
              have d0 := hG15.cell (i := 0) rfl
              have d1 := hG15.cell (i := 1) rfl
              have d2 := hG15.cell (i := 2) rfl
              have d3 := hG15.cell (i := 3) rfl
              have HCV2 := Lib.hid (HCV.out U a15 L.length k15 a19 LB.length k19 (Own.rs rfl hO15) (Own.rs rfl hO19))
              have HG2 := Lib.hid (And.intro hG15 (And.intro hO15 (And.intro hG21 hO21')))
              clear hG15 hO15 hG19 hO19 hG21 hO21' HG HCV
              go_upto_region 12 with fail
              rw [← HUU.out.1, ← HUU.out.2]
              go_wp2_with fail
              refine HCV2.out.mono ?_
              rintro e w6 ⟨a23, k23, rfl, hO23, hb6⟩
              obtain ⟨V, hV⟩ : ∃ U, U = w6.alloc (Obj.cells #[.string M0, .string M1, .int .i64 (b.size : Int), .slice a23 LX.length k23] 25) := ⟨_, rfl⟩
              obtain ⟨q23, hq23⟩ : ∃ q, q = w6.heap.size := ⟨_, rfl⟩
              have hbV : Below U.heap.size U V := by rw [hV]; exact bl_nx hb6 (below_alloc _ _)
              have hG23 : Blk V q23 [.string M0, .string M1, .int .i64 (b.size : Int), .slice a23 LX.length k23] 25 := by rw [hV, hq23]; exact Blk.new _ _ _
              have hO23' : Own V U.heap.size (.slice a23 LX.length k23) LX := by rw [hV]; exact hO23.alloc _
              have hG15 := HG2.out.1.below hbV HG2.out.1.lt
              have hO15 := HG2.out.2.1.below hbV
              have hG21 := HG2.out.2.2.1.below hbV HG2.out.2.2.1.lt
              have hO21 := HG2.out.2.2.2.below hbV
              have hne23 : q15 < q23 := by rw [hq23]; exact Nat.lt_of_lt_of_le HG2.out.1.lt hb6.size
              have HVV := Lib.hid (And.intro hV hq23)
              have HBV := Lib.hid (bl_nx HBU.out hbV)
              have HBY := Lib.hid (chRefBytes_any V a15 L.length k15 L (Own.rs rfl hO15) (by have h3 := sum2_len HM.out.right.2.2.2.2.1; have h4 := HM.out.right.2.2.2.2.2; simp only at h3 h4; omega) (by have h1 := HM.out.len; simp only at h1; rw [bytesL_len] at h1; omega))
              have HG3 := Lib.hid (And.intro hG15 (And.intro (And.intro hG21 hO21) (And.intro hG23 hO23')))
              have d3 := hG15.cell (i := 3) rfl
              clear hV hq23 hbV hO23 hb6 c0 c1 c2 c3 d0 d1 d2 HCV2 hG15 hO15 hG21 hO21 hG23 hO23' HG2
              go_upto_region 13 with fail
              rw [← HVV.out.1, ← HVV.out.2]
              go_wp2_with fail
              refine HBY.out.mono ?_
              rintro e w7 ⟨v7, rfl, hO7, hb7⟩
              obtain ⟨a7, k7, rfl⟩ := owns_slice hO7
              have HST := Lib.hid (refSteps_any w7 a7 (bytesL L).length k7 (bytesL L) (OwnB.rs rfl hO7) (by have h1 := HM.out.len; simp only at h1; omega))
              rw [← HLX.out.2] at HST
              have HB7 := Lib.hid hb7
              clear hb7 hO7 d3 HBY
              go_wp2_with fail
              refine HST.out.mono ?_
              rintro e w8 ⟨v8, rfl, hO8, hb8⟩
              obtain ⟨a8, k8, rfl⟩ := owns_slice hO8
              have hb78 := bl_nx HB7.out hb8
              have hG15 := HG3.out.1.below hb78 HG3.out.1.lt
              have f3 := hG15.frozen 3
              have g3 := hG15.cell (i := 3) rfl
              have hq15 : q15 < w7.heap.size := Nat.lt_of_lt_of_le HG3.out.1.lt HB7.out.size
              obtain ⟨Z, hZ⟩ : ∃ Z, Z = w8.setCell ⟨q15, 3, none⟩ (.slice a8 LX.length k8) := ⟨_, rfl⟩
              have hX : Blk Z q15 [.string M0, .string M1, .int .i64 (b.size : Int), .slice a8 LX.length k8] 25 := by rw [hZ]; exact hG15.set 3 _
              have hOX : Own Z w7.heap.size (.slice a8 LX.length k8) LX := by rw [hZ]; exact hO8.setFar hq15 3 _
              have b21 := HG3.out.2.1.1.below hb78 HG3.out.2.1.1.lt
              have o21 := HG3.out.2.1.2.below hb78
              have b23 := HG3.out.2.2.1.below hb78 HG3.out.2.2.1.lt
              have o23 := HG3.out.2.2.2.below hb78
              have hU21 : Blk Z q21 [.string M0, .string M1, .int .i64 (b.size : Int), .slice a21 LX.length k21] 25 := by rw [hZ]; exact b21.setOther (by simp only; omega) _
              have hU23 : Blk Z q23 [.string M0, .string M1, .int .i64 (b.size : Int), .slice a23 LX.length k23] 25 := by rw [hZ]; exact b23.setOther (by simp only; omega) _
              have hO21 : Own Z wy.heap.size (.slice a21 LX.length k21) LX := by rw [hZ]; exact own_set_delta o21 hG15 3 _
              have hO23 : Own Z U.heap.size (.slice a23 LX.length k23) LX := by rw [hZ]; exact own_set_delta o23 hG15 3 _
              have hwq15 : w.heap.size ≤ q15 := HQ15.out
              have HBZ := Lib.hid (show Below w.heap.size w Z by rw [hZ]; exact (bl_nx HBV.out hb78).setCell hwq15 _)
              have HS1 := Lib.hid (same_true Z M0 M1 (b.size : Int) LX _ _ (by have := HLX.out.1; omega) hO21 hOX)
              have HG4 := Lib.hid (And.intro hX (And.intro hOX (And.intro hU23 hO23)))
              have HZ := Lib.hid hZ
              have c0 := hU21.cell (i := 0) rfl
              have c1 := hU21.cell (i := 1) rfl
              have c2 := hU21.cell (i := 2) rfl
              have c3 := hU21.cell (i := 3) rfl
              have d0 := hX.cell (i := 0) rfl
              have d1 := hX.cell (i := 1) rfl
              have d2 := hX.cell (i := 2) rfl
              have d3 := hX.cell (i := 3) rfl
              clear hZ hX hOX b21 o21 b23 o23 hU21 hU23 hO21 hO23 hb78 hG15 hO8 hb8 HG3 HST
              go_upto_region 14 with fail
              rw [← HZ.out]
              go_wp2_with fail
              refine HS1.out.mono ?_
              rintro e w9 ⟨rfl, hb9⟩
              have HB9 := Lib.hid (bl_nx HBZ.out hb9)
              have hX := HG4.out.1.below hb9 HG4.out.1.lt
              have hU := HG4.out.2.2.1.below hb9 HG4.out.2.2.1.lt
              have HS2 := Lib.hid (same_true w9 M0 M1 (b.size : Int) LX _ _ (by have := HLX.out.1; omega) (HG4.out.2.2.2.below hb9) (HG4.out.2.1.below hb9))
              clear c0 c1 c2 c3 d0 d1 d2 d3 hb9 HS1
              have c0 := hU.cell (i := 0) rfl
              have c1 := hU.cell (i := 1) rfl
              have c2 := hU.cell (i := 2) rfl
              have c3 := hU.cell (i := 3) rfl
              have d0 := hX.cell (i := 0) rfl
              have d1 := hX.cell (i := 1) rfl
              have d2 := hX.cell (i := 2) rfl
              have d3 := hX.cell (i := 3) rfl
              clear hX hU
              go_wp2_with fail
              refine HS2.out.mono ?_
              rintro e w10 ⟨rfl, hb10⟩
              have HB10 := Lib.hid (bl_nx HB9.out hb10)
              clear c0 c1 c2 c3 d0 d1 d2 d3 hb10 HS2
              go_wp2_with fail
              refine (FIN.out _ HB10.out).mono ?_
              rintro e w11 ⟨rfl, hb11⟩
              go_wp2
              go_ret
              exact ⟨rfl, hb11⟩
end Go.Proofs.Ytabdmcgfiabaoaa
