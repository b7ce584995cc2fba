/- DeltaReal: the walk. Conditions: none. -/
import Derived.Test.YtgemhgllifhckaaDlRealBlocks
import Derived.Test.YtgemhgllifhckaaDlRealShape
import Derived.Test.YtgemhgllifhckaaDlRefReal
namespace Go.Proofs.Ytgemhgllifhckaa
open Go.RowKit Sg
set_option linter.unusedVariables false
set_option linter.unusedSimpArgs false
theorem sh_ok {L : List St} (h : ShL L) : ∀ x ∈ L, x.ok := by
  intro x hx
  rcases h x hx with ⟨h1, h2, h3, h4⟩ | ⟨h1, h2, h3, h4⟩
  · exact ⟨by rw [h2]; rfl, by rw [h3]; rfl, by unfold maxLen; omega⟩
  · exact ⟨wfI _ (by omega) (by omega), wfI _ (by omega) (by omega), by unfold maxLen; omega⟩
theorem stepsR_facts (b s : ByteArray) (B : Nat) (hB : 0 < B) (hb : b.size ≤ 524288) : (∀ x ∈ stepsR b s B, x.ok) ∧ (stepsR b s B).length ≤ 2 * s.size + 1 := by
  unfold stepsR
  exact ⟨sh_ok (steps_sh hB hb (fun t wn => mfR_lt _ _ _ _ t wn) (fun t h => tailF_pos h)), steps_lenR _ _ s b.size B hB⟩
/-- Run made the text: the delta is right, and Apply says so -/
theorem applyR_made (b s : ByteArray) (B : Nat) (hB : 0 < B) (hb : b.size ≤ 524288) (hs : s.size ≤ 524288) (h : stepsR b s B = stepsI b s B) : runS b (stepsR b s B) ByteArray.empty = (s, 0) := by
  rw [h]; exact (stepsI_right b s B 0 0 hB hb hs).2.1
theorem runS_sum (b : ByteArray) : ∀ (l : List St) (o : ByteArray), (runS b l o).2 = 0 → (∀ x ∈ l, rightS x) ∧ (runS b l o).1.size = o.size + sum2 l := by
  intro l
  induction l with
  | nil => intro o _; exact ⟨(fun x hx => by cases hx), by simp [runS_end, sum2]⟩
  | cons x l ih =>
    intro o h
    by_cases h1 : rightS x ∧ x.pos + x.len ≤ b.size
    · by_cases h2 : 524288 < (o.size : Int) + x.len + x.text.size
      · rw [runS_long h1 h2] at h; cases h
      · rw [runS_go h1 h2] at h ⊢
        obtain ⟨i1, i2⟩ := ih _ h
        obtain ⟨h3, h4, _⟩ := rightS_pos h1.1
        have h5 := (rightS_sum h1.1).2.2.2.2
        refine ⟨fun y hy => (List.mem_cons.1 hy).elim (fun e => e ▸ h1.1) (i1 y), ?_⟩
        have h6 : sum2 (x :: l) = sum1 x + sum2 l := by unfold sum2; rw [List.map_cons, List.sum_cons]
        rw [i2, wr3_size, ByteArray.size_extract, h6]
        omega
    · rw [runS_no h1] at h; cases h
open Classical in
theorem applyR_full {b s : ByteArray} {L : List St} (hs : s.size ≤ 524288) (h : runS b L ByteArray.empty = (s, 0)) : applyR b ⟨shaS b, shaS s, s.size, L⟩ = (s, 0) := by
  have h1 := runS_sum b L ByteArray.empty (by rw [h])
  rw [h] at h1
  have hz : ByteArray.empty.size = 0 := rfl
  have hr : rightD ⟨shaS b, shaS s, s.size, L⟩ = true := by
    unfold rightD
    exact decide_eq_true ⟨shaS_size _, shaS_size _, by show (0 : Int) ≤ (s.size : Int); omega, by show (s.size : Int) ≤ 524288; omega, h1.1, by
      have := h1.2
      show ((sum2 L : Nat) : Int) = (s.size : Int)
      simp only at this
      omega⟩
  rw [applyR_ok hr (by simp) (by show (runS b L ByteArray.empty).2 = 0; rw [h]) (by show ((shaS (runS b L ByteArray.empty).1).toList == (shaS s).toList) = true; rw [h]; simp)]
  show ((runS b L ByteArray.empty).1, (0 : Int)) = (s, 0)
  rw [h]
theorem blksL_size {b s : ByteArray} {B n : Nat} (hb : b.size ≤ n) (hs : s.size ≤ n) : ∀ x ∈ blksL b s B, x.size ≤ n := by
  intro x hx
  unfold blksL pieces at hx
  rw [List.mem_append, List.mem_append] at hx
  rcases hx with (hx | hx) | hx
  · obtain ⟨i, _, rfl⟩ := List.mem_map.1 hx
    unfold piece
    rw [ByteArray.size_extract]; omega
  · obtain ⟨i, _, rfl⟩ := List.mem_map.1 hx
    rw [ByteArray.size_extract]; omega
  · split at hx
    · obtain rfl := List.mem_singleton.1 hx
      rw [ByteArray.size_extract]; omega
    · cases hx
set_option maxRecDepth 100000 in
set_option maxHeartbeats 4000000 in
theorem deltaReal_walk (w : World) (b0 : ByteArray) (hb0 : b0.size ≤ 140737488351232) (s0 : ByteArray) (hs0 : s0.size ≤ 140737488351232) (block : Int) (wb : (Lit.int .i64 block).wf = true) :
    Calls Try.prog 11 #[.string b0, .string s0, .int .i64 block] w fun e w' => e = .returned (.bool true) ∧ Below w.heap.size w w' := by
  have hcb := cutS_size b0 150
  have hcs := cutS_size s0 150
  go_enter Try.func11, Try.ntmps11
  go_wp2_with fail
  refine (cut_any b0 150 _ (by omega) (by decide)).mono ?_
  rintro e w' ⟨rfl, rfl⟩
  obtain ⟨b, hb⟩ : ∃ b, b = cutS b0 150 := ⟨_, rfl⟩
  rw [← hb] at hcb
  rw [← hb]
  clear hb hb0
  go_wp2_with fail
  refine (cut_any s0 150 _ (by omega) (by decide)).mono ?_
  rintro e w' ⟨rfl, rfl⟩
  obtain ⟨s, hs⟩ : ∃ s, s = cutS s0 150 := ⟨_, rfl⟩
  rw [← hs] at hcs
  rw [← hs]
  clear hs hs0
  go_wp2_with fail
  refine (real_any _).mono ?_
  rintro e w1 ⟨p, rfl, hI1, hpp, hB1⟩
  by_cases hf : 16 ≤ block ∧ block ≤ 1024
  case neg =>
    have HOF := Lib.hid (of_bad w1 (.pointer (some ⟨p, 0, none⟩)) b s block wb hf)
    go_wp2_with fail
    refine HOF.out.mono ?_
    rintro e w2 ⟨rfl, hb2⟩
    have HB2 := Lib.hid ((bl_nx (bl_nx hB1 hb2) (below_alloc w2 (Obj.cells #[.string ByteArray.empty, .string ByteArray.empty, .int .i64 0, .slice none 0 0] 25))))
    clear hb2 hB1 hI1 hpp HOF
    by_cases h16 : block < 16
    · have d1 : decide (block < 16) = true := decide_eq_true h16
      go_wp2_with fail
      refine (awake_any _).mono ?_
      rintro e we ⟨rfl, hbe⟩
      have HFe := Lib.hid (bl_nx HB2.out hbe)
      clear hbe
      go_wp2
      go_ret
      exact ⟨rfl, HFe.out⟩
    · have d1 : decide (block < 16) = false := decide_eq_false h16
      have h17 : 1024 < block := by omega
      have d2 : decide (1024 < block) = true := decide_eq_true h17
      go_wp2_with fail
      refine (awake_any _).mono ?_
      rintro e we ⟨rfl, hbe⟩
      have HFe := Lib.hid (bl_nx HB2.out hbe)
      clear hbe
      go_wp2
      go_ret
      exact ⟨rfl, HFe.out⟩
  case pos =>
    obtain ⟨B, rfl⟩ : ∃ B : Nat, block = B := ⟨block.toNat, by omega⟩
    have hb1 : 16 ≤ B := by omega
    have hb2 : B ≤ 1024 := by omega
    have HOF := Lib.hid (of_real w1 p b s B hI1 hb1 hb2 (by omega) (by omega))
    clear hf
    go_wp2_with fail
    refine HOF.out.mono ?_
    rintro e w2 ⟨sv, rfl, hO, hB2⟩
    obtain ⟨hok, hlen⟩ := stepsR_facts b s B (by omega) (by omega)
    have hap := fun h => applyR_made b s B (by omega) (by omega) (by omega) (steps_real (basis := b) (s := s) (B := B) (by omega) (by omega) h)
    obtain ⟨L, hL⟩ : ∃ L, L = stepsR b s B := ⟨_, rfl⟩
    rw [← hL] at hO hok hlen hap
    obtain ⟨a2, k2, h2⟩ := owns_slice hO
    obtain ⟨n, hn⟩ : ∃ n, n = L.length := ⟨_, rfl⟩
    rw [← hn] at h2 hlen
    subst h2
    obtain ⟨t1, ht1⟩ : ∃ t, t = shaS b := ⟨_, rfl⟩
    obtain ⟨t2, ht2⟩ : ∃ t, t = shaS s := ⟨_, rfl⟩
    rw [← ht1, ← ht2]
    obtain ⟨z, hz⟩ : ∃ z : Int, z = s.size := ⟨_, rfl⟩
    rw [← hz]
    have hfull := fun h => applyR_full (b := b) (s := s) (L := L) (by omega) h
    rw [← ht1, ← ht2, ← hz] at hfull
    have ht1s : t1.size = 32 := by rw [ht1]; exact shaS_size _
    have ht2s : t2.size = 32 := by rw [ht2]; exact shaS_size _
    obtain ⟨V3, hV3⟩ : ∃ V, V = w2.alloc (Obj.cells #[.string t1, .string t2, .int .i64 z, .slice a2 n k2] 25) := ⟨_, rfl⟩
    obtain ⟨p3', hp3⟩ : ∃ q, q = w2.heap.size := ⟨_, rfl⟩
    have hb3 : Below w2.heap.size w2 V3 := by rw [hV3]; exact below_alloc _ _
    have hG3 : Blk V3 p3' [.string t1, .string t2, .int .i64 z, .slice a2 n k2] 25 := by rw [hV3, hp3]; exact Blk.new _ _ _
    have hO3 : Own V3 w1.heap.size (.slice a2 n k2) L := hO.below hb3
    have hR3 : Rs V3 a2 n k2 3 L St.c := Own.rs hn.symm hO3
    have hI3 : RealB V3 p := (hI1.next hB2).next hb3
    have HBF := Lib.hid (bl_nx (bl_nx hB1 hB2) hb3)
    have HRN := Lib.hid (run_any V3 b a2 n k2 L (by omega) hR3 (by omega) hok)
    have q3 := hG3.cell (i := 3) rfl
    have HV3 := Lib.hid hV3
    have HP3 := Lib.hid hp3
    have HG3 := Lib.hid (And.intro hG3 (And.intro hI3 hR3))
    have HAP := Lib.hid hap
    have HFU := Lib.hid hfull
    have HOK := Lib.hid (And.intro hok (And.intro ht1s ht2s))
    have HZ := Lib.hid hz
    obtain ⟨RR, hRR⟩ : ∃ RR, RR = runS b L ByteArray.empty := ⟨_, rfl⟩
    rw [← hRR] at HRN
    have HRR := Lib.hid hRR
    obtain ⟨R1, R2⟩ := RR
    simp only at HRN
    clear hO hO3 hR3 hI3 hG3 hV3 hp3 hb3 hap hfull hok hB1 hB2 hI1 hpp ht1 ht2 ht1s ht2s hz hL hn HOF hRR
    go_upto_region 9 with fail
    rw [← HP3.out, ← HV3.out]
    go_wp2_with fail
    refine HRN.out.mono ?_
    rintro e w4 ⟨rfl, hb4⟩
    have HB4 := Lib.hid (bl_nx HBF.out hb4)
    have hG4 := HG3.out.1.below hb4 HG3.out.1.lt
    have hI4 : RealB w4 p := HG3.out.2.1.next hb4
    have hR4 := HG3.out.2.2.next hb4
    by_cases hm : R2 = 0 ∧ R1 = s
    case pos =>
      obtain ⟨rfl, rfl⟩ := hm
      have HA := Lib.hid (apply_real w4 p hI4 b t1 t2 z a2 n k2 L (wfI _ (by have := HZ.out; omega) (by have := HZ.out; omega)) (by have := HOK.out.2.1; unfold maxLen; omega) (by have := HOK.out.2.2; unfold maxLen; omega) hR4 HOK.out.1 (by omega) (by omega))
      rw [HFU.out HRR.out.symm] at HA
      have c0 := hG4.cell (i := 0) rfl
      have c1 := hG4.cell (i := 1) rfl
      have c2 := hG4.cell (i := 2) rfl
      have c3 := hG4.cell (i := 3) rfl
      have hse : (R1.toList == R1.toList) = true := by simp
      clear hG4 hI4 hR4 hb4 q3 HRN HAP
      go_wp2_with fail
      refine HA.out.mono ?_
      rintro e w5 ⟨rfl, hb5⟩
      have HB5 := Lib.hid (bl_nx HB4.out hb5)
      clear c0 c1 c2 c3 hb5 HA
      go_wp2_with fail
      refine (awake_any _).mono ?_
      rintro e we ⟨rfl, hbe⟩
      have HFe := Lib.hid (bl_nx HB5.out hbe)
      clear hbe
      go_wp2
      go_ret
      exact ⟨rfl, HFe.out⟩
    case neg =>
      have hno : ¬ (∀ x ∈ blksL b s B, ∀ y ∈ blksL b s B, shaS x = shaS y → x = y) := fun h => by
        have h2 := HAP.out h
        rw [← HRR.out] at h2
        injection h2 with h3 h4
        exact hm ⟨h4, h3⟩
      have HNO := Lib.hid hno
      obtain ⟨g, hg⟩ : ∃ g : Bool, g = (decide (R2 = 0) && (R1.toList == s.toList)) := ⟨_, rfl⟩
      have hgf : (R2 = 0 → (R1.toList == s.toList) = false) := fun h => by
        exact beqS_f (fun e => hm ⟨h, bytes_inj e⟩)
      clear hno hg g hG4 hI4 hR4 hb4 q3 HRN HAP HFU HRR
      have HDB := Lib.hid (dlBlocks_any w4 b s B (by omega) (by omega) hb1 hb2)
      clear hm
      obtain ⟨LL, hLL⟩ : ∃ L, L = blksL b s B := ⟨_, rfl⟩
      rw [← hLL] at HDB HNO
      have HSZ : Hid (∀ x ∈ LL, x.size ≤ 150) := Lib.hid (by rw [hLL]; exact blksL_size (by omega) (by omega))
      clear hLL
      by_cases h0 : R2 = 0
      case' pos =>
        subst h0
        have hse := hgf rfl
        clear hgf
        go_wp2_with fail
      case' neg =>
        have hze : (R2 == 0) = false := by simp [h0]
        clear hgf
        go_wp2_with fail
      all_goals
        refine HDB.out.mono ?_
        rintro e w5 ⟨lv, rfl, hL5, hl5, hb5⟩
        obtain ⟨al, kl, rfl⟩ := slice_of hL5
        have hB5 := bl_nx HB4.out hb5
        clear HDB hb5
        go_wp2_with fail
        go_loopw [15, 16] (fun i c wr => ∃ a : Nat, i = .int .i64 a ∧ a ≤ LL.length ∧ (∀ i' k' x y, k' < i' → i' < a → LL[i']? = some x → LL[k']? = some y → shaS x = shaS y → x = y) ∧ RowS wr w4.heap.size (.slice al LL.length kl) LL ∧ Below w.heap.size w wr) (fun i _ _ => LL.length - (intOf i).toNat)
        case atStart => exact ⟨0, rfl, Nat.zero_le _, fun i' k' x y h1 h2 => by omega, hL5, hB5⟩
        case round =>
          obtain ⟨a, rfl, ha, hpr, hL, hB⟩ := hrel
          by_cases hlt : a < LL.length
          case neg =>
            exact (HNO.out (apart_mem (fun i' k' x y h1 h2 h3 h4 => hpr i' k' x y h1 (by have := (List.getElem?_eq_some_iff.1 h2).1; omega) h2 h3 h4))).elim
          case pos =>
            go_wp2_with fail
            go_loopw [16] (fun c wr => ∃ k : Nat, c = .int .i64 k ∧ k ≤ a ∧ (∀ k' x y, k' < k → LL[a]? = some x → LL[k']? = some y → shaS x = shaS y → x = y) ∧ RowS wr w4.heap.size (.slice al LL.length kl) LL ∧ Below w.heap.size w wr) (fun c _ => a - (intOf c).toNat)
            case atStart => exact ⟨0, rfl, Nat.zero_le _, fun k' x y h1 => by omega, hL, hB⟩
            case round =>
              clear hL hB
              obtain ⟨k, rfl, hk, hpk, hL, hB⟩ := hrel
              by_cases hlt2 : k < a
              case neg =>
                obtain rfl : k = a := by omega
                have HPR := Lib.hid hpr
                have HPK := Lib.hid hpk
                clear hpr hpk
                go_wp2_with fail
                go_roundw
                case rel =>
                  refine ⟨k + 1, by go_num, by omega, fun i' k' x y h1 h2 h3 h4 h5 => ?_, hL, hB⟩
                  by_cases h6 : i' = k
                  · subst h6; exact HPK.out k' x y h1 h3 h4 h5
                  · exact HPR.out i' k' x y h1 (by omega) h3 h4 h5
                case measure => simp [intOf]; omega
              case pos =>
                obtain ⟨x, hx⟩ : ∃ x, LL[a]? = some x := ⟨_, List.getElem?_eq_getElem hlt⟩
                obtain ⟨y, hy⟩ : ∃ y, LL[k]? = some y := ⟨_, List.getElem?_eq_getElem (by omega)⟩
                have hR := RowS.rs hL rfl
                obtain ⟨g, off, hal, hbw, hc⟩ := hR.cell1 (by omega)
                have hxs := HSZ.out x (List.mem_of_getElem? hx)
                have hys := HSZ.out y (List.mem_of_getElem? hy)
                have c1 : wr.cell? ⟨g, off + a, none⟩ = some (.string x) := hc a hlt _ (by rw [(List.getElem?_eq_some_iff.1 hx).2])
                have c2 : wr.cell? ⟨g, off + k, none⟩ = some (.string y) := hc k (by omega) _ (by rw [(List.getElem?_eq_some_iff.1 hy).2])
                have i1 : (a : Int) < (LL.length : Int) := by omega
                have i2 : (k : Int) < (LL.length : Int) := by omega
                have HPR := Lib.hid hpr
                have HPK := Lib.hid hpk
                have HL := Lib.hid hL
                have HB := Lib.hid hB
                have HX := Lib.hid hx
                have HY := Lib.hid hy
                subst hal
                clear hpr hpk hL hB hx hy hR hc
                by_cases hxy : x = y
                case pos =>
                  subst hxy
                  have hse2 : (x.toList == x.toList) = true := by simp
                  clear hxs hys
                  go_wp2_with fail
                  go_quiet (fail)
                  go_wp2
                  go_roundw
                  case rel =>
                    refine ⟨k + 1, by go_num, by omega, fun k' x2 y2 h1 h2 h3 h4 => ?_, HL.out, below_drewN' HB.out _⟩
                    by_cases h6 : k' = k
                    · subst h6
                      rw [HX.out] at h2
                      rw [HY.out] at h3
                      exact (Option.some.inj h2).symm.trans (Option.some.inj h3)
                    · exact HPK.out k' x2 y2 (by omega) h2 h3 h4
                  case measure => simp [intOf]; omega
                case neg =>
                  have hse2 : (x.toList == y.toList) = false := beqS_f (fun e => hxy (bytes_inj e))
                  have HS1 : Hid (∀ W, Calls Try.prog 37 #[.string x] W fun e w' => e = .returned (.string (shaS x)) ∧ Below W.heap.size W w') := Lib.hid (fun W => rsum_any W x (by omega))
                  have HS2 : Hid (∀ W, Calls Try.prog 37 #[.string y] W fun e w' => e = .returned (.string (shaS y)) ∧ Below W.heap.size W w') := Lib.hid (fun W => rsum_any W y (by omega))
                  clear hxs hys
                  obtain ⟨X1, hX1⟩ : ∃ X, X = shaS x := ⟨_, rfl⟩
                  obtain ⟨Y1, hY1⟩ : ∃ X, X = shaS y := ⟨_, rfl⟩
                  rw [← hX1] at HS1
                  rw [← hY1] at HS2
                  have HXY := Lib.hid (And.intro hX1 hY1)
                  clear hX1 hY1
                  obtain ⟨GG, hGG⟩ : ∃ G, G = (X1.toList == Y1.toList) := ⟨_, rfl⟩
                  have HGG := Lib.hid hGG
                  have hgg : (X1.toList == Y1.toList) = GG := hGG.symm
                  clear hGG
                  have HW : Hid (Below wr.heap.size wr wr) := Lib.hid (Below.refl _ _)
                  go_wp2_with fail
                  go_region_held3 (fun w' => w'.cell? ⟨g, off + a, none⟩ = some (.string x) ∧ w'.cell? ⟨g, off + k, none⟩ = some (.string y))
                    (first | go_keep | exact ⟨c1, c2⟩)
                    (first
                      | (go_at_call_of 37 (Value.string x); refine (HS1.out _).mono ?_; rintro e w6 ⟨rfl, hb6⟩; replace c1 := (hb6.cell (p := ⟨g, off + a, none⟩) (by exact World.block_lt_of_cell? _ _ c1)).trans c1; replace c2 := (hb6.cell (p := ⟨g, off + k, none⟩) (by exact World.block_lt_of_cell? _ _ c2)).trans c2; replace HW := Lib.hid (bl_nx (by first | exact HW.out | exact HW.out.drew) hb6))
                      | (go_at_call_of 37 (Value.string y); refine (HS2.out _).mono ?_; rintro e w6 ⟨rfl, hb6⟩; replace c1 := (hb6.cell (p := ⟨g, off + a, none⟩) (by exact World.block_lt_of_cell? _ _ c1)).trans c1; replace c2 := (hb6.cell (p := ⟨g, off + k, none⟩) (by exact World.block_lt_of_cell? _ _ c2)).trans c2; replace HW := Lib.hid (bl_nx (by first | exact HW.out | exact HW.out.drew) hb6)))
                  all_goals
                    have hL6 : RowS w6 w4.heap.size (.slice (some ⟨g, off, none⟩) LL.length kl) LL := World.ownsRow.kept HL.out (below_grown HW.out none) (by cases (Value.slice (some ⟨g, off, none⟩) LL.length kl).ownBlock <;> simp)
                    have hB6 := bl_nx HB.out HW.out
                    have HL6 := Lib.hid (And.intro hL6 hB6)
                    clear c1 c2 hb6 HS1 HS2 HW hL6 hB6
                    cases GG
                    case true =>
                      go_wp2_with fail
                      refine (awake_any _).mono ?_
                      rintro e we ⟨rfl, hbe⟩
                      have HFe := Lib.hid (bl_nx HL6.out.2 hbe)
                      clear hbe
                      go_wp2
                      go_ret
                      exact ⟨rfl, HFe.out⟩
                    case false =>
                      go_wp2
                      go_roundw
                      case rel =>
                        refine ⟨k + 1, by go_num, by omega, fun k' x2 y2 h1 h2 h3 h4 => ?_, HL6.out.1, HL6.out.2⟩
                        by_cases h6 : k' = k
                        · subst h6
                          rw [HX.out] at h2
                          rw [HY.out] at h3
                          obtain rfl := Option.some.inj h2
                          obtain rfl := Option.some.inj h3
                          have h7 := HGG.out
                          rw [HXY.out.1, HXY.out.2, h4] at h7
                          simp at h7
                        · exact HPK.out k' x2 y2 (by omega) h2 h3 h4
                      case measure => simp [intOf]; omega
end Go.Proofs.Ytgemhgllifhckaa
