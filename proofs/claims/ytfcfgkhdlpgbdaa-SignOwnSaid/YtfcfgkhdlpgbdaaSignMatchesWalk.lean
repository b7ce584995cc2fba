/- SignMatches: the walk. Conditions: as named in each theorem. -/
import Derived.Test.YtfcfgkhdlpgbdaaMatchMath
import Derived.Test.YtfcfgkhdlpgbdaaSignAwake
import Derived.Test.YtfcfgkhdlpgbdaaSignSignsWalk
namespace Go.Proofs.Ytfcfgkhdlpgbdaa
open Go.RowKit
set_option linter.unusedVariables false

/-- the book with these texts marked, and perhaps t -/
def BkT (p m : Nat) (SN : Bk) (t : ByteArray) (w : World) : Prop := ∃ S, (S = SN ∨ S = addS SN (bytesOf t)) ∧ BookI w p m S
theorem markC_ideal {w : World} {p m : Nat} {SN : Bk} {t : ByteArray} (h : BkT p m SN t w) (ht : t.size ≤ maxLen) (hn : SN.length ≤ 1000000) :
    MarkC w p (some m) t (numS (SN.idxOf (bytesOf t) + 1)) (BkT p m SN t) (BkT p m SN t) where
  k0 := h
  next := fun a b ⟨S, hS, hB⟩ hb => ⟨S, hS, hB.next hb⟩
  next' := fun a b ⟨S, hS, hB⟩ hb => ⟨S, hS, hB.next hb⟩
  mark := by
    rintro a ⟨S, hS, hB⟩ -
    have hlen : S.length ≤ 1000000000000 := by
      rcases hS with rfl | rfl
      · omega
      · have := addS_len SN (bytesOf t); omega
    have e1 : S.idxOf t.data.toList + 1 = SN.idxOf (bytesOf t) + 1 := by
      rcases hS with rfl | rfl
      · rfl
      · have := idx_self SN (bytesOf t)
        show (addS SN (bytesOf t)).idxOf (bytesOf t) + 1 = _
        rw [this]
    have e2 : addS S t.data.toList = addS SN (bytesOf t) := by
      rcases hS with rfl | rfl
      · rfl
      · show addS (addS SN (bytesOf t)) (bytesOf t) = _
        rw [addS, if_pos ((mem_addS SN (bytesOf t) (bytesOf t)).2 (.inr rfl))]
    refine (mark_as hB ht hlen _ _ e1 e2).mono ?_
    rintro e w' ⟨rfl, h1, h2⟩
    exact ⟨rfl, ⟨_, .inr rfl, h1⟩, h2⟩

set_option maxRecDepth 100000 in
set_option maxHeartbeats 16000000 in
theorem signMatches_walk (w : World) (s0 : ByteArray) (hs0 : s0.size ≤ 140737488351232) (block : Int) (wb : (Lit.int .i64 block).wf = true) (weak : Int) (wk : (Lit.int .i64 weak).wf = true) (t0 : ByteArray) (ht0 : t0.size ≤ 140737488351232) (wanted : Int) (wn : (Lit.int .i64 wanted).wf = true) :
    Calls Try.prog 12 #[.string s0, .int .i64 block, .int .i64 weak, .string t0, .int .i64 wanted] w fun e w' => e = .returned (.bool true) ∧ Below w.heap.size w w' := by
  have hcs := cutS_size s0 2000
  have hct := cutS_size t0 2000
  clear wk wn
  go_enter Try.func12, Try.ntmps12
  go_wp2_with fail
  refine (cut_any s0 2000 _ (by unfold maxLen; omega) (by decide)).mono ?_
  rintro e w' ⟨rfl, rfl⟩
  obtain ⟨s, hs⟩ : ∃ s, s = cutS s0 2000 := ⟨_, rfl⟩
  rw [← hs] at hcs
  rw [← hs]
  clear hs hs0
  go_wp2_with fail
  refine (cut_any t0 2000 _ (by unfold maxLen; omega) (by decide)).mono ?_
  rintro e w' ⟨rfl, rfl⟩
  obtain ⟨t, ht⟩ : ∃ t, t = cutS t0 2000 := ⟨_, rfl⟩
  rw [← ht] at hct
  rw [← ht]
  clear ht ht0
  go_wp2_with fail
  refine (ideal_any _).mono ?_
  rintro e w1 ⟨rfl, hI1, hB1⟩
  go_wp2_with fail
  by_cases hf : 16 ≤ block ∧ block ≤ 1024
  · obtain ⟨B, rfl⟩ : ∃ B : Nat, block = B := ⟨block.toNat, by omega⟩
    have hb1 : 16 ≤ B := by omega
    have hb2 : B ≤ 1024 := by omega
    have l1 : decide ((B : Int) < 16) = false := by simp; omega
    have l2 : decide ((1024 : Int) < (B : Int)) = false := by simp; omega
    clear hf
    obtain ⟨n, hn⟩ : ∃ n, n = cnt s.size B := ⟨_, rfl⟩
    have hn3 : n ≤ 2000 := by rw [hn]; exact Nat.le_trans (cnt_le (by omega)) hcs
    have hsl1 := marksOf_len [] (pieces s B n)
    have hsl2 : ((pieces s B n).map weakI).length = n := by rw [List.length_map, pieces_len]
    rw [pieces_len] at hsl1
    have hOK := sign_ok s B (marksOf [] (pieces s B n)).2 hb1 hb2 (by omega) (by rw [← hn]; exact hsl1) (marks_size _ _)
    rw [← hn] at hOK
    have hsn := fold_addS_len ((pieces s B n).map bytesOf) []
    rw [← marksOf_seen, List.length_map, pieces_len] at hsn
    simp only [List.length_nil, Nat.zero_add] at hsn
    have h32 := marks_size [] (pieces s B n)
    have hNn : s.size / B ≤ n := by rw [hn]; exact div_le_cnt s B (by omega)
    refine (sign_ideal w1 (w.heap.size + 1) w.heap.size [] s B hI1 (by omega) hb1 hb2 (by simp)).mono ?_
    rw [← hn]
    have HN := Lib.hid hn
    clear hn
    rintro e w2 ⟨wv, sv, rfl, hW2, hS2, hI2, hg2⟩
    obtain ⟨LI, hLI⟩ : ∃ L, L = (pieces s B n).map weakI := ⟨_, rfl⟩
    obtain ⟨MK, hMK⟩ : ∃ M, M = marksOf [] (pieces s B n) := ⟨_, rfl⟩
    obtain ⟨SN, LS⟩ := MK
    have hw2 : w1.heap.size ≤ w2.heap.size := hg2.size
    have hBl2 : Below w.heap.size w w2 := bl_grow hB1 hg2 (Nat.le_refl _)
    rw [← hLI] at hW2 hsl2 hOK
    rw [← hMK] at hS2 hI2 hsl1 hOK hsn h32
    simp only at hS2 hI2 hsl1 hOK hsn h32
    obtain ⟨aw, kw, rfl⟩ := slice_of hW2
    obtain ⟨av, kv, rfl⟩ := slice_of hS2
    rw [hsl2] at hW2
    rw [hsl1] at hS2
    rw [hsl2, hsl1]
    obtain ⟨V3, hV3⟩ : ∃ V, V = w2.alloc (Obj.cells #[.int .i64 B, .int .i64 s.size, .slice aw n kw, .slice av n kv] 31) := ⟨_, rfl⟩
    obtain ⟨p8, hp8⟩ : ∃ q, q = w2.heap.size := ⟨_, rfl⟩
    have hgV : w2.grownBy V3 none := by rw [hV3]; exact grown_alloc (grown_refl _ _) _
    have hG3 : Blk V3 p8 [.int .i64 B, .int .i64 s.size, .slice aw n kw, .slice av n kv] 31 := by rw [hV3, hp8]; exact Blk.new w2 _ _
    have hW3 : RowI V3 w1.heap.size (.slice aw n kw) LI := World.ownsRow.kept hW2 hgV (by cases (Value.slice aw n kw).ownBlock <;> simp)
    have hS3 : RowS V3 w1.heap.size (.slice av n kv) LS := World.ownsRow.kept hS2 hgV (by cases (Value.slice av n kv).ownBlock <;> simp)
    have hI3 : BookI V3 (w.heap.size + 1) w.heap.size SN := hI2.grown hgV (by simp) (by simp)
    have hB3 : Below w.heap.size w V3 := by rw [hV3]; exact bl_alloc hBl2 _
    have hm3 : w.heap.size < V3.heap.size := by have := hI3.2.2.2.2.1.2; exact this
    have c0 := hG3.cell (i := 0) rfl
    have c1 := hG3.cell (i := 1) rfl
    have c2 := hG3.cell (i := 2) rfl
    have c3 := hG3.cell (i := 3) rfl
    have HRW := Lib.hid (RowI.rs hW3 hsl2)
    have HRS := Lib.hid (RowS.rs hS3 hsl1)
    have hwfW : ∀ x ∈ LI, (Lit.int .i64 x).wf = true := sigOk_wfW hOK
    have hmxT : ∀ x ∈ LS, x.size ≤ maxLen := fun x hx => by have := h32 x hx; unfold maxLen; omega
    have HC1 := Lib.hid (newTab_ok V3 B s.size aw n kw av n kv LI LS (wfI _ (by omega) (by omega)) (wfI _ (by omega) (by omega)) HRW.out HRS.out hwfW hmxT (by omega) (by omega) hOK)
    have HBK := Lib.hid (And.intro hI3 hB3)
    have HV3 := Lib.hid hV3
    have HP8 := Lib.hid hp8
    have HLI := Lib.hid hLI
    have HMK := Lib.hid hMK
    have HSN := Lib.hid hsn
    have HL1 := Lib.hid (And.intro hsl1 hsl2)
    have HNn := Lib.hid hNn
    clear hV3 hp8 hgV hG3 hW3 hS3 hI3 hB3 hW2 hS2 hI2 hg2 hBl2 hI1 hB1 hOK hLI hMK hsn h32 hsl1 hsl2 hwfW hmxT hNn hw2
    go_upto_region 5 with fail
    rw [← HP8.out, ← HV3.out]
    go_wp2_with fail
    refine HC1.out.mono ?_
    rintro e w4 ⟨pt, vI, vS, kv', pv, f, rfl, hTab, hSrt, hInB, hb4⟩
    have H4 := Lib.hid (And.intro (HBK.out.1.next hb4) (bl_nx HBK.out.2 hb4))
    have HTB := Lib.hid hTab
    have HSI := Lib.hid (And.intro hSrt hInB)
    clear hTab hSrt hInB hb4 HC1 HRW HRS c0 c1 c2 c3 HV3 HP8
    go_wp2_with fail
    refine (refBlocks_any w4 s B (by omega) hb1 hb2).mono ?_
    rw [← HN.out]
    rintro e w5 ⟨vb, rfl, hSb, hb5⟩
    obtain ⟨ab, kb, rfl⟩ := slice_of hSb
    rw [pieces_len]
    have HSB := Lib.hid (RowS.rs (by have := hSb; rw [pieces_len] at this; exact this) (pieces_len _ _ _) : Rs w5 ab n kb 1 (pieces s B n) _)
    have HT5 := Lib.hid (HTB.out.next hb5)
    have H5 := Lib.hid (And.intro (H4.out.1.next hb5) (bl_nx H4.out.2 hb5))
    clear hSb hb5 HTB H4 HBK
    go_wp2_with fail
    go_loopw [17, 18, 19] (fun x y z wr => ∃ j : Nat, j ≤ n ∧ z = .int .i64 ((j : Int) - 1) ∧ x = .int .i64 (lawM s B t weak n j) ∧ y = .bool (lawIs s B t weak wanted n j) ∧ wr = w5) (fun _ _ z _ => (intOf z + 1).toNat)
    case atStart => exact ⟨n, Nat.le_refl _, by go_num, by rw [lawM_end], by rw [lawIs_end], rfl⟩
    case round =>
      obtain ⟨j, hj, rfl, rfl, rfl, rfl⟩ := hrel
      by_cases hj0 : 0 < j
      · obtain ⟨k, hk⟩ : ∃ k : Nat, (j : Int) - 1 = k := ⟨j - 1, by omega⟩
        have hjk : j = k + 1 := by omega
        have hkn : k < n := by omega
        rw [hk]
        have hly := @law_yes s B t weak wanted n k hkn
        have hln := @law_no s B t weak wanted n k hkn
        rw [← hjk] at hly hln
        obtain ⟨M1, hM1⟩ : ∃ M, M = lawM s B t weak n j := ⟨_, rfl⟩
        obtain ⟨I1, hI1⟩ : ∃ I, I = lawIs s B t weak wanted n j := ⟨_, rfl⟩
        rw [← hM1, ← hI1]
        rw [← hM1] at hln
        rw [← hI1] at hln hly
        obtain ⟨bp, op, x, rfl, hx, cx⟩ := HSB.out.one hkn
        rw [pieces_get s B n k hkn] at hx
        injection hx with hx
        have hkn2 : (k : Int) < (n : Int) := by omega
        have hxs : x.size ≤ 2000 := by rw [← hx]; exact Nat.le_trans (piece_size s B k) hcs
        have hok : okAt s B t weak k = decide (x.size = B ∧ bytesOf x = bytesOf t ∧ weakI t = weak) := by unfold okAt; rw [hx]
        have HOK := Lib.hid hok
        have HLY := Lib.hid hly
        have HLN := Lib.hid hln
        clear hM1 hI1 hly hln hx hok hj0
        by_cases q1 : x.size = B
        · have e1 : ((x.size : Int) == (B : Int)) = true := by simp [q1]
          by_cases q2 : x.data.toList = t.data.toList
          · have e2 : (x.toList == t.toList) = true := beqS_t q2
            obtain ⟨WV, hWV⟩ : ∃ W : Int, W = weakI t := ⟨_, rfl⟩
            have HSUM : Hid (∀ a, Calls Try.prog 40 #[.string t] a fun e w' => e = .returned (.int .i64 WV) ∧ a = w') := Lib.hid (fun a => by rw [hWV]; exact refSum_any t a (by omega))
            by_cases q3 : WV = weak
            · have e3 : (WV == weak) = true := by simpa using q3
              have ho : okAt s B t weak k = true := by rw [HOK.out]; exact decide_eq_true ⟨q1, q2, hWV ▸ q3⟩
              have HY := Lib.hid (HLY.out ho)
              clear q1 q2 q3 hWV ho HLY HLN HOK
              go_wp2_with fail
              refine (HSUM.out _).mono ?_
              rintro e w9 ⟨rfl, rfl⟩
              cases I1 with
              | true =>
                go_wp2
                go_roundw
                case rel => exact ⟨k, by omega, rfl, by rw [HY.out.1], by rw [HY.out.2]; simp, trivial⟩
                case measure => simp [intOf] <;> omega
              | false =>
                by_cases q4 : (k : Int) = wanted
                · have e4 : ((k : Int) == wanted) = true := by simpa using q4
                  have HD : Hid (decide ((k : Int) = wanted) = true) := Lib.hid (decide_eq_true q4)
                  clear q4
                  go_wp2
                  go_roundw
                  case rel => exact ⟨k, by omega, rfl, by rw [HY.out.1], by rw [HY.out.2, HD.out]; rfl, trivial⟩
                  case measure => simp [intOf] <;> omega
                · have e4 : ((k : Int) == wanted) = false := by simpa using q4
                  have HD : Hid (decide ((k : Int) = wanted) = false) := Lib.hid (decide_eq_false q4)
                  clear q4
                  go_wp2
                  go_roundw
                  case rel => exact ⟨k, by omega, rfl, by rw [HY.out.1], by rw [HY.out.2, HD.out]; rfl, trivial⟩
                  case measure => simp [intOf] <;> omega
            · have e3 : (WV == weak) = false := by simpa using q3
              have HZ := Lib.hid (HLN.out (by rw [HOK.out]; exact fun h => q3 (hWV.trans (of_decide_eq_true h).2.2)))
              clear q1 q2 q3 hWV HLY HLN HOK
              go_wp2_with fail
              refine (HSUM.out _).mono ?_
              rintro e w9 ⟨rfl, rfl⟩
              go_wp2
              go_roundw
              case rel => exact ⟨k, by omega, rfl, by rw [HZ.out.1], by rw [HZ.out.2], trivial⟩
              case measure => simp [intOf] <;> omega
          · have e2 : (x.toList == t.toList) = false := beqS_f q2
            have HZ := Lib.hid (HLN.out (by rw [HOK.out]; exact fun h => q2 (of_decide_eq_true h).2.1))
            clear q1 q2 HLY HLN HOK
            go_wp2
            go_roundw
            case rel => exact ⟨k, by omega, rfl, by rw [HZ.out.1], by rw [HZ.out.2], trivial⟩
            case measure => simp [intOf] <;> omega
        · have e1 : ((x.size : Int) == (B : Int)) = false := by simp; omega
          have HZ := Lib.hid (HLN.out (by rw [HOK.out]; exact fun h => q1 (of_decide_eq_true h).1))
          clear q1 HLY HLN HOK
          go_wp2
          go_roundw
          case rel => exact ⟨k, by omega, rfl, by rw [HZ.out.1], by rw [HZ.out.2], trivial⟩
          case measure => simp [intOf] <;> omega
      · have hj00 : j = 0 := by omega
        subst hj00
        have hz1 : ((0 : Nat) : Int) - 1 = -1 := by decide
        rw [hz1]
        have hml := match_law (t := t) (weak := weak) (wanted := wanted) (by omega : 0 < B) HN.out (by omega) HMK.out
        rw [← HLI.out] at hml
        have htl := tail_law (t := t) (by omega : 0 < B) HN.out (by omega) HMK.out
        rw [← HLI.out] at htl
        obtain ⟨r, hr⟩ : ∃ r, r = s.size % B := ⟨_, rfl⟩
        have hrB : r < B := by rw [hr]; exact Nat.mod_lt _ (by omega)
        have hrs : r ≤ s.size := by rw [hr]; exact Nat.mod_le _ _
        have hmod : (s.size : Int) % (B : Int) = (r : Int) := by rw [hr]; rfl
        have hmod2 : Int.tmod (s.size : Int) (B : Int) = (r : Int) := by rw [hr]; rfl
        obtain ⟨sr, hsr⟩ : ∃ sr : Nat, (s.size : Int) - r = sr := ⟨s.size - r, by omega⟩
        have hsr2 : s.size - r = sr := by omega
        rw [← hr] at htl
        rw [hsr2] at htl
        have TLY : Hid (0 < r → t.data.toList = (s.extract sr s.size).data.toList → tailB B s.size LI LS t (numS (SN.idxOf (bytesOf t) + 1)) = true) := Lib.hid (fun h1 h2 => by rw [htl]; exact decide_eq_true ⟨h1, h2⟩)
        have TLZ : Hid (¬ t.data.toList = (s.extract sr s.size).data.toList → tailB B s.size LI LS t (numS (SN.idxOf (bytesOf t) + 1)) = false) := Lib.hid (fun h2 => by rw [htl]; exact decide_eq_false (fun h => h2 h.2))
        have TLN : Hid (¬ 0 < r → tailB B s.size LI LS t (numS (SN.idxOf (bytesOf t) + 1)) = false) := Lib.hid (fun h2 => by rw [htl]; exact decide_eq_false (fun h => h2 h.1))
        obtain ⟨M1, hM1⟩ : ∃ M, M = lawM s B t weak n 0 := ⟨_, rfl⟩
        obtain ⟨I1, hI1⟩ : ∃ I, I = lawIs s B t weak wanted n 0 := ⟨_, rfl⟩
        rw [← hM1, ← hI1]
        rw [← hM1, ← hI1] at hml
        clear hM1 hI1 hr htl hsr2 hj0 hj hz1
        cases I1 with
        | true =>
          rw [if_pos rfl] at hml
          have HML := Lib.hid hml
          clear hml
          by_cases hr0 : r = 0
          · subst hr0
            have d0 : decide ((0 : Int) < ((0 : Nat) : Int)) = false := by decide
            have htl := TLN.out (by omega)
            have HTL := Lib.hid htl
            clear htl
            go_wp2_with fail
            have hS8 := HT5.out
            refine (tabMatch_any wr V3.heap.size pt (w.heap.size + 1) (some w.heap.size) B s.size vI vS kv' pv LI LS (s.size / B) f weak wanted t _ _ _ HT5.out HSI.out.1 HSI.out.2 (Nat.le_trans HNn.out (by omega)) (by rw [HL1.out.1]; exact HNn.out) (by omega) hb2 (fun m hm => by injection hm with hm; omega) (markC_ideal ⟨SN, .inl rfl, H5.out.1⟩ (by unfold maxLen; omega) (by have := HSN.out; omega))).mono ?_
            rw [HML.out]
            rintro e w6 ⟨rfl, hK6, hG6⟩
            have hK6' : BkT (w.heap.size + 1) w.heap.size SN t w6 := hK6.elim id id
            have hT6 := HT5.out.grownO hG6 (fun m hm => by injection hm with hm; omega)
            have hB6 := bl_grow H5.out.2 hG6 (Nat.le_refl _)
            have H6 := Lib.hid (And.intro hK6' (And.intro hT6 hB6))
            clear hK6 hG6 hK6' hT6 hB6 hS8
            go_wp2_with fail
            refine (tabTail_any w6 V3.heap.size pt (w.heap.size + 1) (some w.heap.size) B s.size vI vS kv' pv LI LS _ t _ _ _ H6.out.2.1 (by rw [HL1.out.2]; omega) (by rw [HL1.out.1, HL1.out.2]) (by omega) hb2 (by omega) (fun h => by rw [HL1.out.2, HN.out]; exact (piece_last s B (by omega) h).2.1) (by omega) (fun m hm => by injection hm with hm; omega) (markC_ideal H6.out.1 (by unfold maxLen; omega) (by have := HSN.out; omega))).mono ?_
            rw [HTL.out]
            rintro e w7 ⟨rfl, -, hG7⟩
            have hB7 := bl_grow H6.out.2.2 hG7 (Nat.le_refl _)
            have HB7 := Lib.hid hB7
            clear hG7 hB7
            go_wp2_with fail
            refine (awake_sign _).mono ?_
            rintro e w8 ⟨rfl, hb8⟩
            go_wp2
            go_ret
            exact ⟨rfl, bl_nx HB7.out hb8⟩
          · have d0 : decide ((0 : Int) < (r : Int)) = true := by simp; omega
            have d0' : decide (0 < r) = true := by simp; omega
            by_cases hq : t.data.toList = (s.extract sr s.size).data.toList
            · have b1 : (t.toList == (s.extract sr s.size).toList) = true := beqS_t hq
              have HTL := Lib.hid (TLY.out (by omega) hq)
              clear hq
              go_wp2_with fail
              have hS8 := HT5.out
              refine (tabMatch_any wr V3.heap.size pt (w.heap.size + 1) (some w.heap.size) B s.size vI vS kv' pv LI LS (s.size / B) f weak wanted t _ _ _ HT5.out HSI.out.1 HSI.out.2 (Nat.le_trans HNn.out (by omega)) (by rw [HL1.out.1]; exact HNn.out) (by omega) hb2 (fun m hm => by injection hm with hm; omega) (markC_ideal ⟨SN, .inl rfl, H5.out.1⟩ (by unfold maxLen; omega) (by have := HSN.out; omega))).mono ?_
              rw [HML.out]
              rintro e w6 ⟨rfl, hK6, hG6⟩
              have hK6' : BkT (w.heap.size + 1) w.heap.size SN t w6 := hK6.elim id id
              have hT6 := HT5.out.grownO hG6 (fun m hm => by injection hm with hm; omega)
              have hB6 := bl_grow H5.out.2 hG6 (Nat.le_refl _)
              have H6 := Lib.hid (And.intro hK6' (And.intro hT6 hB6))
              clear hK6 hG6 hK6' hT6 hB6 hS8
              go_wp2_with fail
              refine (tabTail_any w6 V3.heap.size pt (w.heap.size + 1) (some w.heap.size) B s.size vI vS kv' pv LI LS _ t _ _ _ H6.out.2.1 (by rw [HL1.out.2]; omega) (by rw [HL1.out.1, HL1.out.2]) (by omega) hb2 (by omega) (fun h => by rw [HL1.out.2, HN.out]; exact (piece_last s B (by omega) h).2.1) (by omega) (fun m hm => by injection hm with hm; omega) (markC_ideal H6.out.1 (by unfold maxLen; omega) (by have := HSN.out; omega))).mono ?_
              rw [HTL.out]
              rintro e w7 ⟨rfl, -, hG7⟩
              have hB7 := bl_grow H6.out.2.2 hG7 (Nat.le_refl _)
              have HB7 := Lib.hid hB7
              clear hG7 hB7
              go_wp2_with fail
              refine (awake_sign _).mono ?_
              rintro e w8 ⟨rfl, hb8⟩
              go_wp2
              go_ret
              exact ⟨rfl, bl_nx HB7.out hb8⟩
            · have b1 : (t.toList == (s.extract sr s.size).toList) = false := beqS_f hq
              have HTL := Lib.hid (TLZ.out hq)
              clear hq
              go_wp2_with fail
              have hS8 := HT5.out
              refine (tabMatch_any wr V3.heap.size pt (w.heap.size + 1) (some w.heap.size) B s.size vI vS kv' pv LI LS (s.size / B) f weak wanted t _ _ _ HT5.out HSI.out.1 HSI.out.2 (Nat.le_trans HNn.out (by omega)) (by rw [HL1.out.1]; exact HNn.out) (by omega) hb2 (fun m hm => by injection hm with hm; omega) (markC_ideal ⟨SN, .inl rfl, H5.out.1⟩ (by unfold maxLen; omega) (by have := HSN.out; omega))).mono ?_
              rw [HML.out]
              rintro e w6 ⟨rfl, hK6, hG6⟩
              have hK6' : BkT (w.heap.size + 1) w.heap.size SN t w6 := hK6.elim id id
              have hT6 := HT5.out.grownO hG6 (fun m hm => by injection hm with hm; omega)
              have hB6 := bl_grow H5.out.2 hG6 (Nat.le_refl _)
              have H6 := Lib.hid (And.intro hK6' (And.intro hT6 hB6))
              clear hK6 hG6 hK6' hT6 hB6 hS8
              go_wp2_with fail
              refine (tabTail_any w6 V3.heap.size pt (w.heap.size + 1) (some w.heap.size) B s.size vI vS kv' pv LI LS _ t _ _ _ H6.out.2.1 (by rw [HL1.out.2]; omega) (by rw [HL1.out.1, HL1.out.2]) (by omega) hb2 (by omega) (fun h => by rw [HL1.out.2, HN.out]; exact (piece_last s B (by omega) h).2.1) (by omega) (fun m hm => by injection hm with hm; omega) (markC_ideal H6.out.1 (by unfold maxLen; omega) (by have := HSN.out; omega))).mono ?_
              rw [HTL.out]
              rintro e w7 ⟨rfl, -, hG7⟩
              have hB7 := bl_grow H6.out.2.2 hG7 (Nat.le_refl _)
              have HB7 := Lib.hid hB7
              clear hG7 hB7
              go_wp2_with fail
              refine (awake_sign _).mono ?_
              rintro e w8 ⟨rfl, hb8⟩
              go_wp2
              go_ret
              exact ⟨rfl, bl_nx HB7.out hb8⟩
        | false =>
          rw [if_neg Bool.false_ne_true] at hml
          have HML := Lib.hid hml
          clear hml
          by_cases hr0 : r = 0
          · subst hr0
            have d0 : decide ((0 : Int) < ((0 : Nat) : Int)) = false := by decide
            have htl := TLN.out (by omega)
            have HTL := Lib.hid htl
            clear htl
            go_wp2_with fail
            have hS8 := HT5.out
            refine (tabMatch_any wr V3.heap.size pt (w.heap.size + 1) (some w.heap.size) B s.size vI vS kv' pv LI LS (s.size / B) f weak wanted t _ _ _ HT5.out HSI.out.1 HSI.out.2 (Nat.le_trans HNn.out (by omega)) (by rw [HL1.out.1]; exact HNn.out) (by omega) hb2 (fun m hm => by injection hm with hm; omega) (markC_ideal ⟨SN, .inl rfl, H5.out.1⟩ (by unfold maxLen; omega) (by have := HSN.out; omega))).mono ?_
            rw [HML.out]
            rintro e w6 ⟨rfl, hK6, hG6⟩
            have hK6' : BkT (w.heap.size + 1) w.heap.size SN t w6 := hK6.elim id id
            have hT6 := HT5.out.grownO hG6 (fun m hm => by injection hm with hm; omega)
            have hB6 := bl_grow H5.out.2 hG6 (Nat.le_refl _)
            have H6 := Lib.hid (And.intro hK6' (And.intro hT6 hB6))
            clear hK6 hG6 hK6' hT6 hB6 hS8
            go_wp2_with fail
            refine (tabTail_any w6 V3.heap.size pt (w.heap.size + 1) (some w.heap.size) B s.size vI vS kv' pv LI LS _ t _ _ _ H6.out.2.1 (by rw [HL1.out.2]; omega) (by rw [HL1.out.1, HL1.out.2]) (by omega) hb2 (by omega) (fun h => by rw [HL1.out.2, HN.out]; exact (piece_last s B (by omega) h).2.1) (by omega) (fun m hm => by injection hm with hm; omega) (markC_ideal H6.out.1 (by unfold maxLen; omega) (by have := HSN.out; omega))).mono ?_
            rw [HTL.out]
            rintro e w7 ⟨rfl, -, hG7⟩
            have hB7 := bl_grow H6.out.2.2 hG7 (Nat.le_refl _)
            have HB7 := Lib.hid hB7
            clear hG7 hB7
            go_wp2_with fail
            refine (awake_sign _).mono ?_
            rintro e w8 ⟨rfl, hb8⟩
            go_wp2
            go_ret
            exact ⟨rfl, bl_nx HB7.out hb8⟩
          · have d0 : decide ((0 : Int) < (r : Int)) = true := by simp; omega
            have d0' : decide (0 < r) = true := by simp; omega
            by_cases hq : t.data.toList = (s.extract sr s.size).data.toList
            · have b1 : (t.toList == (s.extract sr s.size).toList) = true := beqS_t hq
              have HTL := Lib.hid (TLY.out (by omega) hq)
              clear hq
              go_wp2_with fail
              have hS8 := HT5.out
              refine (tabMatch_any wr V3.heap.size pt (w.heap.size + 1) (some w.heap.size) B s.size vI vS kv' pv LI LS (s.size / B) f weak wanted t _ _ _ HT5.out HSI.out.1 HSI.out.2 (Nat.le_trans HNn.out (by omega)) (by rw [HL1.out.1]; exact HNn.out) (by omega) hb2 (fun m hm => by injection hm with hm; omega) (markC_ideal ⟨SN, .inl rfl, H5.out.1⟩ (by unfold maxLen; omega) (by have := HSN.out; omega))).mono ?_
              rw [HML.out]
              rintro e w6 ⟨rfl, hK6, hG6⟩
              have hK6' : BkT (w.heap.size + 1) w.heap.size SN t w6 := hK6.elim id id
              have hT6 := HT5.out.grownO hG6 (fun m hm => by injection hm with hm; omega)
              have hB6 := bl_grow H5.out.2 hG6 (Nat.le_refl _)
              have H6 := Lib.hid (And.intro hK6' (And.intro hT6 hB6))
              clear hK6 hG6 hK6' hT6 hB6 hS8
              go_wp2_with fail
              refine (tabTail_any w6 V3.heap.size pt (w.heap.size + 1) (some w.heap.size) B s.size vI vS kv' pv LI LS _ t _ _ _ H6.out.2.1 (by rw [HL1.out.2]; omega) (by rw [HL1.out.1, HL1.out.2]) (by omega) hb2 (by omega) (fun h => by rw [HL1.out.2, HN.out]; exact (piece_last s B (by omega) h).2.1) (by omega) (fun m hm => by injection hm with hm; omega) (markC_ideal H6.out.1 (by unfold maxLen; omega) (by have := HSN.out; omega))).mono ?_
              rw [HTL.out]
              rintro e w7 ⟨rfl, -, hG7⟩
              have hB7 := bl_grow H6.out.2.2 hG7 (Nat.le_refl _)
              have HB7 := Lib.hid hB7
              clear hG7 hB7
              go_wp2_with fail
              refine (awake_sign _).mono ?_
              rintro e w8 ⟨rfl, hb8⟩
              go_wp2
              go_ret
              exact ⟨rfl, bl_nx HB7.out hb8⟩
            · have b1 : (t.toList == (s.extract sr s.size).toList) = false := beqS_f hq
              have HTL := Lib.hid (TLZ.out hq)
              clear hq
              go_wp2_with fail
              have hS8 := HT5.out
              refine (tabMatch_any wr V3.heap.size pt (w.heap.size + 1) (some w.heap.size) B s.size vI vS kv' pv LI LS (s.size / B) f weak wanted t _ _ _ HT5.out HSI.out.1 HSI.out.2 (Nat.le_trans HNn.out (by omega)) (by rw [HL1.out.1]; exact HNn.out) (by omega) hb2 (fun m hm => by injection hm with hm; omega) (markC_ideal ⟨SN, .inl rfl, H5.out.1⟩ (by unfold maxLen; omega) (by have := HSN.out; omega))).mono ?_
              rw [HML.out]
              rintro e w6 ⟨rfl, hK6, hG6⟩
              have hK6' : BkT (w.heap.size + 1) w.heap.size SN t w6 := hK6.elim id id
              have hT6 := HT5.out.grownO hG6 (fun m hm => by injection hm with hm; omega)
              have hB6 := bl_grow H5.out.2 hG6 (Nat.le_refl _)
              have H6 := Lib.hid (And.intro hK6' (And.intro hT6 hB6))
              clear hK6 hG6 hK6' hT6 hB6 hS8
              go_wp2_with fail
              refine (tabTail_any w6 V3.heap.size pt (w.heap.size + 1) (some w.heap.size) B s.size vI vS kv' pv LI LS _ t _ _ _ H6.out.2.1 (by rw [HL1.out.2]; omega) (by rw [HL1.out.1, HL1.out.2]) (by omega) hb2 (by omega) (fun h => by rw [HL1.out.2, HN.out]; exact (piece_last s B (by omega) h).2.1) (by omega) (fun m hm => by injection hm with hm; omega) (markC_ideal H6.out.1 (by unfold maxLen; omega) (by have := HSN.out; omega))).mono ?_
              rw [HTL.out]
              rintro e w7 ⟨rfl, -, hG7⟩
              have hB7 := bl_grow H6.out.2.2 hG7 (Nat.le_refl _)
              have HB7 := Lib.hid hB7
              clear hG7 hB7
              go_wp2_with fail
              refine (awake_sign _).mono ?_
              rintro e w8 ⟨rfl, hb8⟩
              go_wp2
              go_ret
              exact ⟨rfl, bl_nx HB7.out hb8⟩
  · have hbd : ¬ (16 ≤ block ∧ block ≤ 1024) := hf
    refine (sign_bad w1 _ s block wb hf).mono ?_
    rintro e w2 ⟨rfl, hb2⟩
    have hB2 := bl_nx hB1 hb2
    have HB2 := Lib.hid hB2
    have HBW := Lib.hid (bl_alloc hB2 (Obj.cells #[.int .i64 0, .int .i64 0, .slice none 0 0, .slice none 0 0] 31))
    obtain ⟨V3, hV3⟩ : ∃ V, V = w2.alloc (Obj.cells #[.int .i64 0, .int .i64 0, .slice none 0 0, .slice none 0 0] 31) := ⟨_, rfl⟩
    rw [← hV3] at HBW
    have HV3 := Lib.hid hV3
    clear hV3 hB2 hb2 hbd hI1 hB1
    by_cases h1 : block < 16
    · have e1 : decide (block < 16) = true := by simpa using h1
      go_upto_region 5 with fail
      rw [← HV3.out]
      go_wp2_with fail
      refine (awake_sign _).mono ?_
      rintro e w8 ⟨rfl, hb8⟩
      go_wp2
      go_ret
      exact ⟨rfl, bl_nx HBW.out hb8⟩
    · have e1 : decide (block < 16) = false := by simp; omega
      have e2 : decide ((1024 : Int) < block) = true := by simp; omega
      clear hf
      go_upto_region 5 with fail
      rw [← HV3.out]
      go_wp2_with fail
      refine (awake_sign _).mono ?_
      rintro e w8 ⟨rfl, hb8⟩
      go_wp2
      go_ret
      exact ⟨rfl, bl_nx HBW.out hb8⟩
end Go.Proofs.Ytfcfgkhdlpgbdaa
