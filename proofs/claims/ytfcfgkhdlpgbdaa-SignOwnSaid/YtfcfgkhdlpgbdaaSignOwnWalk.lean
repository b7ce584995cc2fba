/- SignOwn: the walk. Conditions: as named in each theorem. -/
import Derived.Test.YtfcfgkhdlpgbdaaOwnMath
import Derived.Test.YtfcfgkhdlpgbdaaSignMatchesWalk
namespace Go.Proofs.Ytfcfgkhdlpgbdaa
open Go.RowKit
set_option linter.unusedVariables false

theorem markC_own {w : World} {p m : Nat} {SN : Bk} {t : ByteArray} (h : BookI w p m SN) (hm : bytesOf t ∈ SN) (ht : t.size ≤ maxLen) (hn : SN.length ≤ 1000000) :
    MarkC w p (some m) t (numS (SN.idxOf (bytesOf t) + 1)) (fun a => BookI a p m SN) (fun a => BookI a p m SN) where
  k0 := h
  next := fun a b h hb => h.next hb
  next' := fun a b h hb => h.next hb
  mark := by
    intro a h _
    refine (mark_as h ht (by omega) _ SN rfl (by show addS SN (bytesOf t) = SN; rw [addS, if_pos hm])).mono ?_
    rintro e w' ⟨rfl, h1, h2⟩
    exact ⟨rfl, h1, h2⟩
structure OwnI (w a : World) (p8 pt B0 B z n : Nat) (aw : Option Addr) (kw : Nat) (v3 : Value) (ab : Option Addr) (kb : Nat) (vI vS kv pv : Value) (LI : List Int) (LS L : List ByteArray) (P : List Int) (SN : Bk) : Prop where
  g : Blk a p8 [.int .i64 B, .int .i64 z, .slice aw n kw, v3] 31
  iw : RowI a (w.heap.size + 1) (.slice aw n kw) LI
  lb : RowS a (w.heap.size + 1) (.slice ab n kb) L
  t : Tab B0 a pt B z vI vS kv pv LI LS P
  k : BookI a (w.heap.size + 1) w.heap.size SN
  bl : Below w.heap.size w a
  p8m : w.heap.size < p8
  b0m : w.heap.size < B0
section
variable {w a b : World} {p8 pt B0 B z n : Nat} {aw : Option Addr} {kw : Nat} {v3 : Value} {ab : Option Addr} {kb : Nat} {vI vS kv pv : Value} {LI : List Int} {LS L : List ByteArray} {P : List Int} {SN : Bk}
theorem OwnI.step (h : OwnI w a p8 pt B0 B z n aw kw v3 ab kb vI vS kv pv LI LS L P SN) (hk : BookI b (w.heap.size + 1) w.heap.size SN) (hg : a.grownBy b (some w.heap.size)) : OwnI w b p8 pt B0 B z n aw kw v3 ab kb vI vS kv pv LI LS L P SN :=
  ⟨h.g.grown hg (by have := h.p8m; simp; omega), World.ownsRow.kept h.iw hg (.inr (owns_ne h.iw (Nat.lt_succ_self _))), World.ownsRow.kept h.lb hg (.inr (owns_ne h.lb (Nat.lt_succ_self _))), h.t.grown hg h.b0m, hk, bl_grow h.bl hg (Nat.le_refl _), h.p8m, h.b0m⟩
theorem OwnI.drew (h : OwnI w a p8 pt B0 B z n aw kw v3 ab kb vI vS kv pv LI LS L P SN) : OwnI w a.drew p8 pt B0 B z n aw kw v3 ab kb vI vS kv pv LI LS L P SN :=
  h.step (h.k.next (bl_drew (Below.refl _ _))) (grown_drew (grown_refl _ _))
end
theorem own_cells {w a : World} {p8 pt B0 B z n : Nat} {bW oW bL oL : Nat} {kw : Nat} {v3 : Value} {kb : Nat} {vI vS kv pv : Value} {LI : List Int} {LS L : List ByteArray} {P : List Int} {SN : Bk} {i j : Nat} {y : Int} {x x2 : ByteArray}
    (h : OwnI w a p8 pt B0 B z n (some ⟨bW, oW, none⟩) kw v3 (some ⟨bL, oL, none⟩) kb vI vS kv pv LI LS L P SN) (h1 : LI.length = n) (h2 : L.length = n) (hi : i < n) (hj : j < n) (hy : LI[i]? = some y) (hx : L[i]? = some x) (hx2 : L[j]? = some x2) :
    a.cell? ⟨p8, 2, none⟩ = some (.slice (some ⟨bW, oW, none⟩) n kw) ∧ a.cell? ⟨bW, oW + i, none⟩ = some (.int .i64 y) ∧ a.cell? ⟨bL, oL + i, none⟩ = some (.string x) ∧ a.cell? ⟨bL, oL + j, none⟩ = some (.string x2) := by
  obtain ⟨b1, o1, x1, e1, g1, c1⟩ := (RowI.rs h.iw h1).one hi
  obtain ⟨b2, o2, x3, e2, g2, c2⟩ := (RowS.rs h.lb h2).one hi
  obtain ⟨b3, o3, x4, e3, g3, c3⟩ := (RowS.rs h.lb h2).one hj
  injection e1 with e1
  injection e1 with e1 f1
  injection e2 with e2
  injection e2 with e2 f2
  injection e3 with e3
  injection e3 with e3 f3
  subst e1 f1 e2 f2 e3 f3
  rw [hy] at g1
  rw [hx] at g2
  rw [hx2] at g3
  injection g1 with g1
  injection g2 with g2
  injection g3 with g3
  subst g1 g2 g3
  exact ⟨h.g.cell (i := 2) rfl, c1, c2, c3⟩

set_option maxRecDepth 100000 in
set_option maxHeartbeats 16000000 in
theorem signOwn_walk (w : World) (s0 : ByteArray) (hs0 : s0.size ≤ 140737488351232) (block : Int) (wb : (Lit.int .i64 block).wf = true) :
    Calls Try.prog 13 #[.string s0, .int .i64 block] w fun e w' => e = .returned (.bool true) ∧ Below w.heap.size w w' := by
  have hcs := cutS_size s0 2000
  go_enter Try.func13, Try.ntmps13
  go_wp2_with fail
  refine (cut_any s0 2000 _ (by unfold maxLen; omega) (by decide)).mono ?_
  rintro e w' ⟨rfl, rfl⟩
  obtain ⟨s, hs⟩ : ∃ s, s = cutS s0 2000 := ⟨_, rfl⟩
  rw [← hs] at hcs
  rw [← hs]
  clear hs hs0
  go_wp2_with fail
  refine (ideal_any _).mono ?_
  rintro e w1 ⟨rfl, hI1, hB1⟩
  go_wp2_with fail
  by_cases hf : 16 ≤ block ∧ block ≤ 1024
  · obtain ⟨B, rfl⟩ : ∃ B : Nat, block = B := ⟨block.toNat, by omega⟩
    have hb1 : 16 ≤ B := by omega
    have hb2 : B ≤ 1024 := by omega
    have l1 : decide ((B : Int) < 16) = false := by simp; omega
    have l2 : decide ((1024 : Int) < (B : Int)) = false := by simp; omega
    clear hf
    obtain ⟨n, hn⟩ : ∃ n, n = cnt s.size B := ⟨_, rfl⟩
    have hn3 : n ≤ 2000 := by rw [hn]; exact Nat.le_trans (cnt_le (by omega)) hcs
    have hsl1 := marksOf_len [] (pieces s B n)
    have hsl2 : ((pieces s B n).map weakI).length = n := by rw [List.length_map, pieces_len]
    rw [pieces_len] at hsl1
    have hOK := sign_ok s B (marksOf [] (pieces s B n)).2 hb1 hb2 (by omega) (by rw [← hn]; exact hsl1) (marks_size _ _)
    rw [← hn] at hOK
    have hsn := fold_addS_len ((pieces s B n).map bytesOf) []
    rw [← marksOf_seen, List.length_map, pieces_len] at hsn
    simp only [List.length_nil, Nat.zero_add] at hsn
    have h32 := marks_size [] (pieces s B n)
    have hNn : s.size / B ≤ n := by rw [hn]; exact div_le_cnt s B (by omega)
    refine (sign_ideal w1 (w.heap.size + 1) w.heap.size [] s B hI1 (by omega) hb1 hb2 (by simp)).mono ?_
    rw [← hn]
    have HN := Lib.hid hn
    clear hn
    rintro e w2 ⟨wv, sv, rfl, hW2, hS2, hI2, hg2⟩
    obtain ⟨LI, hLI⟩ : ∃ L, L = (pieces s B n).map weakI := ⟨_, rfl⟩
    obtain ⟨MK, hMK⟩ : ∃ M, M = marksOf [] (pieces s B n) := ⟨_, rfl⟩
    obtain ⟨SN, LS⟩ := MK
    have hw2 : w1.heap.size ≤ w2.heap.size := hg2.size
    have hBl2 : Below w.heap.size w w2 := bl_grow hB1 hg2 (Nat.le_refl _)
    rw [← hLI] at hW2 hsl2 hOK
    rw [← hMK] at hS2 hI2 hsl1 hOK hsn h32
    simp only at hS2 hI2 hsl1 hOK hsn h32
    obtain ⟨aw, kw, rfl⟩ := slice_of hW2
    obtain ⟨av, kv, rfl⟩ := slice_of hS2
    rw [hsl2] at hW2
    rw [hsl1] at hS2
    rw [hsl2, hsl1]
    obtain ⟨V3, hV3⟩ : ∃ V, V = w2.alloc (Obj.cells #[.int .i64 B, .int .i64 s.size, .slice aw n kw, .slice av n kv] 31) := ⟨_, rfl⟩
    obtain ⟨p8, hp8⟩ : ∃ q, q = w2.heap.size := ⟨_, rfl⟩
    have hgV : w2.grownBy V3 none := by rw [hV3]; exact grown_alloc (grown_refl _ _) _
    have hG3 : Blk V3 p8 [.int .i64 B, .int .i64 s.size, .slice aw n kw, .slice av n kv] 31 := by rw [hV3, hp8]; exact Blk.new w2 _ _
    have hW3 : RowI V3 w1.heap.size (.slice aw n kw) LI := World.ownsRow.kept hW2 hgV (by cases (Value.slice aw n kw).ownBlock <;> simp)
    have hS3 : RowS V3 w1.heap.size (.slice av n kv) LS := World.ownsRow.kept hS2 hgV (by cases (Value.slice av n kv).ownBlock <;> simp)
    have hI3 : BookI V3 (w.heap.size + 1) w.heap.size SN := hI2.grown hgV (by simp) (by simp)
    have hB3 : Below w.heap.size w V3 := by rw [hV3]; exact bl_alloc hBl2 _
    have hm3 : w.heap.size < V3.heap.size := by have := hI3.2.2.2.2.1.2; exact this
    have c0 := hG3.cell (i := 0) rfl
    have c1 := hG3.cell (i := 1) rfl
    have c2 := hG3.cell (i := 2) rfl
    have c3 := hG3.cell (i := 3) rfl
    have HRW := Lib.hid (RowI.rs hW3 hsl2)
    have HRS := Lib.hid (RowS.rs hS3 hsl1)
    have hwfW : ∀ x ∈ LI, (Lit.int .i64 x).wf = true := sigOk_wfW hOK
    have hmxT : ∀ x ∈ LS, x.size ≤ maxLen := fun x hx => by have := h32 x hx; unfold maxLen; omega
    have HC1 := Lib.hid (newTab_ok V3 B s.size aw n kw av n kv LI LS (wfI _ (by omega) (by omega)) (wfI _ (by omega) (by omega)) HRW.out HRS.out hwfW hmxT (by omega) (by omega) hOK)
    have HG3 := Lib.hid (And.intro hG3 (And.intro (owns_mono hW3 (by have := hI1.2.2.2.2.1; omega) : RowI V3 (w.heap.size + 1) (.slice aw n kw) LI) hB3))
    have HPM := Lib.hid (by have := hI2.2.2.2.2.1; have h2 : V3.heap.size = w2.heap.size + 1 := by rw [hV3]; simp
                            exact ⟨by omega, by omega⟩ : w.heap.size < p8 ∧ w.heap.size < V3.heap.size)
    have HBK := Lib.hid (And.intro hI3 hB3)
    have HV3 := Lib.hid hV3
    have HP8 := Lib.hid hp8
    have HLI := Lib.hid hLI
    have HMK := Lib.hid hMK
    have HSN := Lib.hid hsn
    have HL1 := Lib.hid (And.intro hsl1 hsl2)
    have HNn := Lib.hid hNn
    clear hV3 hp8 hgV hG3 hW3 hS3 hI3 hB3 hW2 hS2 hI2 hg2 hBl2 hI1 hB1 hOK hLI hMK hsn h32 hsl1 hsl2 hwfW hmxT hNn hw2
    go_upto_region 4 with fail
    rw [← HP8.out, ← HV3.out]
    go_wp2_with fail
    refine HC1.out.mono ?_
    rintro e w4 ⟨pt, vI, vS, kv', pv, f, rfl, hTab, hSrt, hInB, hb4⟩
    have HB4S := Lib.hid hb4.size
    have H4 := Lib.hid (And.intro (HBK.out.1.next hb4) (bl_nx HBK.out.2 hb4))
    have HTB := Lib.hid hTab
    have HG4 := Lib.hid (And.intro (HG3.out.1.belowB hb4) (owns_next HG3.out.2.1 hb4))
    have HSI := Lib.hid (And.intro hSrt hInB)
    clear hTab hSrt hInB hb4 HC1 HRW HRS c0 c1 c2 c3 HV3 HP8
    go_wp2_with fail
    refine (refBlocks_any w4 s B (by omega) hb1 hb2).mono ?_
    rw [← HN.out]
    rintro e w5 ⟨vb, rfl, hSb, hb5⟩
    obtain ⟨ab, kb, rfl⟩ := slice_of hSb
    rw [pieces_len] at hSb ⊢
    have HSB := Lib.hid (RowS.rs hSb (pieces_len _ _ _) : Rs w5 ab n kb 1 (pieces s B n) _)
    have HT5 := Lib.hid (HTB.out.next hb5)
    have HG5 := Lib.hid (And.intro (HG4.out.1.belowB hb5) (And.intro (owns_next HG4.out.2 hb5) (owns_mono hSb (by have := HPM.out; have := HB4S.out; omega) : RowS w5 (w.heap.size + 1) (.slice ab n kb) (pieces s B n))))
    have H5 := Lib.hid (And.intro (H4.out.1.next hb5) (bl_nx H4.out.2 hb5))
    clear hSb hb5 HTB H4 HBK
    have hOWN : OwnI w w5 p8 pt V3.heap.size B s.size n aw kw (.slice av n kv) ab kb vI vS kv' pv LI LS (pieces s B n) (plc (s.size / B) f) SN := ⟨HG5.out.1, HG5.out.2.1, HG5.out.2.2, HT5.out, H5.out.1, H5.out.2, by have h1 := HPM.out; omega, by have h1 := HPM.out; omega⟩
    have HOWN := Lib.hid hOWN
    have c2 := hOWN.g.cell (i := 2) rfl
    clear hOWN HT5 H5 HG5
    go_wp2_with fail
    go_loopw [11, 12] (fun z _ wr => ∃ i : Nat, z = .int .i64 i ∧ i ≤ n ∧ OwnI w wr p8 pt V3.heap.size B s.size n aw kw (.slice av n kv) ab kb vI vS kv' pv LI LS (pieces s B n) (plc (s.size / B) f) SN) (fun z _ _ => n - (intOf z).toNat)
    case atStart => exact ⟨0, rfl, by omega, HOWN.out⟩
    case round =>
      clear HOWN c2
      obtain ⟨i, rfl, hi, hO⟩ := hrel
      have HO := Lib.hid hO
      clear hO
      by_cases hlt : (i : Int) < (n : Int)
      · have hin : i < n := by omega
        obtain ⟨x, hx⟩ : ∃ x, x = piece s B i := ⟨_, rfl⟩
        have hLx : (pieces s B n)[i]? = some x := by rw [pieces_get s B n i hin, hx]
        obtain ⟨bL, oL, x', rfl, hx', cx⟩ := (RowS.rs HO.out.lb (pieces_len _ _ _)).one hin
        obtain ⟨bW, oW, y, rfl, hy, cy⟩ := (RowI.rs HO.out.iw HL1.out.2).one hin
        rw [hLx] at hx'
        injection hx' with hx'
        subst hx'
        have hyx : y = weakI x := by
          rw [HLI.out, List.getElem?_map, hLx] at hy
          injection hy with hy
          exact hy.symm
        have hxs : x.size ≤ 2000 := by rw [hx]; exact Nat.le_trans (piece_size s B i) hcs
        have hmem : bytesOf x ∈ SN := by rw [hx]; exact blk_mem HMK.out hin
        have HLX := Lib.hid hLx
        have HY := Lib.hid hy
        have HX := Lib.hid hx
        have HYX := Lib.hid hyx
        have hMA : ∀ (a : World) (wanted : Int), OwnI w a p8 pt V3.heap.size B s.size n (some ⟨bW, oW, none⟩) kw (.slice av n kv) (some ⟨bL, oL, none⟩) kb vI vS kv' pv LI LS (pieces s B n) (plc (s.size / B) f) SN → Calls Try.prog 30 #[.pointer (some ⟨pt, 0, none⟩), .pointer (some ⟨w.heap.size + 1, 0, none⟩), .int .i64 y, .string x, .int .i64 wanted] a fun e b => e = .returned (.int .i64 (if lawIs s B x (weakI x) wanted n 0 = true then wanted else lawM s B x (weakI x) n 0)) ∧ OwnI w b p8 pt V3.heap.size B s.size n (some ⟨bW, oW, none⟩) kw (.slice av n kv) (some ⟨bL, oL, none⟩) kb vI vS kv' pv LI LS (pieces s B n) (plc (s.size / B) f) SN := by
          intro a wanted hA
          rw [hyx]
          refine (tabMatch_any a V3.heap.size pt (w.heap.size + 1) (some w.heap.size) B s.size vI vS kv' pv LI LS (s.size / B) f (weakI x) wanted x _ _ _ hA.t HSI.out.1 HSI.out.2 (Nat.le_trans HNn.out (by omega)) (by rw [HL1.out.1]; exact HNn.out) (by omega) hb2 (fun m hm => by injection hm with hm; have := hA.b0m; omega) (markC_own hA.k hmem (by unfold maxLen; omega) (by have := HSN.out; omega))).mono ?_
          rintro e b ⟨rfl, hK, hG⟩
          have hml := match_law (t := x) (weak := weakI x) (wanted := wanted) (by omega : 0 < B) HN.out (by omega) HMK.out
          rw [← HLI.out] at hml
          exact ⟨by rw [hml], hA.step (hK.elim id id) hG⟩
        have HMA := Lib.hid hMA
        have c2 := HO.out.g.cell (i := 2) rfl
        clear hMA hy hyx hLx
        by_cases hsz : x.size = B
        · have hwh : (piece s B i).size = B := by rw [← hx]; exact hsz
          obtain ⟨j, hj1, hj2, hj3⟩ := own_first hin hwh
          have hi1 := own_is hin hwh
          have hn1 := own_not s B n x (weakI x)
          rw [← hx] at hj1 hj3 hi1
          have hjn : j < n := by omega
          obtain ⟨x2, hx2⟩ : ∃ x2, x2 = piece s B j := ⟨_, rfl⟩
          have hLx2 : (pieces s B n)[j]? = some x2 := by rw [pieces_get s B n j hjn, hx2]
          rw [← hx2] at hj3
          have hM1 : ∀ a, OwnI w a p8 pt V3.heap.size B s.size n (some ⟨bW, oW, none⟩) kw (.slice av n kv) (some ⟨bL, oL, none⟩) kb vI vS kv' pv LI LS (pieces s B n) (plc (s.size / B) f) SN → Calls Try.prog 30 #[.pointer (some ⟨pt, 0, none⟩), .pointer (some ⟨w.heap.size + 1, 0, none⟩), .int .i64 y, .string x, .int .i64 (-1)] a fun e b => e = .returned (.int .i64 (j : Nat)) ∧ OwnI w b p8 pt V3.heap.size B s.size n (some ⟨bW, oW, none⟩) kw (.slice av n kv) (some ⟨bL, oL, none⟩) kb vI vS kv' pv LI LS (pieces s B n) (plc (s.size / B) f) SN := fun a hA => by
            have h := HMA.out a (-1) hA
            rw [hn1, if_neg Bool.false_ne_true, hj1] at h
            exact h
          have hM2 : ∀ a, OwnI w a p8 pt V3.heap.size B s.size n (some ⟨bW, oW, none⟩) kw (.slice av n kv) (some ⟨bL, oL, none⟩) kb vI vS kv' pv LI LS (pieces s B n) (plc (s.size / B) f) SN → Calls Try.prog 30 #[.pointer (some ⟨pt, 0, none⟩), .pointer (some ⟨w.heap.size + 1, 0, none⟩), .int .i64 y, .string x, .int .i64 (i : Nat)] a fun e b => e = .returned (.int .i64 (i : Nat)) ∧ OwnI w b p8 pt V3.heap.size B s.size n (some ⟨bW, oW, none⟩) kw (.slice av n kv) (some ⟨bL, oL, none⟩) kb vI vS kv' pv LI LS (pieces s B n) (plc (s.size / B) f) SN := fun a hA => by
            have h := HMA.out a (i : Int) hA
            rw [if_pos hi1] at h
            exact h
          have HCL : ∀ a, OwnI w a p8 pt V3.heap.size B s.size n (some ⟨bW, oW, none⟩) kw (.slice av n kv) (some ⟨bL, oL, none⟩) kb vI vS kv' pv LI LS (pieces s B n) (plc (s.size / B) f) SN → a.cell? ⟨p8, 2, none⟩ = some (.slice (some ⟨bW, oW, none⟩) n kw) ∧ a.cell? ⟨bW, oW + i, none⟩ = some (.int .i64 y) ∧ a.cell? ⟨bL, oL + i, none⟩ = some (.string x) ∧ a.cell? ⟨bL, oL + j, none⟩ = some (.string x2) := fun a hA => own_cells hA HL1.out.2 (pieces_len _ _ _) hin hjn HY.out HLX.out hLx2
          have HM1 := Lib.hid hM1
          have HM2 := Lib.hid hM2
          have HCLL := Lib.hid HCL
          have d1 : decide ((x.size : Int) < (B : Int)) = false := by simp; omega
          have jn : (j : Int) < (n : Int) := by omega
          have d2 : decide ((j : Int) < 0) = false := by simp
          have d3 : decide ((i : Int) < (j : Int)) = false := by simp; omega
          have d3' : decide (i < j) = false := by simp; omega
          have b1 : (x2.toList == x.toList) = true := beqS_t hj3
          have e1 : ((i : Int) != (i : Int)) = false := by simp
          clear hx hwh hj1 hj3 hi1 hn1 hx2 hLx2 hM1 hM2 HCL hmem
          go_wp2_with fail
          obtain ⟨q1, q2, q3, q4⟩ := HCLL.out _ HO.out.drew
          go_region_held3 (fun w' => w'.cell? ⟨p8, 2, none⟩ = some (.slice (some ⟨bW, oW, none⟩) n kw) ∧ w'.cell? ⟨bW, oW + i, none⟩ = some (.int .i64 y) ∧ w'.cell? ⟨bL, oL + i, none⟩ = some (.string x) ∧ w'.cell? ⟨bL, oL + j, none⟩ = some (.string x2))
            (first | exact HH | exact ⟨q1, q2, q3, q4⟩)
            (first
              | (go_at_call 30; refine (HM1.out _ HO.out.drew).mono ?_; rintro e w7 ⟨rfl, hO7⟩; have HH := HCLL.out _ hO7))
          have HO7 := Lib.hid hO7
          clear q1 q2 q3 q4 HH hO7 cx cy c2
          go_wp2_with fail
          obtain ⟨q1, q2, q3, q4⟩ := HCLL.out _ HO7.out.drew
          go_region_held3 (fun w' => w'.cell? ⟨p8, 2, none⟩ = some (.slice (some ⟨bW, oW, none⟩) n kw) ∧ w'.cell? ⟨bW, oW + i, none⟩ = some (.int .i64 y) ∧ w'.cell? ⟨bL, oL + i, none⟩ = some (.string x) ∧ w'.cell? ⟨bL, oL + j, none⟩ = some (.string x2))
            (first | exact HH | exact ⟨q1, q2, q3, q4⟩)
            (first
              | (go_at_call 30; refine (HM2.out _ HO7.out.drew).mono ?_; rintro e w8 ⟨rfl, hO8⟩; have HH := HCLL.out _ hO8))
          all_goals (
            have HO8 := Lib.hid hO8
            clear q1 q2 q3 q4 HH hO8
            go_wp2
            go_roundw
            case rel => exact ⟨i + 1, by go_num, by omega, HO8.out⟩
            case measure => simp [intOf] <;> omega)
        · have hsh := blk_short (by omega : 0 < B) HN.out hin (by rw [← hx]; exact hsz)
          rw [← hx] at hsh
          have htl := tail_law (t := x) (by omega : 0 < B) HN.out (by omega) HMK.out
          rw [← HLI.out, decide_eq_true hsh] at htl
          have hxlt : x.size < B := by
            have h3 : x.size ≤ B := by rw [hx]; unfold piece; rw [ByteArray.size_extract, Nat.add_mul, Nat.one_mul]; omega
            omega
          have d1 : decide ((x.size : Int) < (B : Int)) = true := by simp; omega
          have hTL := tabTail_any wr V3.heap.size pt (w.heap.size + 1) (some w.heap.size) B s.size vI vS kv' pv LI LS _ x _ _ _ HO.out.t (by rw [HL1.out.2]; omega) (by rw [HL1.out.1, HL1.out.2]) (by omega) hb2 (by omega) (fun h => by rw [HL1.out.2, HN.out]; exact (piece_last s B (by omega) h).2.1) (by omega) (fun m hm => by injection hm with hm; have := HO.out.b0m; omega) (markC_own HO.out.k hmem (by unfold maxLen; omega) (by have := HSN.out; omega))
          rw [htl] at hTL
          have HTL := Lib.hid hTL
          clear hx hsh htl hTL hmem hsz
          go_wp2_with fail
          refine HTL.out.mono ?_
          rintro e w7 ⟨rfl, hK7, hG7⟩
          have HO7 := Lib.hid (HO.out.step (hK7.elim id id) hG7)
          clear hK7 hG7
          go_wp2
          go_roundw
          case rel => exact ⟨i + 1, by go_num, by omega, HO7.out⟩
          case measure => simp [intOf] <;> omega
      · have HBL := Lib.hid HO.out.bl
        go_wp2_with fail
        refine (awake_sign _).mono ?_
        rintro e w8 ⟨rfl, hb8⟩
        go_wp2
        go_ret
        exact ⟨rfl, bl_nx HBL.out hb8⟩
  · refine (sign_bad w1 _ s block wb hf).mono ?_
    rintro e w2 ⟨rfl, hb2⟩
    have hB2 := bl_nx hB1 hb2
    obtain ⟨V3, hV3⟩ : ∃ V, V = w2.alloc (Obj.cells #[.int .i64 0, .int .i64 0, .slice none 0 0, .slice none 0 0] 31) := ⟨_, rfl⟩
    obtain ⟨p8, hp8⟩ : ∃ q, q = w2.heap.size := ⟨_, rfl⟩
    have hG3 : Blk V3 p8 [.int .i64 0, .int .i64 0, .slice none 0 0, .slice none 0 0] 31 := by rw [hV3, hp8]; exact Blk.new w2 _ _
    have HBW := Lib.hid (by rw [hV3]; exact bl_alloc hB2 _ : Below w.heap.size w V3)
    have HC1 := Lib.hid (newTab_bad V3 0 0 none 0 0 none 0 0 [] [] (wfI 0 (by omega) (by omega)) (wfI 0 (by omega) (by omega)) (rs_nil _ _) (rs_nil _ _) (fun x h => by cases h) (fun x h => by cases h) (by omega) (by omega) (fun h => by have := h.1; omega))
    have c0 := hG3.cell (i := 0) rfl
    have c1 := hG3.cell (i := 1) rfl
    have c2 := hG3.cell (i := 2) rfl
    have c3 := hG3.cell (i := 3) rfl
    have HV3 := Lib.hid hV3
    have HP8 := Lib.hid hp8
    clear hV3 hB2 hb2 hI1 hB1 hG3 hp8
    by_cases h1 : block < 16
    · have e1 : decide (block < 16) = true := by simpa using h1
      clear hf
      go_upto_region 4 with fail
      rw [← HP8.out, ← HV3.out]
      go_wp2_with fail
      refine HC1.out.mono ?_
      rintro e w5 ⟨rfl, hb5⟩
      have HB5 := Lib.hid (bl_nx HBW.out hb5)
      clear hb5
      go_wp2_with fail
      refine (awake_sign _).mono ?_
      rintro e w8 ⟨rfl, hb8⟩
      go_wp2
      go_ret
      exact ⟨rfl, bl_nx HB5.out hb8⟩
    · have e1 : decide (block < 16) = false := by simp; omega
      have e2 : decide ((1024 : Int) < block) = true := by simp; omega
      clear hf
      go_upto_region 4 with fail
      rw [← HP8.out, ← HV3.out]
      go_wp2_with fail
      refine HC1.out.mono ?_
      rintro e w5 ⟨rfl, hb5⟩
      have HB5 := Lib.hid (bl_nx HBW.out hb5)
      clear hb5
      go_wp2_with fail
      refine (awake_sign _).mono ?_
      rintro e w8 ⟨rfl, hb8⟩
      go_wp2
      go_ret
      exact ⟨rfl, bl_nx HB5.out hb8⟩
end Go.Proofs.Ytfcfgkhdlpgbdaa
