/- SignSigns: the walk. No conditions. -/
import Derived.Test.YtfcfgkhdlpgbdaaSignFacts
namespace Go.Proofs.Ytfcfgkhdlpgbdaa
open Go.RowKit
set_option linter.unusedVariables false

theorem bookZ3_run (w : World) : (zeroValue 38).run Try.prog w = .ok (.agg #[.bool false, .slice none 0 0]) w := by kernel_rfl
theorem kept_below {w w' : World} {T : Nat → Prop} {B : Nat} (h : Kept T w w') (hB : B ≤ w.heap.size) (ht : ∀ k, T k → B ≤ k) : Below B w w' :=
  ⟨h.os, h.tape, h.output, h.size, fun k hk => h.block k (by omega) (fun e => by have := ht k e; omega)⟩
theorem bl_next2 {w W X : World} {T : Nat → Prop} (h : Below w.heap.size w W) (k : Kept T W X) (ht : ∀ k, T k → w.heap.size ≤ k) : Below w.heap.size w X :=
  Kept.below h k h.size (fun i hi e => by have := ht i e; omega)
theorem wf_size (s : ByteArray) (h : s.size ≤ 1000000000) : (Lit.int .i64 (s.size : Nat)).wf = true := by
  exact Go.WalkArith.wf_i64 (by omega)
theorem wf_nat (n : Int) (h0 : 0 ≤ n) (h : n ≤ 1000000000000) : (Lit.int .i64 n).wf = true := by
  exact Go.WalkArith.wf_i64 (by omega)
theorem sigOk_wf {b z : Int} {W : List Int} {T : List ByteArray} (h : sigOk b z W T) : ∀ x ∈ W, (Lit.int .i64 x).wf = true := by
  intro x hx
  obtain ⟨i, hi, rfl⟩ := List.getElem_of_mem hx
  have hT : i < T.length := by have := h.2.2.2.2.2.1; omega
  have := h.2.2.2.2.2.2 i hi _ _ (List.getElem?_eq_getElem hi) (List.getElem?_eq_getElem hT)
  exact wf_nat _ this.1 (by omega)
set_option maxRecDepth 100000 in
set_option maxHeartbeats 4000000 in
theorem signSigns_walk (w : World) (s0 : ByteArray) (hs0 : s0.size ≤ 140737488351232) (block : Int) (wb : (Lit.int .i64 block).wf = true) :
    Calls Try.prog 4 #[.string s0, .int .i64 block] w fun e w' => e = .returned (.bool true) ∧ Below w.heap.size w w' := by
  have hz3 := bookZ3_run
  have hcs := cutS_size s0 3000
  go_enter Try.func4, Try.ntmps4
  go_wp2_with fail
  refine (cut_any s0 3000 _ (by unfold maxLen; omega) (by decide)).mono ?_
  rintro e w' ⟨rfl, rfl⟩
  obtain ⟨s, hs⟩ : ∃ s, s = cutS s0 3000 := ⟨_, rfl⟩
  rw [← hs] at hcs
  rw [← hs]
  clear hs hs0
  go_wp2_with fail
  refine (ideal_any _).mono ?_
  rintro e w1 ⟨rfl, hI1, hB1⟩
  go_wp2_with fail
  by_cases hf : 16 ≤ block ∧ block ≤ 1024
  · obtain ⟨B, rfl⟩ : ∃ B : Nat, block = B := ⟨block.toNat, by omega⟩
    have hb1 : 16 ≤ B := by omega
    have hb2 : B ≤ 1024 := by omega
    clear hf
    obtain ⟨n, hn⟩ : ∃ n, n = cnt s.size B := ⟨_, rfl⟩
    have hn3 : n ≤ 3000 := by rw [hn]; exact Nat.le_trans (cnt_le (by omega)) hcs
    have HN := Lib.hid hn
    clear hn
    have hsl1 := marksOf_len [] (pieces s B n)
    have hsl2 : ((pieces s B n).map weakI).length = n := by rw [List.length_map, pieces_len]
    rw [pieces_len] at hsl1
    have hOK := sign_ok s B (marksOf [] (pieces s B n)).2 hb1 hb2 (by omega) (by rw [← HN.out]; exact hsl1) (marks_size _ _)
    rw [← HN.out] at hOK
    have hTK := marks_take [] (pieces s B n)
    have hsn := fold_addS_len ((pieces s B n).map bytesOf) []
    rw [← marksOf_seen, List.length_map, pieces_len] at hsn
    simp only [List.length_nil, Nat.zero_add] at hsn
    have h32 := marks_size [] (pieces s B n)
    refine (sign_ideal w1 (w.heap.size + 1) w.heap.size [] s B hI1 (by omega) hb1 hb2 (by simp)).mono ?_
    rw [← HN.out]
    rintro e w2 ⟨wv, sv, rfl, hW2, hS2, hI2, hg2⟩
    obtain ⟨LI, hLI⟩ : ∃ L, L = (pieces s B n).map weakI := ⟨_, rfl⟩
    obtain ⟨MK, hMK⟩ : ∃ M, M = marksOf [] (pieces s B n) := ⟨_, rfl⟩
    obtain ⟨SN, LS⟩ := MK
    have hw2 : w1.heap.size ≤ w2.heap.size := hg2.size
    have hBl2 : Below w.heap.size w w2 := bl_grow hB1 hg2 (Nat.le_refl _)
    rw [← hLI] at hW2 hsl2 hOK
    rw [← hMK] at hS2 hI2 hsl1 hOK hTK hsn h32
    simp only at hS2 hI2 hsl1 hOK hTK hsn h32
    obtain ⟨aw, kw, rfl⟩ := slice_of hW2
    obtain ⟨av, kv, rfl⟩ := slice_of hS2
    obtain ⟨V4, hV4⟩ : ∃ V, V = (w2.alloc (Obj.cells #[.int .i64 B, .int .i64 s.size, .slice aw LI.length kw, .slice av LS.length kv] 31)).alloc (Obj.cells #[.bool false, .slice none 0 0] 38) := ⟨_, rfl⟩
    obtain ⟨p8, hp8⟩ : ∃ q, q = w2.heap.size := ⟨_, rfl⟩
    obtain ⟨q, hq⟩ : ∃ q, q = w2.heap.size + 1 := ⟨_, rfl⟩
    have hgV : w2.grownBy V4 none := by rw [hV4]; exact grown_alloc (grown_alloc (grown_refl _ _) _) _
    have hG4 : Blk V4 p8 [.int .i64 B, .int .i64 s.size, .slice aw LI.length kw, .slice av LS.length kv] 31 := by rw [hV4, hp8]; exact (Blk.new w2 _ _).alloc _
    have hR4 : Blk V4 q [.bool false, .slice none 0 0] 38 := by
      have := Blk.new (w2.alloc (Obj.cells #[.int .i64 B, .int .i64 s.size, .slice aw LI.length kw, .slice av LS.length kv] 31)) [.bool false, .slice none 0 0] 38
      rw [World.size_alloc] at this
      rw [hV4, hq]; exact this
    have hV4s : V4.heap.size = q + 1 := by rw [hV4, hq]; simp
    have hW4 : RowI V4 w1.heap.size (.slice aw LI.length kw) LI := World.ownsRow.kept hW2 hgV (by cases (Value.slice aw LI.length kw).ownBlock <;> simp)
    have hS4 : RowS V4 w1.heap.size (.slice av LS.length kv) LS := World.ownsRow.kept hS2 hgV (by cases (Value.slice av LS.length kv).ownBlock <;> simp)
    have hI4 : BookI V4 (w.heap.size + 1) w.heap.size SN := hI2.grown hgV (by simp) (by simp)
    have hBl4 : Below w.heap.size w V4 := by rw [hV4]; exact bl_alloc (bl_alloc hBl2 _) _
    have hp1 : w.heap.size + 1 < w1.heap.size := hI1.2.2.2.2.1.1
    have hjw : ∀ j, (Value.slice aw LI.length kw).ownBlock = some j → j < q := fun j hj => by have := (World.ownsRow.lt hW2 j hj).2; omega
    have hjs : ∀ j, (Value.slice av LS.length kv).ownBlock = some j → j < q := fun j hj => by have := (World.ownsRow.lt hS2 j hj).2; omega
    have HREF := Lib.hid (refSign_any (ref_bookish q) V4 [] none s B (refK_new hR4) (by omega) hb1 hb2 (by simp))
    rw [← HN.out, ← hLI] at HREF
    have HMK : Hid ((SN, LS) = marksOf [] (pieces s B n)) := Lib.hid hMK
    have HALL := Lib.hid (And.intro hgV (And.intro hG4 (And.intro hV4s (And.intro hW4 (And.intro hS4 (And.intro hI4 (And.intro hBl4 (And.intro hp1 (And.intro hp8 (And.intro hq (And.intro hjw hjs)))))))))))
    have HV4 := Lib.hid hV4
    have HP8 := Lib.hid hp8
    have HQ := Lib.hid hq
    have HOK := Lib.hid hOK
    have HTK := Lib.hid hTK
    have H32 := Lib.hid h32
    have HL := Lib.hid (And.intro hsl1 hsl2)
    clear hLI hMK hgV hG4 hV4s hW4 hS4 hI4 hBl4 hp1 hV4 hOK hTK h32 hsl1 hsl2 hjw hjs hI1 hI2 hW2 hS2 hB1 hBl2 hg2 hR4 hp8 hq
    go_wp2_with fail
    rw [← HQ.out, ← HP8.out, ← HV4.out]
    refine HREF.out.mono ?_
    rintro e w5 ⟨wv2, sv2, F', rfl, hW5, hS5, hK5, hk5, hF5⟩
    rw [bMarks_addS, ← HMK.out] at hS5
    simp only at hS5
    obtain ⟨aw2, kw2, rfl⟩ := slice_of hW5
    obtain ⟨av2, kv2, rfl⟩ := slice_of hS5
    obtain ⟨p9, hp9⟩ : ∃ q, q = w5.heap.size := ⟨_, rfl⟩
    obtain ⟨V6, hV6⟩ : ∃ V, V = w5.alloc (Obj.cells #[.int .i64 B, .int .i64 s.size, .slice aw2 LI.length kw2, .slice av2 LS.length kv2] 31) := ⟨_, rfl⟩
    have HALL6 : Hid (Blk V6 p8 [.int .i64 B, .int .i64 s.size, .slice aw LI.length kw, .slice av LS.length kv] 31 ∧ Blk V6 p9 [.int .i64 B, .int .i64 s.size, .slice aw2 LI.length kw2, .slice av2 LS.length kv2] 31 ∧ RowI V6 w1.heap.size (.slice aw LI.length kw) LI ∧ RowS V6 w1.heap.size (.slice av LS.length kv) LS ∧ RowI V6 V4.heap.size (.slice aw2 LI.length kw2) LI ∧ RowS V6 V4.heap.size (.slice av2 LS.length kv2) LS ∧ BookI V6 (w.heap.size + 1) w.heap.size SN ∧ Below w.heap.size w V6) := by
      obtain ⟨hgV, hG4, hV4s, hW4, hS4, hI4, hBl4, hp1, hp8, hq, hjw, hjs⟩ := HALL.out
      have hka : Kept (fun _ => False) w5 V6 := by rw [hV6]; exact kept_alloc _ _
      have hkq := hk5.trans hka (U := fun _ => False) (by simp)
      have hs4 := hBl4.size
      refine Lib.hid ⟨hG4.keptB hkq (by simp; omega), by rw [hV6, hp9]; exact Blk.new _ _ _, owns_kept hW4 hkq (fun j hj => by have := hjw j hj; simp; omega), owns_kept hS4 hkq (fun j hj => by have := hjs j hj; simp; omega), owns_kept hW5 hka (by simp), owns_kept hS5 hka (by simp), hI4.kept hkq (by simp; omega) (by simp; omega), ?_⟩
      exact bl_next2 hBl4 hkq (fun k hk => by simp at hk; omega)
    have HV6 := Lib.hid hV6
    have HP9 := Lib.hid hp9
    clear hW5 hS5 hK5 hk5 hF5 hV6 hp9
    have c0 := HALL6.out.1.cell (i := 0) rfl
    have c1 := HALL6.out.1.cell (i := 1) rfl
    have c2 := HALL6.out.1.cell (i := 2) rfl
    have c3 := HALL6.out.1.cell (i := 3) rfl
    have d0 := HALL6.out.2.1.cell (i := 0) rfl
    have d1 := HALL6.out.2.1.cell (i := 1) rfl
    have d2 := HALL6.out.2.1.cell (i := 2) rfl
    have d3 := HALL6.out.2.1.cell (i := 3) rfl
    go_upto_region 5 with fail
    rw [← HP9.out, ← HV6.out]
    go_wp2_with fail
    refine (ints_true V6 aw aw2 LI.length kw kw2 LI (HALL6.out.2.2.1.rs rfl) (HALL6.out.2.2.2.2.1.rs rfl) (by rw [HL.out.2]; omega)).mono ?_
    rintro e w7 ⟨rfl, hb7⟩
    have c3' := (hb7.cell (p := ⟨p8, 3, none⟩) HALL6.out.1.lt).trans c3
    have d3' := (hb7.cell (p := ⟨p9, 3, none⟩) HALL6.out.2.1.lt).trans d3
    clear c0 c1 c2 c3 d0 d1 d2 d3
    go_wp2_with fail
    refine (refBlocks_any _ s B (by omega) hb1 hb2).mono ?_
    rintro e w8 ⟨lv, rfl, hL8, hb8⟩
    rw [← HN.out] at hL8
    obtain ⟨LL, hLL⟩ : ∃ L, L = pieces s B n := ⟨_, rfl⟩
    have hll : LL.length = n := by rw [hLL, pieces_len]
    rw [← hLL] at hL8
    obtain ⟨al, kl, rfl⟩ := slice_of hL8
    have HT2 : Hid (∀ k P, LL[k]? = some P → ∀ mk, LS[k]? = some mk → bytesOf P ∈ SN ∧ mk = numS (SN.idxOf (bytesOf P) + 1)) := Lib.hid (fun k P h mk h2 => by rw [hLL] at h; exact HTK.out k P mk h h2)
    have hb68 : Below V6.heap.size V6 w8 := bl_next (bl_alloc hb7 _) hb8
    have HALL8 : Hid (Blk w8 p8 [.int .i64 B, .int .i64 s.size, .slice aw LI.length kw, .slice av LS.length kv] 31 ∧ Rs w8 aw LI.length kw 1 LI (fun x => [.int .i64 x]) ∧ Rs w8 av LS.length kv 1 LS (fun x => [.string x]) ∧ Rs w8 al LL.length kl 1 LL (fun x => [.string x]) ∧ BookI w8 (w.heap.size + 1) w.heap.size SN ∧ Below w.heap.size w w8) := by
      obtain ⟨h1, h2, h3, h4, h5, h6, h7, h8⟩ := HALL6.out
      exact Lib.hid ⟨h1.belowW hb68, (RowI.rs h3 rfl).next hb68, (RowS.rs h4 rfl).next hb68, RowS.rs hL8 rfl, h7.next hb68, bl_next h8 hb68⟩
    have HPZ : Hid (∀ P ∈ LL, P.size ≤ maxLen) := Lib.hid (fun P h => by
      rw [hLL] at h
      simp only [pieces, List.mem_map] at h
      obtain ⟨i, _, rfl⟩ := h
      have := piece_size s B i
      unfold maxLen; omega)
    have HLL := Lib.hid hll
    clear hb68 hL8 hb8 hb7 c3' d3' hLL hll HTK
    go_wp2_with fail
    go_loopw [11] (fun i wr => ∃ k : Nat, k ≤ n ∧ i = .int .i64 k ∧ Below w8.heap.size w8 wr) (fun i _ => n - (intOf i).toNat)
    case atStart => exact ⟨0, by omega, rfl, Below.refl _ _⟩
    case round =>
      obtain ⟨k, hk, rfl, hbr⟩ := hrel
      have hblr : Below w.heap.size w wr := bl_next HALL8.out.2.2.2.2.2 hbr
      have hGr := HALL8.out.1.belowW hbr
      have hIr := HALL8.out.2.2.2.2.1.next hbr
      by_cases hlt : k < n
      · have hkL : k < LL.length := by rw [HLL.out]; exact hlt
        have hkS : k < LS.length := by rw [HL.out.1]; exact hlt
        have hiL : (k : Int) < (LL.length : Int) := by omega
        have hiS : (k : Int) < (LS.length : Int) := by omega
        obtain ⟨bb, off, P, rfl, hP, a1⟩ := (HALL8.out.2.2.2.1.next hbr).one hkL
        obtain ⟨bc, og, MB, rfl, hMB, a2⟩ := (HALL8.out.2.2.1.next hbr).one hkS
        obtain ⟨hmem, hnum⟩ := HT2.out k P hP MB hMB
        have a3 := hGr.cell (i := 3) rfl
        have hPs : P.size ≤ maxLen := HPZ.out P (List.mem_of_getElem? hP)
        have hC := is_ideal wr.drew _ _ SN P MB hIr.drew hPs (by omega)
        have hd : decide (P.data.toList ∈ SN ∧ MB.data.toList = numB (SN.idxOf P.data.toList + 1)) = true := by
          rw [decide_eq_true_eq]; exact ⟨hmem, by rw [hnum]; rfl⟩
        rw [hd] at hC
        have HC := Lib.hid hC
        have HBR := Lib.hid hbr
        clear hP hMB hmem hnum hC hd hGr hIr hbr hblr
        go_wp2_with fail
        go_region_held3 (fun w' => w'.cell? ⟨bb, off + k, none⟩ = some (.string P) ∧ w'.cell? ⟨p8, 3, none⟩ = some (.slice (some ⟨bc, og, none⟩) LS.length kv) ∧ w'.cell? ⟨bc, og + k, none⟩ = some (.string MB))
          (first | go_keep | exact ⟨a1', a3', a2'⟩)
          (first | (go_at_call 23; refine HC.out.mono ?_; rintro e w4 ⟨rfl, hb4⟩; have a1' := (hb4.cell (p := ⟨bb, off + k, none⟩) (World.block_lt_of_cell? _ _ a1)).trans a1; have a2' := (hb4.cell (p := ⟨bc, og + k, none⟩) (World.block_lt_of_cell? _ _ a2)).trans a2; have a3' := (hb4.cell (p := ⟨p8, 3, none⟩) (World.block_lt_of_cell? _ _ a3)).trans a3))
        have hb5 : Below w8.heap.size w8 w4 := bl_next (bl_drew HBR.out) hb4
        clear a1' a2' a3' hb4 a1 a2 a3
        go_wp2
        go_roundw
        case rel => exact ⟨k + 1, by omega, by go_num, hb5⟩
        case measure => simp [intOf]; omega
      · have a0 := hGr.cell (i := 0) rfl
        have a1 := hGr.cell (i := 1) rfl
        have a2 := hGr.cell (i := 2) rfl
        have a3 := hGr.cell (i := 3) rfl
        have hiL : ¬ (k : Int) < (LL.length : Int) := by have := HLL.out; omega
        have HBL := Lib.hid hblr
        have HI := Lib.hid hIr
        have HRI := Lib.hid (HALL8.out.2.1.next hbr)
        have HRS := Lib.hid (HALL8.out.2.2.1.next hbr)
        clear hGr hIr hbr hblr
        go_wp2_with fail
        refine (sgRight_any wr B s.size aw LI.length kw av LS.length kv LI LS wb (wf_size s (by omega)) HRI.out HRS.out (sigOk_wf HOK.out) (fun x hx => by rw [H32.out x hx]; decide) (by rw [HL.out.2]; omega) (by rw [HL.out.1]; omega)).mono ?_
        rintro e w9 ⟨⟨r, rfl, hr⟩, hb9⟩
        have hr1 : r = true := hr.2 HOK.out
        subst hr1
        clear hr
        go_wp2_with fail
        refine (awake_sign _).mono ?_
        rintro e w10 ⟨rfl, hb10⟩
        go_wp2
        go_ret
        exact ⟨rfl, bl_next (bl_next HBL.out hb9) hb10⟩
  · refine (sign_bad _ _ s block wb hf).mono ?_
    rintro e w2 ⟨rfl, hB2⟩
    go_wp2_with fail
    refine (refSign_bad _ _ s block wb hf).mono ?_
    rintro e w3 ⟨rfl, hB3⟩
    have hBl : Below w.heap.size w w3 := bl_next (bl_alloc (bl_alloc (bl_next hB1 hB2) _) _) hB3
    have hG : Blk w3 w2.heap.size [.int .i64 0, .int .i64 0, .slice none 0 0, .slice none 0 0] 31 := ((Blk.new w2 [.int .i64 0, .int .i64 0, .slice none 0 0, .slice none 0 0] 31).alloc (.cells #[.bool false, .slice none 0 0] 38)).belowW hB3
    have hG6 := hG.alloc (.cells #[.int .i64 0, .int .i64 0, .slice none 0 0, .slice none 0 0] 31)
    have hH6 := Blk.new w3 [.int .i64 0, .int .i64 0, .slice none 0 0, .slice none 0 0] 31
    obtain ⟨p8, hp8⟩ : ∃ q, q = w2.heap.size := ⟨_, rfl⟩
    rw [← hp8] at hG6
    obtain ⟨V6, hV6⟩ : ∃ V, V = w3.alloc (.cells #[.int .i64 0, .int .i64 0, .slice none 0 0, .slice none 0 0] 31) := ⟨_, rfl⟩
    obtain ⟨p9, hp9⟩ : ∃ q, q = w3.heap.size := ⟨_, rfl⟩
    have hB6 : Below w.heap.size w V6 := by rw [hV6]; exact bl_alloc hBl _
    change Blk (w3.alloc (.cells #[.int .i64 0, .int .i64 0, .slice none 0 0, .slice none 0 0] 31)) _ _ _ at hH6
    rw [← hV6] at hG6 hH6
    rw [← hp9] at hH6
    have HP8 := Lib.hid hp8
    have HV6 := Lib.hid hV6
    have HP9 := Lib.hid hp9
    have HGH := Lib.hid (And.intro hG6 (And.intro hH6 hB6))
    have c0 := hG6.cell (i := 0) rfl
    have c1 := hG6.cell (i := 1) rfl
    have c2 := hG6.cell (i := 2) rfl
    have c3 := hG6.cell (i := 3) rfl
    have d0 := hH6.cell (i := 0) rfl
    have d1 := hH6.cell (i := 1) rfl
    have d2 := hH6.cell (i := 2) rfl
    have d3 := hH6.cell (i := 3) rfl
    clear hG hG6 hH6 hB1 hB2 hB3 hBl hI1 hp8 hV6 hp9 hB6
    go_upto_region 5 with fail
    rw [← HP9.out, ← HP8.out, ← HV6.out]
    go_wp2_with fail
    refine (ints_true V6 none none 0 0 0 [] (rs_nil _ _) (rs_nil _ _) (by decide)).mono ?_
    rintro e w7 ⟨rfl, hb7⟩
    have c3' := (hb7.cell (p := ⟨p8, 3, none⟩) HGH.out.1.lt).trans c3
    have d3' := (hb7.cell (p := ⟨p9, 3, none⟩) HGH.out.2.1.lt).trans d3
    have HB7 := Lib.hid (bl_next HGH.out.2.2 hb7)
    clear c0 c1 c2 c3 d0 d1 d2 d3 hb7
    go_wp2_with fail
    go_loopw [11] (fun i wr => i = .int .i64 0 ∧ Below w.heap.size w wr) (fun _ _ => 0)
    case atStart => exact ⟨rfl, bl_alloc HB7.out _⟩
    case round =>
      obtain ⟨rfl, hbr⟩ := hrel
      go_wp2_with fail
      refine (awake_sign _).mono ?_
      rintro e w10 ⟨rfl, hb10⟩
      go_wp2
      go_ret
      exact ⟨rfl, bl_next hbr hb10⟩
end Go.Proofs.Ytfcfgkhdlpgbdaa
