/- SignReals: the walk. No conditions. -/
import Derived.Test.YtfcfgkhdlpgbdaaSignSignsWalk
import Derived.Test.YtfcfgkhdlpgbdaaSignReal
import Derived.Test.YtfcfgkhdlpgbdaaSignSame
import Derived.Test.YtfcfgkhdlpgbdaaShaRef
namespace Go.Proofs.Ytfcfgkhdlpgbdaa
open Go.RowKit
set_option linter.unusedVariables false
set_option linter.unusedSimpArgs false

theorem Rs.keptR {α : Type} {T : Nat → Prop} {w w' : World} {ao : Option Addr} {len cap size : Nat} {rs : List α} {f : α → List Value} (h : Rs w ao len cap size rs f) (hk : Kept T w w') (hb : ∀ b off, ao = some ⟨b, off, none⟩ → ¬ T b) : Rs w' ao len cap size rs f := by
  obtain ⟨h1, h2, h3, h4⟩ := h
  refine ⟨h1, h2, h3, fun h0 => ?_⟩
  obtain ⟨b, off, e, hbw, hc⟩ := h4 h0
  exact ⟨b, off, e, Nat.lt_of_lt_of_le hbw hk.size, fun i hi j v hj => (hk.cell hbw (hb b off e)).trans (hc i hi j v hj)⟩

/-- the document's real book at q -/
def RefRK (q : Nat) (w : World) (seen : Bk) (F : Option Nat) : Prop := RefReal w q ∧ F = none
theorem refr_bookish (q : Nat) : Bookish 46 q (fun k => k = q) Bk List.length (fun s t => addS s (bytesOf t)) (fun _ t => shaS t) (RefRK q) where
  lt := by
    rintro w s F ⟨h, rfl⟩
    exact ⟨fun k hk => by subst hk; exact h.lt, fun k hk => by cases hk⟩
  kept := by
    rintro w w' s F U ⟨h, rfl⟩ hk h1 h2
    refine ⟨?_, rfl⟩
    unfold RefReal Blk at h ⊢
    rw [hk.block q (Array.getElem?_eq_some_iff.1 h).1 (h1 q rfl)]
    exact h
  mark := by
    rintro w s F t ⟨h, rfl⟩ ht hl
    refine (refMark_real w q t h (by omega)).mono ?_
    rintro e w' ⟨rfl, hb⟩
    exact ⟨none, rfl, ⟨h.next hb, rfl⟩, Kept.of_below _ hb, fun k hk => by cases hk⟩
  grow := fun s t => addS_len s _

set_option maxRecDepth 100000 in
set_option maxHeartbeats 4000000 in
theorem signReals_walk (w : World) (s0 : ByteArray) (hs0 : s0.size ≤ 140737488351232) (block : Int) (wb : (Lit.int .i64 block).wf = true) :
    Calls Try.prog 7 #[.string s0, .int .i64 block] w fun e w' => e = .returned (.bool true) ∧ Below w.heap.size w w' := by
  have hz3 := bookZ3_run
  have hsz := sigZ_run
  have hcs := cutS_size s0 200
  go_enter Try.func7, Try.ntmps7
  go_wp2_with fail
  refine (cut_any s0 200 _ (by unfold maxLen; omega) (by decide)).mono ?_
  rintro e w' ⟨rfl, rfl⟩
  obtain ⟨s, hs⟩ : ∃ s, s = cutS s0 200 := ⟨_, rfl⟩
  rw [← hs] at hcs
  rw [← hs]
  clear hs hs0
  go_wp2_with fail
  refine (real_any _).mono ?_
  rintro e w1 ⟨p, rfl, hI1, hp1, hB1⟩
  go_wp2_with fail
  by_cases hf : 16 ≤ block ∧ block ≤ 1024
  · obtain ⟨B, rfl⟩ : ∃ B : Nat, block = B := ⟨block.toNat, by omega⟩
    have hb1 : 16 ≤ B := by omega
    have hb2 : B ≤ 1024 := by omega
    clear hf
    obtain ⟨n, hn⟩ : ∃ n, n = cnt s.size B := ⟨_, rfl⟩
    have hn3 : n ≤ 200 := by rw [hn]; exact Nat.le_trans (cnt_le (by omega)) hcs
    have HN := Lib.hid hn
    clear hn
    have hsl1 := Rl.marksOf_len [] (pieces s B n)
    have hsl2 : ((pieces s B n).map weakI).length = n := by rw [List.length_map, pieces_len]
    rw [pieces_len] at hsl1
    refine (Rl.sign_ideal w1 p p [] s B ⟨hI1, hI1.lt, hI1.lt⟩ (by omega) hb1 hb2 (by simp)).mono ?_
    rw [← HN.out]
    rintro e w2 ⟨wv, sv, rfl, hW2, hS2, hI2, hg2⟩
    obtain ⟨LI, hLI⟩ : ∃ L, L = (pieces s B n).map weakI := ⟨_, rfl⟩
    obtain ⟨LS, hLS⟩ : ∃ L, L = (Rl.marksOf [] (pieces s B n)).2 := ⟨_, rfl⟩
    have hbm : (bMarks (fun (s : Bk) (t : ByteArray) => addS s (bytesOf t)) (fun _ t => shaS t) [] (pieces s B n)).2 = LS := by rw [hLS]; rfl
    rw [← hLI] at hW2 hsl2
    rw [← hLS] at hS2 hsl1
    obtain ⟨aw, kw, rfl⟩ := slice_of hW2
    obtain ⟨av, kv, rfl⟩ := slice_of hS2
    have hBl2 : Below w.heap.size w w2 := bl_grow hB1 hg2 hp1
    obtain ⟨V4, hV4⟩ : ∃ V, V = (w2.alloc (Obj.cells #[.int .i64 B, .int .i64 s.size, .slice aw LI.length kw, .slice av LS.length kv] 31)).alloc (Obj.cells #[.bool true, .slice none 0 0] 38) := ⟨_, rfl⟩
    obtain ⟨p8, hp8⟩ : ∃ q, q = w2.heap.size := ⟨_, rfl⟩
    obtain ⟨q, hq⟩ : ∃ q, q = w2.heap.size + 1 := ⟨_, rfl⟩
    have hG4 : Blk V4 p8 [.int .i64 B, .int .i64 s.size, .slice aw LI.length kw, .slice av LS.length kv] 31 := by rw [hV4, hp8]; exact (Blk.new w2 _ _).alloc _
    have hR4 : RefReal V4 q := by
      have := Blk.new (w2.alloc (Obj.cells #[.int .i64 B, .int .i64 s.size, .slice aw LI.length kw, .slice av LS.length kv] 31)) [.bool true, .slice none 0 0] 38
      rw [World.size_alloc] at this
      unfold RefReal
      rw [hV4, hq]; exact this
    have hb24 : Below w2.heap.size w2 V4 := by rw [hV4]; exact ((Below.refl _ _).alloc (Nat.le_refl _) _).alloc (by simp) _
    have hW4 := (RowI.rs hW2 rfl).next hb24
    have hS4 := (RowS.rs hS2 rfl).next hb24
    have hBl4 : Below w.heap.size w V4 := bl_next hBl2 hb24
    have HREF := Lib.hid (refSign_any (refr_bookish q) V4 [] none s B ⟨hR4, rfl⟩ (by omega) hb1 hb2 (by simp))
    rw [← HN.out, ← hLI, hbm] at HREF
    have HALL := Lib.hid (And.intro hG4 (And.intro hW4 (And.intro hS4 hBl4)))
    have hqq : w.heap.size ≤ q := by rw [hq]; exact Nat.le_succ_of_le hBl2.size
    have HL := Lib.hid (And.intro hsl1 (And.intro hsl2 hqq))
    have HV4 := Lib.hid hV4
    have HP8 := Lib.hid hp8
    have HQ := Lib.hid hq
    have hqp : p8 < V4.heap.size := hG4.lt
    have hpq : p8 ≠ q := by omega
    have HPQ := Lib.hid (And.intro hqp hpq)
    have hrw : ∀ b off, aw = some ⟨b, off, none⟩ → b ≠ q := fun b off h => by
      subst h
      have := (World.ownsRow.lt hW2 b rfl).2
      omega
    have hrs : ∀ b off, av = some ⟨b, off, none⟩ → b ≠ q := fun b off h => by
      subst h
      have := (World.ownsRow.lt hS2 b rfl).2
      omega
    have HRR := Lib.hid (And.intro hrw hrs)
    clear hLI hLS hbm hG4 hR4 hb24 hW4 hS4 hBl4 hV4 hp8 hq hsl1 hsl2 hI1 hI2 hW2 hS2 hB1 hBl2 hg2 hqq hqp hpq hrw hrs
    go_wp2_with fail
    rw [← HQ.out, ← HP8.out, ← HV4.out]
    refine HREF.out.mono ?_
    rintro e w5 ⟨wv2, sv2, F', rfl, hW5, hS5, hK5, hk5, hF5⟩
    obtain ⟨aw2, kw2, rfl⟩ := slice_of hW5
    obtain ⟨av2, kv2, rfl⟩ := slice_of hS5
    obtain ⟨p9, hp9⟩ : ∃ q, q = w5.heap.size := ⟨_, rfl⟩
    obtain ⟨V6, hV6⟩ : ∃ V, V = w5.alloc (Obj.cells #[.int .i64 B, .int .i64 s.size, .slice aw2 LI.length kw2, .slice av2 LS.length kv2] 31) := ⟨_, rfl⟩
    have hk5' : Kept (fun k => k = q) V4 w5 := hk5.mono (fun k _ h => by simpa using h)
    have hb56 : Below w5.heap.size w5 V6 := by rw [hV6]; exact bel_alloc _ _
    have hG6 : Blk V6 p8 [.int .i64 B, .int .i64 s.size, .slice aw LI.length kw, .slice av LS.length kv] 31 := (HALL.out.1.keptB hk5' HPQ.out.2).belowW hb56
    have hG9 : Blk V6 p9 [.int .i64 B, .int .i64 s.size, .slice aw2 LI.length kw2, .slice av2 LS.length kv2] 31 := by rw [hV6, hp9]; exact Blk.new _ _ _
    have hB6 : Below w.heap.size w V6 := bl_next (bl_next2 HALL.out.2.2.2 hk5' (fun k h => by rw [h]; exact HL.out.2.2)) hb56
    have hWa : Rs V6 aw LI.length kw 1 LI (fun x => [.int .i64 x]) := (Rs.keptR HALL.out.2.1 hk5' (fun b off h e => HRR.out.1 b off h e)).next hb56
    have hSa : Rs V6 av LS.length kv 1 LS (fun x => [.string x]) := (Rs.keptR HALL.out.2.2.1 hk5' (fun b off h e => HRR.out.2 b off h e)).next hb56
    have hWb := (RowI.rs hW5 rfl).next hb56
    have hSb := (RowS.rs hS5 rfl).next hb56
    have HSAME := Lib.hid (same_true V6 B s.size aw LI.length kw av LS.length kv aw2 kw2 av2 kv2 LI LS (by rw [HL.out.2.1]; omega) (by rw [HL.out.1]; omega) hWa hSa hWb hSb)
    have HB6 := Lib.hid hB6
    have c0 := hG6.cell (i := 0) rfl
    have c1 := hG6.cell (i := 1) rfl
    have c2 := hG6.cell (i := 2) rfl
    have c3 := hG6.cell (i := 3) rfl
    have d0 := hG9.cell (i := 0) rfl
    have d1 := hG9.cell (i := 1) rfl
    have d2 := hG9.cell (i := 2) rfl
    have d3 := hG9.cell (i := 3) rfl
    have HV6 := Lib.hid hV6
    have HP9 := Lib.hid hp9
    clear hW5 hS5 hK5 hk5 hF5 hV6 hp9 hk5' hb56 hG6 hG9 hB6 hWa hSa hWb hSb HREF
    go_upto_region 4 with fail
    rw [← HP9.out, ← HV6.out]
    go_wp2_with fail
    refine HSAME.out.mono ?_
    rintro e w7 ⟨rfl, hb7⟩
    have HB7 := Lib.hid (bl_next HB6.out hb7)
    clear c0 c1 c2 c3 d0 d1 d2 d3 hb7
    go_wp2_with fail
    refine (awake_sign _).mono ?_
    rintro e w10 ⟨rfl, hb10⟩
    go_wp2
    go_ret
    exact ⟨rfl, bl_next HB7.out hb10⟩
  · refine (sign_bad _ _ s block wb hf).mono ?_
    rintro e w2 ⟨rfl, hB2⟩
    go_wp2_with fail
    refine (refSign_bad _ _ s block wb hf).mono ?_
    rintro e w3 ⟨rfl, hB3⟩
    have hBl : Below w.heap.size w w3 := bl_next (bl_alloc (bl_alloc (bl_next hB1 hB2) _) _) hB3
    have hG : Blk w3 w2.heap.size [.int .i64 0, .int .i64 0, .slice none 0 0, .slice none 0 0] 31 := ((Blk.new w2 [.int .i64 0, .int .i64 0, .slice none 0 0, .slice none 0 0] 31).alloc (.cells #[.bool true, .slice none 0 0] 38)).belowW hB3
    have hG6 := hG.alloc (.cells #[.int .i64 0, .int .i64 0, .slice none 0 0, .slice none 0 0] 31)
    have hH6 := Blk.new w3 [.int .i64 0, .int .i64 0, .slice none 0 0, .slice none 0 0] 31
    obtain ⟨p8, hp8⟩ : ∃ q, q = w2.heap.size := ⟨_, rfl⟩
    rw [← hp8] at hG6
    obtain ⟨V6, hV6⟩ : ∃ V, V = w3.alloc (.cells #[.int .i64 0, .int .i64 0, .slice none 0 0, .slice none 0 0] 31) := ⟨_, rfl⟩
    obtain ⟨p9, hp9⟩ : ∃ q, q = w3.heap.size := ⟨_, rfl⟩
    have hB6 : Below w.heap.size w V6 := by rw [hV6]; exact bl_alloc hBl _
    change Blk (w3.alloc (.cells #[.int .i64 0, .int .i64 0, .slice none 0 0, .slice none 0 0] 31)) _ _ _ at hH6
    rw [← hV6] at hG6 hH6
    rw [← hp9] at hH6
    have HP8 := Lib.hid hp8
    have HV6 := Lib.hid hV6
    have HP9 := Lib.hid hp9
    have HB6 := Lib.hid hB6
    have HSAME := Lib.hid (same_true V6 0 0 none 0 0 none 0 0 none 0 none 0 [] [] (by decide) (by decide) (rs_nil _ _) (rs_nil _ _) (rs_nil _ _) (rs_nil _ _))
    have c0 := hG6.cell (i := 0) rfl
    have c1 := hG6.cell (i := 1) rfl
    have c2 := hG6.cell (i := 2) rfl
    have c3 := hG6.cell (i := 3) rfl
    have d0 := hH6.cell (i := 0) rfl
    have d1 := hH6.cell (i := 1) rfl
    have d2 := hH6.cell (i := 2) rfl
    have d3 := hH6.cell (i := 3) rfl
    clear hG hG6 hH6 hB1 hB2 hB3 hBl hI1 hp8 hV6 hp9 hB6
    go_upto_region 4 with fail
    rw [← HP9.out, ← HP8.out, ← HV6.out]
    go_wp2_with fail
    refine HSAME.out.mono ?_
    rintro e w7 ⟨rfl, hb7⟩
    have HB7 := Lib.hid (bl_next HB6.out hb7)
    clear c0 c1 c2 c3 d0 d1 d2 d3 hb7
    go_wp2_with fail
    refine (awake_sign _).mono ?_
    rintro e w10 ⟨rfl, hb10⟩
    go_wp2
    go_ret
    exact ⟨rfl, bl_next HB7.out hb10⟩
end Go.Proofs.Ytfcfgkhdlpgbdaa
