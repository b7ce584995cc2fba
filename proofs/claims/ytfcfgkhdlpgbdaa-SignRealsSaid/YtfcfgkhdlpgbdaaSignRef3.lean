/- the document's Sign, with any book: the walk. Conditions: as named in each theorem. -/
import Derived.Test.YtfcfgkhdlpgbdaaSignRef2
namespace Go.Proofs.Ytfcfgkhdlpgbdaa
open Go.RowKit
set_option linter.unusedVariables false

theorem rowS_at {w : World} {B bb off n kl k : Nat} {LL : List ByteArray} {P : ByteArray} (h : RowS w B (.slice (some ⟨bb, off, none⟩) n kl) LL) (hk : LL[k]? = some P) : w.cell? ⟨bb, off + k, none⟩ = some (.string P) := by
  have hlt := (List.getElem?_eq_some_iff.1 hk).1
  rcases RowV.of_owns h with ⟨h0, _⟩ | ⟨b2, off2, cap, he, hc⟩
  · omega
  · simp only [Value.slice.injEq, Option.some.injEq, Addr.mk.injEq] at he
    obtain ⟨⟨rfl, rfl, -⟩, -, -⟩ := he
    rw [hc k (by omega)]; simp [List.getD, hk]
theorem below_kept {a b : World} (h : Below a.heap.size a b) : Kept (fun _ => False) a b := Kept.of_below _ h
set_option maxRecDepth 100000 in
set_option maxHeartbeats 2000000 in
theorem refSign_any {q : Nat} {C : Nat → Prop} {S : Type} {len : S → Nat} {stp : S → ByteArray → S} {out : S → ByteArray → ByteArray} {K : World → S → Option Nat → Prop} (hbk : Bookish 46 q C S len stp out K)
    (w : World) (s0 : S) (F : Option Nat) (s : ByteArray) (block : Nat) (hK : K w s0 F) (hs : s.size ≤ 524288) (hb : 16 ≤ block) (hb2 : block ≤ 1024) (hsn : len s0 ≤ 1000000) :
    Calls Try.prog 20 #[.pointer (some ⟨q, 0, none⟩), .string s, .int .i64 block] w fun e w' => ∃ wv sv F', e = .returned (.tuple #[.agg #[.int .i64 block, .int .i64 s.size, wv, sv], .int .i64 0]) ∧
      RowI w' w.heap.size wv ((pieces s block (cnt s.size block)).map weakI) ∧ RowS w' w.heap.size sv (bMarks stp out s0 (pieces s block (cnt s.size block))).2 ∧ K w' (bMarks stp out s0 (pieces s block (cnt s.size block))).1 F' ∧ Kept (fun k => C k ∨ F = some k) w w' ∧ (∀ k, F' = some k → F = some k ∨ w.heap.size ≤ k) := by
  obtain ⟨i0, hi, hz0, hz1, hz2⟩ := info_parts infoIntS
  obtain ⟨i1, hj, hy0, hy1, hy2⟩ := info_parts infoStrS
  have hsz := sigZ_run
  obtain ⟨n, hn⟩ : ∃ n, n = cnt s.size block := ⟨_, rfl⟩
  have hnl : n ≤ 524288 := by rw [hn]; exact Nat.le_trans (cnt_le (by omega)) hs
  have HN := Lib.hid hn
  rw [← hn]
  obtain ⟨q1, q2⟩ := hbk.lt _ _ _ hK
  obtain ⟨V, hV⟩ : ∃ V, V = (w.alloc (Obj.cells #[.int .i64 0, .int .i64 0, .slice none 0 0, .slice none 0 0] 31)).alloc (Obj.cells #[.int .i64 block, .int .i64 s.size, .slice none 0 0, .slice none 0 0] 31) := ⟨_, rfl⟩
  obtain ⟨p6, hp6⟩ : ∃ q, q = w.heap.size := ⟨_, rfl⟩
  obtain ⟨p8, hp8⟩ : ∃ q, q = w.heap.size + 1 := ⟨_, rfl⟩
  have hZ : Blk V p6 [.int .i64 0, .int .i64 0, .slice none 0 0, .slice none 0 0] 31 := by rw [hV, hp6]; exact (Blk.new w _ _).alloc _
  have hG : Blk V p8 [.int .i64 block, .int .i64 s.size, .slice none 0 0, .slice none 0 0] 31 := by
    have := Blk.new (w.alloc (Obj.cells #[.int .i64 0, .int .i64 0, .slice none 0 0, .slice none 0 0] 31)) [.int .i64 block, .int .i64 s.size, .slice none 0 0, .slice none 0 0] 31
    rw [World.size_alloc] at this
    rw [hV, hp8]; exact this
  have hkV : Kept (fun _ => False) w V := by rw [hV]; exact (kept_alloc _ _).trans (kept_alloc _ _) (by simp)
  have hVs : V.heap.size = p8 + 1 := by rw [hV, hp8]; simp
  have HPR := Lib.hid (And.intro hK (And.intro hZ (And.intro hG (And.intro hkV (And.intro hVs (And.intro q1 q2))))))
  have HV := Lib.hid hV
  have HP6 := Lib.hid hp6
  have HP8 := Lib.hid hp8
  clear hV hp6 hp8 hK hn hZ hG hkV hVs q1 q2
  go_enter Try.func20, Try.ntmps20
  go_wp2_with fail
  rw [← HP8.out, ← HP6.out, ← HV.out]
  refine (refBlocks_any V s block hs hb hb2).mono ?_
  rintro e wb ⟨lv, rfl, hL, hBl⟩
  rw [← HN.out] at hL
  have hKb := below_kept hBl
  have HR : Hid (SgK C K F w wb p6 p8 wb.heap.size block s.size (.slice none 0 0) (.slice none 0 0) lv [] [] (pieces s block n) s0 F) := by
    obtain ⟨hK, hZ, hG, hkV, hVs, q1, q2⟩ := HPR.out
    have hp6 := HP6.out
    have hp8 := HP8.out
    have hsb := hBl.size
    rw [hVs] at hL
    exact Lib.hid ⟨hG.keptB hKb (by simp), hZ.keptB hKb (by simp), World.ownsRow_nil _ _ _ _, World.ownsRow_nil _ _ _ _, hL, fun j hj => (World.ownsRow.lt hL j hj).2, (fun j hj => by simp [Value.ownBlock] at hj),
      hbk.kept _ _ _ _ _ (hbk.kept _ _ _ _ _ hK hkV (by simp) (by simp)) hKb (by simp) (by simp), (hkV.mono (by simp)).trans hKb (by simp), fun j hj => .inl hj, q1, q2, by omega, by omega, by omega⟩
  obtain ⟨B1, hB1⟩ : ∃ B, B = wb.heap.size := ⟨_, rfl⟩
  have hwb : B1 ≤ wb.heap.size := by omega
  rw [← hB1] at HR
  obtain ⟨al, kl, rfl⟩ := slice_of hL
  rw [pieces_len] at HR ⊢
  clear hL hBl hKb HPR hB1
  go_wp2_with fail
  go_loopw [10] (fun i wr => ∃ (k : Nat) (wv sv : Value) (F' : Option Nat), i = .int .i64 k ∧ k ≤ n ∧ B1 ≤ wr.heap.size ∧ SgK C K F w wr p6 p8 B1 block s.size wv sv (.slice al n kl) ((pieces s block k).map weakI) (bMarks stp out s0 (pieces s block k)).2 (pieces s block n) (bMarks stp out s0 (pieces s block k)).1 F') (fun i _ => n - (intOf i).toNat)
  case atStart => exact ⟨0, _, _, _, rfl, by omega, hwb, HR.out⟩
  case round =>
    clear HR hwb
    obtain ⟨k, wv, sv, F', rfl, hk, hBs, hR⟩ := hrel
    have hsl := bMarks_len stp out s0 (pieces s block k)
    have hsn2 := bMarks_grow hbk s0 (pieces s block k)
    rw [pieces_len] at hsl hsn2
    have hil : ((pieces s block k).map weakI).length = k := by rw [List.length_map, pieces_len]
    have hps := pieces_succ s block k
    have hms := bMarks_snoc stp out s0 (pieces s block k) (piece s block k)
    by_cases hlt : k < n
    · have hkb : k * block < s.size := (cnt_spec (by omega) k).1 (by rw [← HN.out]; exact hlt)
      have hIe : (pieces s block (k + 1)).map weakI = (pieces s block k).map weakI ++ [weakI (piece s block k)] := by rw [hps, List.map_append]; rfl
      rw [← hps] at hms
      have hpz : (piece s block k).size ≤ 524288 := by unfold piece; rw [ByteArray.size_extract]; omega
      have hget : (pieces s block n)[k]? = some (piece s block k) := by simp [pieces, hlt]
      obtain ⟨P, hP⟩ : ∃ P, P = piece s block k := ⟨_, rfl⟩
      rw [← hP] at hms hIe hpz hget
      obtain ⟨LI, hLI⟩ : ∃ L, L = (pieces s block k).map weakI := ⟨_, rfl⟩
      obtain ⟨MK, hMK⟩ : ∃ M, M = bMarks stp out s0 (pieces s block k) := ⟨_, rfl⟩
      obtain ⟨LL, hLL⟩ : ∃ L, L = pieces s block n := ⟨_, rfl⟩
      rw [← hLL] at hR hget
      rw [← hLI] at hR hil hIe
      rw [← hMK] at hR hms hsl hsn2
      obtain ⟨SN, LS⟩ := MK
      simp only at hR hsl hsn2
      have HIE := Lib.hid hIe
      have HMS := Lib.hid hms
      have HIL := Lib.hid hil
      have HSL := Lib.hid hsl
      have HLL := Lib.hid hLL
      obtain ⟨aw, kw, rfl⟩ := slice_of hR.i
      obtain ⟨av, kv, rfl⟩ := slice_of hR.s
      have hlen : LL.length = n := by rw [hLL, pieces_len]
      have HR := Lib.hid hR
      have hlr : ∃ bb off, al = some ⟨bb, off, none⟩ ∧ wr.cell? ⟨bb, off + k, none⟩ = some (.string P) := by
        rcases RowV.of_owns hR.l with ⟨h0, _⟩ | ⟨bb, off, cap, he, hc⟩
        · omega
        · simp only [Value.slice.injEq] at he
          refine ⟨bb, off, he.1, ?_⟩
          rw [hc k (by omega)]
          simp [List.getD, hget]
      obtain ⟨bb, off, hal, hcl⟩ := hlr
      have HAL := Lib.hid hal
      have c2 := hR.g.cell (i := 2) rfl
      have wI := weakI P
      obtain ⟨WV, hWV⟩ : ∃ W : Int, W = weakI P := ⟨_, rfl⟩
      have hwe : ((weak P.data.toList : Nat) : Int) = WV := hWV.symm
      have HWV := Lib.hid hWV
      have a0 : (wr.alloc (Obj.cells #[.int .i64 WV] 3)).cell? ⟨p8, 2, none⟩ = some (.slice aw LI.length kw) := (hR.g.alloc _).cell (i := 2) rfl
      have hIa : Hid (wr.ownsRow B1 3 1 (.slice aw LI.length kw) LI.length (LI.map (Value.int .i64))) := Lib.hid hR.i
      have hp8w := hR.g.lt
      have HGET := Lib.hid hget
      clear hIe hms hps hLI hMK hil hsl hR wI hWV hLL hget hlen hP
      rw [HAL.out]
      go_wp2_with fail
      go_region_law (first
        | (refine step_append_at rfl (.tmp 36) (.tmp 42) 28 rfl B1 3 i0 (.int .i64 0) 1 8 Try.underlying28 hi hz0 hz1 hz2 rfl (by decide) (.slice aw LI.length kw) LI.length (LI.map (Value.int .i64)) (by simp [Act.eval]) (World.ownsRow.alloc (w := wr.drew) hIa.out _) ⟨wr.heap.size, 0, none⟩ 1 1 [.int .i64 WV] (by simp [Act.eval]) rfl (sg_new wr.drew _ _) (by intro u hu; simp only [List.mem_singleton] at hu; subst hu; rfl) (by rw [HIL.out]; unfold maxLen; omega) (by rw [HIL.out]; omega) (by simp; omega) ?_; intro v' w5 hO5 hg5 hrb; obtain ⟨ao5, cap5, rfl⟩ := slice_of hO5; have hR5 := (HR.out.step hbk (kept_drew _)).step hbk (kept_alloc _ (.cells #[.int .i64 WV] 3)); have hG5 := hR5.g.grown hg5 (fun e => by have := (World.ownsRow.lt hIa.out p8 e.symm).1; have := HR.out.p8B; omega); have c5 := hG5.cell (i := 2) rfl; have f5 := hG5.frozen 2)
        | (go_simp; go_at_call 40; refine (refSum_any P _ hpz).mono ?_; rintro e w' ⟨rfl, rfl⟩; rw [hwe]))
      all_goals (
        have hR6 := hR5.weak hbk hO5 hg5 hrb (by simp; omega)
        have hB6 : B1 ≤ w5.heap.size := by have := hg5.size; simp at this; omega
        obtain ⟨w6, hw6⟩ : ∃ W, W = w5.setCell ⟨p8, 2, none⟩ (.slice ao5 (LI.length + 1) cap5) := ⟨_, rfl⟩
        have hB7 : B1 ≤ w6.heap.size := by rw [hw6]; simpa using hB6
        rw [← hw6] at hR6
        rw [← hw6]
        clear hw6 hG5 c5 f5 hO5 hg5 hrb a0 c2 hIa HR w5 hp8w hR5 hcl hB6
        rw [hal] at hR6
        have hlr2 : w6.cell? ⟨bb, off + k, none⟩ = some (.string P) := rowS_at hR6.l HGET.out
        obtain ⟨MB, hMB⟩ : ∃ M, M = out SN P := ⟨_, rfl⟩
        have HC := Lib.hid (hbk.mark w6.drew SN F' P (hR6.step hbk (kept_drew _)).k hpz (by omega))
        rw [← hMB] at HC
        have HMB := Lib.hid hMB
        have c3 := hR6.g.cell (i := 3) rfl
        have HR := Lib.hid hR6
        clear hMB hR6
        go_wp2_with fail
        go_region_law (first
          | (go_simp; go_at_call 46; refine HC.out.mono ?_; rintro e w7 ⟨F7, rfl, hK7, hg7, hF7⟩; have hR7 := (HR.out.step hbk (kept_drew _)).mark hK7 hg7 hF7 hB7; have hB8 : B1 ≤ w7.heap.size := Nat.le_trans hB7 hg7.size; have c7 := hR7.g.cell (i := 3) rfl; have a7 : (w7.alloc (Obj.cells #[.string MB] 9)).cell? ⟨p8, 3, none⟩ = some (.slice av LS.length kv) := (hR7.g.alloc _).cell (i := 3) rfl; have hp8w := hR7.g.lt; have HR7 := Lib.hid hR7; have HSa := Lib.hid hR7.s; clear hK7 hg7 hR7)
          | (refine step_append_at rfl (.tmp 46) (.tmp 53) 29 rfl B1 9 i1 (.string ByteArray.empty) 1 16 Try.underlying29 hj hy0 hy1 hy2 rfl (by decide) (.slice av LS.length kv) LS.length (LS.map Value.string) (by simp [Act.eval]) (World.ownsRow.alloc HSa.out _) ⟨_, 0, none⟩ 1 1 [.string MB] (by simp [Act.eval]) rfl (sg_new _ _ _) (by intro u hu; simp only [List.mem_singleton] at hu; subst hu; rfl) (by rw [HSL.out]; unfold maxLen; omega) (by rw [HSL.out]; omega) (by simp; omega) ?_; intro v' w8 hO8 hg8 hrb; obtain ⟨ao8, cap8, rfl⟩ := slice_of hO8; have hR8 := HR7.out.step hbk (kept_alloc _ (.cells #[.string MB] 9)); have hG8 := hR8.g.grown hg8 (fun e => by have := (World.ownsRow.lt HSa.out p8 e.symm).1; have := HR7.out.p8B; omega); have c8 := hG8.cell (i := 3) rfl; have f8 := hG8.frozen 3))
        all_goals (
          have hR9 := hR8.strong hbk hO8 hg8 hrb (by simp; omega)
          have hB9 : B1 ≤ w8.heap.size := by have := hg8.size; simp at this; omega
          obtain ⟨w9, hw9⟩ : ∃ W, W = w8.setCell ⟨p8, 3, none⟩ (.slice ao8 (LS.length + 1) cap8) := ⟨_, rfl⟩
          have hB10 : B1 ≤ w9.heap.size := by rw [hw9]; simpa using hB9
          rw [← hw9] at hR9
          rw [← hw9]
          have HR9 := Lib.hid hR9
          clear hw9 hR9 hG8 c8 f8 hO8 hg8 hrb c7 a7 HR7 HSa c3 HC HR hp8w hR8 hlr2 hB9 w8
          go_wp2
          go_round
          case rel =>
            refine ⟨k + 1, .slice ao5 (LI.length + 1) cap5, .slice ao8 (LS.length + 1) cap8, F7, rfl, by omega, hB10, ?_⟩
            rw [HIE.out, HMS.out, ← HWV.out]
            simp only [bMark]
            rw [← HMB.out, ← HLL.out]
            exact HR9.out
          case measure => simp [intOf]; omega))
    · have hkn : k = n := by omega
      subst hkn
      obtain ⟨LI, hLI⟩ : ∃ L, L = (pieces s block k).map weakI := ⟨_, rfl⟩
      obtain ⟨MK, hMK⟩ : ∃ M, M = bMarks stp out s0 (pieces s block k) := ⟨_, rfl⟩
      rw [← hLI] at hR
      rw [← hMK] at hR
      have HLI := Lib.hid hLI
      have HMK := Lib.hid hMK
      obtain ⟨SN, LS⟩ := MK
      simp only at hR
      have HR := Lib.hid hR
      obtain ⟨aw, kw, rfl⟩ := slice_of hR.i
      obtain ⟨av, kv, rfl⟩ := slice_of hR.s
      have g0 := hR.g.cell (i := 0) rfl
      have g1 := hR.g.cell (i := 1) rfl
      have g2 := hR.g.cell (i := 2) rfl
      have g3 := hR.g.cell (i := 3) rfl
      have z0 := hR.z.cell (i := 0) rfl
      have z1 := hR.z.cell (i := 1) rfl
      have z2 := hR.z.cell (i := 2) rfl
      have z3 := hR.z.cell (i := 3) rfl
      have f0 := hR.z.frozen 0
      have f1 := hR.z.frozen 1
      have f2 := hR.z.frozen 2
      have f3 := hR.z.frozen 3
      clear hR hps hms hsl hsn2 hil hLI hMK
      go_wp2
      refine bodyPost_ret (res_cell_row rfl _ _ p6 31 _ (0, 0) _ rfl ((((HR.out.z.set 0 _).set 1 _).set 2 _).set 3 _) Try.underlying31 rfl (by kernel_rfl)) rfl ?_
      have hkz : Kept (fun q => q = p6) wr ((((wr.setCell ⟨p6, 0, none⟩ (.int .i64 block)).setCell ⟨p6, 1, none⟩ (.int .i64 s.size)).setCell ⟨p6, 2, none⟩ (.slice aw LI.length kw)).setCell ⟨p6, 3, none⟩ (.slice av LS.length kv)) :=
        ((((Kept.refl (fun q => q = p6) wr).set (p := p6) rfl 0 _).set (p := p6) rfl 1 _).set (p := p6) rfl 2 _).set (p := p6) rfl 3 _
      obtain ⟨d1, d2, d3, d4, d5⟩ := HR.out.done hbk hkz
      rw [← HLI.out, ← HMK.out]
      exact ⟨_, _, F', rfl, d1, d2, d3, d4, d5⟩
end Go.Proofs.Ytfcfgkhdlpgbdaa
