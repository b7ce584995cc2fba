/- The document's Sign, whichever its book. Conditions: as named in each theorem. -/
import Derived.Test.YtgemhgllifhckaaRefBook
import Derived.Test.YtgemhgllifhckaaSgSign
import Derived.Test.YtgemhgllifhckaaSgCore
namespace Go.Proofs.Ytgemhgllifhckaa.Sg
open Go.RowKit
set_option linter.unusedVariables false
set_option linter.unusedSimpArgs false
/-- f, called on the pointer to q with a text, answers with its mark: state s goes to step s t, the mark is out s t; the book's blocks are those of C and F -/
structure Bookish (f : FuncId) (q : Nat) (C : Nat → Prop) (S : Type) (len : S → Nat) (step : S → ByteArray → S) (out : S → ByteArray → ByteArray) (K : World → S → Option Nat → Prop) : Prop where
  lt : ∀ w s F, K w s F → (∀ k, C k → k < w.heap.size) ∧ (∀ k, F = some k → k < w.heap.size)
  kept : ∀ w w' s F U, K w s F → Kept U w w' → (∀ k, C k → ¬ U k) → (∀ k, F = some k → ¬ U k) → K w' s F
  mark : ∀ w s F t, K w s F → t.size ≤ 524288 → len s ≤ 1000000000 → Calls Try.prog f #[.pointer (some ⟨q, 0, none⟩), .string t] w fun e w' =>
    ∃ F', e = .returned (.string (out s t)) ∧ K w' (step s t) F' ∧ Kept (fun k => C k ∨ F = some k) w w' ∧ (∀ k, F' = some k → F = some k ∨ w.heap.size ≤ k)
  grow : ∀ s t, len (step s t) ≤ len s + 1
set_option maxRecDepth 100000 in
set_option maxHeartbeats 600000 in
theorem refBlocks_any (w : World) (s : ByteArray) (block : Nat) (hs : s.size ≤ 524288) (hb : 16 ≤ block) (hb2 : block ≤ 1024) :
    Calls Try.prog 79 #[.string s, .int .i64 block] w fun e w' => ∃ v, e = .returned v ∧ RowS w' w.heap.size v (pieces s block (cnt s.size block)) ∧ Below w.heap.size w w' := by
  obtain ⟨i1, hj, hy0, hy1, hy2⟩ := info_parts infoStrS
  obtain ⟨n, hn⟩ : ∃ n, n = cnt s.size block := ⟨_, rfl⟩
  have hcs := @cnt_spec s.size block (by omega)
  have hnl : n ≤ 524288 := by rw [hn]; exact Nat.le_trans (cnt_le (by omega)) hs
  have HN := Lib.hid hn
  rw [← hn] at hcs
  rw [← hn]
  have HC := Lib.hid hcs
  clear hn hcs
  go_enter Try.func79, Try.ntmps79
  go_wp2
  go_loopw [5, 6] (fun v i wr => ∃ k : Nat, k ≤ n ∧ i = .int .i64 (k * block : Nat) ∧ RowS wr w.heap.size v (pieces s block k) ∧ Below w.heap.size w wr) (fun _ i _ => s.size + block - (intOf i).toNat)
  case atStart => exact ⟨0, by omega, by simp, World.ownsRow_nil _ _ _ _, Below.refl _ _⟩
  case round =>
    obtain ⟨k, hk, rfl, hO, hB⟩ := hrel
    have hpl : (pieces s block k).length = k := pieces_len _ _ _
    have hps := pieces_succ s block k
    have hS := hB.size
    have hm : (k + 1) * block = k * block + block := by rw [Nat.add_mul, Nat.one_mul]
    have hpe := piece_end s block k
    by_cases hlt : k < n
    · have hkb : k * block < s.size := (HC.out k).1 hlt
      have hkn : k + 1 ≤ n := hlt
      rw [hm] at hpe
      obtain ⟨a, ha⟩ : ∃ a, a = k * block := ⟨_, rfl⟩
      rw [← ha] at hkb hpe hm
      rw [← ha]
      obtain ⟨L, hL⟩ : ∃ L, L = pieces s block k := ⟨_, rfl⟩
      rw [← hL] at hO hpl hps
      obtain ⟨p, hp⟩ : ∃ p, p = piece s block k := ⟨_, rfl⟩
      rw [← hp] at hpe hps
      have HP := Lib.hid hps
      have HM := Lib.hid hm
      have HA := Lib.hid ha
      have HL := Lib.hid hpl
      clear hp hL ha hps hm hpl hk
      obtain ⟨ao, kw, rfl⟩ := slice_of hO
      have hO2 : wr.ownsRow w.heap.size 9 1 (.slice ao L.length kw) L.length (L.map Value.string) := hO
      clear hO
      by_cases he : s.size < a + block
      · have hmn : min (a + block) s.size = s.size := by omega
        rw [hmn] at hpe
        clear hmn
        go_wp2_with (at_builtin; refine wpList_append_own _ rfl _ _ 36 rfl w.heap.size 9 i1 (.string ByteArray.empty) 1 16 Try.underlying36 hj hy0 hy1 hy2 rfl (by decide) _ _ _ rfl (hO2.alloc _) ⟨wr.heap.size, 0, none⟩ 1 1 [.string p] rfl rfl (cell1_new _ _ _) (one1 _ rfl) (by unfold maxLen; have := HL.out; omega) (by have := HL.out; omega) (by simp; omega) ?_)
        intro v' w3 hO3 hg3 _
        have hO4 : RowS w3 w.heap.size v' (pieces s block (k + 1)) := by rw [HP.out]; exact RowS.snoc hO3
        have hB4 : Below w.heap.size w w3 := (hB.alloc (by omega) _).grown hg3 (by simp; omega) (fun j hj => by have := World.ownsRow.lt hO2 j hj; omega)
        clear hO3 hg3 hO2 hB
        go_wp2
        go_roundw
        case rel => exact ⟨k + 1, by omega, by rw [HM.out]; go_num, hO4, hB4⟩
        case measure => simp [intOf]; omega
      · have hmn : min (a + block) s.size = a + block := by omega
        rw [hmn] at hpe
        clear hmn
        go_wp2_with (at_builtin; refine wpList_append_own _ rfl _ _ 36 rfl w.heap.size 9 i1 (.string ByteArray.empty) 1 16 Try.underlying36 hj hy0 hy1 hy2 rfl (by decide) _ _ _ rfl (hO2.alloc _) ⟨wr.heap.size, 0, none⟩ 1 1 [.string p] rfl rfl (cell1_new _ _ _) (one1 _ rfl) (by unfold maxLen; have := HL.out; omega) (by have := HL.out; omega) (by simp; omega) ?_)
        intro v' w3 hO3 hg3 _
        have hO4 : RowS w3 w.heap.size v' (pieces s block (k + 1)) := by rw [HP.out]; exact RowS.snoc hO3
        have hB4 : Below w.heap.size w w3 := (hB.alloc (by omega) _).grown hg3 (by simp; omega) (fun j hj => by have := World.ownsRow.lt hO2 j hj; omega)
        clear hO3 hg3 hO2 hB
        go_wp2
        go_roundw
        case rel => exact ⟨k + 1, by omega, by rw [HM.out]; go_num, hO4, hB4⟩
        case measure => simp [intOf]; omega
    · have hkn : k = n := by omega
      have hnb : ¬ k * block < s.size := fun e => hlt ((HC.out k).2 e)
      subst hkn
      have h2 : k * block ≤ 1000000000 := by
        have : k * block ≤ 524288 * 1024 := Nat.mul_le_mul hnl hb2
        omega
      obtain ⟨a, ha⟩ : ∃ a, a = k * block := ⟨_, rfl⟩
      rw [← ha] at hnb h2
      rw [← ha]
      clear ha hm hpe hps
      go_wp2
      go_ret
      exact ⟨_, rfl, hO, hB⟩
structure SgK {S : Type} (C : Nat → Prop) (K : World → S → Option Nat → Prop) (F0 : Option Nat) (w wr : World) (p6 p8 B1 : Nat) (b z : Int) (wv sv lv : Value) (LI : List Int) (LS L : List ByteArray) (SN : S) (F : Option Nat) : Prop where
  g : Blk wr p8 [.int .i64 b, .int .i64 z, wv, sv] 52
  z : Blk wr p6 [.int .i64 0, .int .i64 0, .slice none 0 0, .slice none 0 0] 52
  i : RowI wr B1 wv LI
  s : RowS wr B1 sv LS
  l : RowS wr (p8 + 1) lv L
  lb : ∀ j, lv.ownBlock = some j → j < B1
  ap : ApartR wv sv
  k : K wr SN F
  kw : Kept (fun k => C k ∨ F0 = some k) w wr
  fo : ∀ j, F = some j → F0 = some j ∨ (B1 ≤ j ∧ wv.ownBlock ≠ some j ∧ sv.ownBlock ≠ some j)
  c0 : ∀ j, C j → j < w.heap.size
  f0 : ∀ j, F0 = some j → j < w.heap.size
  w6 : w.heap.size ≤ p6
  p68 : p6 < p8
  p8B : p8 < B1
theorem setKept (w : World) (p i : Nat) (v : Value) : Kept (fun k => k = p) w (w.setCell ⟨p, i, none⟩ v) := (Kept.refl (fun k => k = p) w).set (p := p) rfl i v
section
variable {S : Type} {C : Nat → Prop} {K : World → S → Option Nat → Prop} {F0 F : Option Nat} {w wr : World} {p6 p8 B1 : Nat} {b z : Int} {wv sv lv : Value} {LI : List Int} {LS L : List ByteArray} {SN : S}
theorem _root_.Go.Proofs.Ytgemhgllifhckaa.Blk.keptB {w w' : World} {q : Nat} {cs : List Value} {t : TypeId} (h : Blk w q cs t) {T : Nat → Prop} (hk : Kept T w w') (hq : ¬ T q) : Blk w' q cs t := by
  have hl := h.lt
  unfold Blk at h ⊢
  rw [hk.block q hl hq]; exact h
theorem owns_kept {w w' : World} {base : Nat} {e : TypeId} {size n : Nat} {v : Value} {xs : List Value} (h : w.ownsRow base e size v n xs) {T : Nat → Prop} (hk : Kept T w w') (hq : ∀ j, v.ownBlock = some j → ¬ T j) : w'.ownsRow base e size v n xs :=
  owns_block h (fun k e => hk.block k (owns_lt h e) (hq k e))
/-- a step that touches no block of ours but those told -/
theorem SgK.step {q : Nat} {len : S → Nat} {stp : S → ByteArray → S} {out : S → ByteArray → ByteArray} {f : FuncId} (hbk : Bookish f q C S len stp out K) (h : SgK C K F0 w wr p6 p8 B1 b z wv sv lv LI LS L SN F) {w' : World} (hk : Kept (fun _ => False) wr w') : SgK C K F0 w w' p6 p8 B1 b z wv sv lv LI LS L SN F :=
  ⟨h.g.keptB hk (by simp), h.z.keptB hk (by simp), owns_kept h.i hk (by simp), owns_kept h.s hk (by simp), owns_kept h.l hk (by simp), h.lb, h.ap, hbk.kept _ _ _ _ _ h.k hk (by simp) (by simp), h.kw.trans hk (by simp), h.fo, h.c0, h.f0, h.w6, h.p68, h.p8B⟩
theorem SgK.notBook (h : SgK C K F0 w wr p6 p8 B1 b z wv sv lv LI LS L SN F) :
    (¬ (C p8 ∨ F = some p8)) ∧ (¬ (C p6 ∨ F = some p6)) ∧ (∀ j, wv.ownBlock = some j → ¬ (C j ∨ F = some j)) ∧ (∀ j, sv.ownBlock = some j → ¬ (C j ∨ F = some j)) ∧ (∀ j, lv.ownBlock = some j → ¬ (C j ∨ F = some j)) := by
  have h3 := h.w6; have h4 := h.p68; have h5 := h.p8B
  have hs := h.kw.size
  have far : ∀ j, w.heap.size ≤ j → j < B1 → ¬ (C j ∨ F = some j) := by
    intro j h1 h2 e
    rcases e with e | e
    · have := h.c0 j e; omega
    · rcases h.fo j e with e | ⟨e, -⟩
      · have := h.f0 j e; omega
      · omega
  refine ⟨far p8 (by omega) (by omega), far p6 (by omega) (by omega), fun j hj e => ?_, fun j hj e => ?_, fun j hj => far j ?_ (h.lb j hj)⟩
  · have hl := (World.ownsRow.lt h.i j hj).1
    rcases e with e | e
    · have := h.c0 j e; omega
    · rcases h.fo j e with e | ⟨-, e, -⟩
      · have := h.f0 j e; omega
      · exact e hj
  · have hl := (World.ownsRow.lt h.s j hj).1
    rcases e with e | e
    · have := h.c0 j e; omega
    · rcases h.fo j e with e | ⟨-, -, e⟩
      · have := h.f0 j e; omega
      · exact e hj
  · have hl := (World.ownsRow.lt h.l j hj).1; omega
theorem SgK.mark (h : SgK C K F0 w wr p6 p8 B1 b z wv sv lv LI LS L SN F) {w' : World} {SN' : S} {F' : Option Nat} (hK : K w' SN' F') (hk : Kept (fun k => C k ∨ F = some k) wr w') (hF : ∀ k, F' = some k → F = some k ∨ wr.heap.size ≤ k) (hB : B1 ≤ wr.heap.size) : SgK C K F0 w w' p6 p8 B1 b z wv sv lv LI LS L SN' F' := by
  obtain ⟨n1, n2, n3, n4, n5⟩ := h.notBook
  have hs := h.kw.size
  refine ⟨h.g.keptB hk n1, h.z.keptB hk n2, owns_kept h.i hk n3, owns_kept h.s hk n4, owns_kept h.l hk n5, h.lb, h.ap, hK, h.kw.trans hk ?_, fun j hj => ?_, h.c0, h.f0, h.w6, h.p68, h.p8B⟩
  · intro i hi e
    rcases e with e | e
    · exact .inl e
    · rcases h.fo i e with e | ⟨e, -⟩
      · exact .inr e
      · have := h.w6; have := h.p68; have := h.p8B; omega
  · rcases hF j hj with e | e
    · exact h.fo j e
    · refine .inr ⟨by omega, fun e2 => ?_, fun e2 => ?_⟩
      · have := (World.ownsRow.lt h.i j e2).2; omega
      · have := (World.ownsRow.lt h.s j e2).2; omega
theorem SgK.weak {q : Nat} {len : S → Nat} {stp : S → ByteArray → S} {out : S → ByteArray → ByteArray} {f : FuncId} (hbk : Bookish f q C S len stp out K) (h : SgK C K F0 w wr p6 p8 B1 b z wv sv lv LI LS L SN F) {w5 : World} {v5 : Value} {x : Int} (ho : w5.ownsRow B1 3 1 v5 (LI.length + 1) (LI.map (Value.int .i64) ++ [.int .i64 x]))
    (hg : wr.grownBy w5 wv.ownBlock) (hb : v5.ownBlock = wv.ownBlock ∨ v5.ownBlock = some wr.heap.size) (hB : B1 ≤ wr.heap.size) : SgK C K F0 w (w5.setCell ⟨p8, 2, none⟩ v5) p6 p8 B1 b z v5 sv lv (LI ++ [x]) LS L SN F := by
  have h3 := h.w6; have h4 := h.p68; have h5 := h.p8B
  obtain ⟨n1, n2, n3, n4, n5⟩ := h.notBook
  obtain ⟨q1, q2⟩ := hbk.lt _ _ _ h.k
  have hs := h.kw.size
  have hk := Kept.of_grown hg
  have hk2 := setKept w5 p8 2 v5
  have iw : ∀ j, wv.ownBlock = some j → B1 ≤ j := fun j hj => (World.ownsRow.lt h.i j hj).1
  have i5 : ∀ j, v5.ownBlock = some j → B1 ≤ j := fun j hj => (World.ownsRow.lt ho j hj).1
  have si : ∀ j, sv.ownBlock = some j → B1 ≤ j ∧ j < wr.heap.size := fun j hj => World.ownsRow.lt h.s j hj
  refine ⟨(h.g.keptB hk (fun e => by have := iw _ e; omega)).set 2 v5, (h.z.keptB hk (fun e => by have := iw _ e; omega)).setOther (by simp; omega) v5, RowI.snoc (owns_kept ho hk2 (fun j hj e => by have := i5 j hj; omega)),
    owns_kept (owns_kept h.s hk (fun j hj e => h.ap j e hj)) hk2 (fun j hj e => by have := (si j hj).1; omega), owns_kept (owns_kept h.l hk (fun j hj e => by have := iw j e; have := h.lb j hj; omega)) hk2 (fun j hj e => by have := (World.ownsRow.lt h.l j hj).1; omega), h.lb, ?_,
    hbk.kept _ _ _ _ _ (hbk.kept _ _ _ _ _ h.k hk (fun k hk e => n3 k e (.inl hk)) (fun k hk e => n3 k e (.inr hk))) hk2 (fun k hk e => n1 (.inl (e ▸ hk))) (fun k hk e => n1 (.inr (e ▸ hk))),
    (h.kw.trans hk (fun i hi e => by have := iw i e; omega)).trans hk2 (fun i hi e => by omega), fun j hj => ?_, h.c0, h.f0, h3, h4, h5⟩
  · intro j hj e
    rcases hb with hb | hb
    · exact h.ap j (by rw [← hb]; exact hj) e
    · rw [hb] at hj; simp only [Option.some.injEq] at hj; have := (si j e).2; omega
  · rcases h.fo j hj with e | ⟨e1, e2, e3⟩
    · exact .inl e
    · refine .inr ⟨e1, fun e => ?_, e3⟩
      rcases hb with hb | hb
      · exact e2 (by rw [← hb]; exact e)
      · rw [hb] at e; simp only [Option.some.injEq] at e; have := q2 j hj; omega
theorem SgK.strong {q : Nat} {len : S → Nat} {stp : S → ByteArray → S} {out : S → ByteArray → ByteArray} {f : FuncId} (hbk : Bookish f q C S len stp out K) (h : SgK C K F0 w wr p6 p8 B1 b z wv sv lv LI LS L SN F) {w5 : World} {v5 : Value} {x : ByteArray} (ho : w5.ownsRow B1 9 1 v5 (LS.length + 1) (LS.map Value.string ++ [.string x]))
    (hg : wr.grownBy w5 sv.ownBlock) (hb : v5.ownBlock = sv.ownBlock ∨ v5.ownBlock = some wr.heap.size) (hB : B1 ≤ wr.heap.size) : SgK C K F0 w (w5.setCell ⟨p8, 3, none⟩ v5) p6 p8 B1 b z wv v5 lv LI (LS ++ [x]) L SN F := by
  have h3 := h.w6; have h4 := h.p68; have h5 := h.p8B
  obtain ⟨n1, n2, n3, n4, n5⟩ := h.notBook
  obtain ⟨q1, q2⟩ := hbk.lt _ _ _ h.k
  have hs := h.kw.size
  have hk := Kept.of_grown hg
  have hk2 := setKept w5 p8 3 v5
  have iw : ∀ j, sv.ownBlock = some j → B1 ≤ j := fun j hj => (World.ownsRow.lt h.s j hj).1
  have i5 : ∀ j, v5.ownBlock = some j → B1 ≤ j := fun j hj => (World.ownsRow.lt ho j hj).1
  have si : ∀ j, wv.ownBlock = some j → B1 ≤ j ∧ j < wr.heap.size := fun j hj => World.ownsRow.lt h.i j hj
  refine ⟨(h.g.keptB hk (fun e => by have := iw _ e; omega)).set 3 v5, (h.z.keptB hk (fun e => by have := iw _ e; omega)).setOther (by simp; omega) v5, owns_kept (owns_kept h.i hk (fun j hj e => h.ap j hj e)) hk2 (fun j hj e => by have := (si j hj).1; omega), RowS.snoc (owns_kept ho hk2 (fun j hj e => by have := i5 j hj; omega)),
    owns_kept (owns_kept h.l hk (fun j hj e => by have := iw j e; have := h.lb j hj; omega)) hk2 (fun j hj e => by have := (World.ownsRow.lt h.l j hj).1; omega), h.lb, ?_,
    hbk.kept _ _ _ _ _ (hbk.kept _ _ _ _ _ h.k hk (fun k hk e => n4 k e (.inl hk)) (fun k hk e => n4 k e (.inr hk))) hk2 (fun k hk e => n1 (.inl (e ▸ hk))) (fun k hk e => n1 (.inr (e ▸ hk))),
    (h.kw.trans hk (fun i hi e => by have := iw i e; omega)).trans hk2 (fun i hi e => by omega), fun j hj => ?_, h.c0, h.f0, h3, h4, h5⟩
  · intro j hj e
    rcases hb with hb | hb
    · exact h.ap j hj (by rw [← hb]; exact e)
    · rw [hb] at e; simp only [Option.some.injEq] at e; have := (si j hj).2; omega
  · rcases h.fo j hj with e | ⟨e1, e2, e3⟩
    · exact .inl e
    · refine .inr ⟨e1, e2, fun e => ?_⟩
      rcases hb with hb | hb
      · exact e3 (by rw [← hb]; exact e)
      · rw [hb] at e; simp only [Option.some.injEq] at e; have := q2 j hj; omega
theorem SgK.done {q : Nat} {len : S → Nat} {stp : S → ByteArray → S} {out : S → ByteArray → ByteArray} {f : FuncId} (hbk : Bookish f q C S len stp out K) (h : SgK C K F0 w wr p6 p8 B1 b z wv sv lv LI LS L SN F) {w' : World} (hk : Kept (fun k => k = p6) wr w') :
    RowI w' w.heap.size wv LI ∧ RowS w' w.heap.size sv LS ∧ K w' SN F ∧ Kept (fun k => C k ∨ F0 = some k) w w' ∧ (∀ k, F = some k → F0 = some k ∨ (w.heap.size ≤ k ∧ wv.ownBlock ≠ some k ∧ sv.ownBlock ≠ some k)) := by
  have h3 := h.w6; have h4 := h.p68; have h5 := h.p8B
  obtain ⟨n1, n2, n3, n4, n5⟩ := h.notBook
  refine ⟨owns_mono (owns_kept h.i hk (fun j hj e => by have := (World.ownsRow.lt h.i j hj).1; omega)) (by omega), owns_mono (owns_kept h.s hk (fun j hj e => by have := (World.ownsRow.lt h.s j hj).1; omega)) (by omega),
    hbk.kept _ _ _ _ _ h.k hk (fun k hk e => n2 (.inl (e ▸ hk))) (fun k hk e => n2 (.inr (e ▸ hk))), h.kw.trans hk (fun i hi e => by omega), fun k hk => ?_⟩
  rcases h.fo k hk with e | ⟨e, e2, e3⟩
  · exact .inl e
  · exact .inr ⟨by omega, e2, e3⟩
end
theorem below_kept {a b : World} (h : Below a.heap.size a b) : Kept (fun _ => False) a b := Kept.of_below _ h
end Go.Proofs.Ytgemhgllifhckaa.Sg
