/- The document's Sign, whichever its book. Conditions: as named in each theorem. -/
import Derived.Test.YtgemhgllifhckaaRefBook
import Derived.Test.YtgemhgllifhckaaSgSign
import Derived.Test.YtgemhgllifhckaaSgCore
namespace Go.Proofs.Ytgemhgllifhckaa.Sg
open Go.RowKit
set_option linter.unusedVariables false
set_option linter.unusedSimpArgs false

/-- f, called on the pointer to q with a text, answers with its mark: state s goes to step s t, the mark is out s t; the book's blocks are those of C and F -/
structure Bookish (f : FuncId) (q : Nat) (C : Nat → Prop) (S : Type) (len : S → Nat) (step : S → ByteArray → S) (out : S → ByteArray → ByteArray) (K : World → S → Option Nat → Prop) : Prop where
  lt : ∀ w s F, K w s F → (∀ k, C k → k < w.heap.size) ∧ (∀ k, F = some k → k < w.heap.size)
  kept : ∀ w w' s F U, K w s F → Kept U w w' → (∀ k, C k → ¬ U k) → (∀ k, F = some k → ¬ U k) → K w' s F
  mark : ∀ w s F t, K w s F → t.size ≤ 524288 → len s ≤ 1000000000 → Calls Try.prog f #[.pointer (some ⟨q, 0, none⟩), .string t] w fun e w' =>
    ∃ F', e = .returned (.string (out s t)) ∧ K w' (step s t) F' ∧ Kept (fun k => C k ∨ F = some k) w w' ∧ (∀ k, F' = some k → F = some k ∨ w.heap.size ≤ k)
  grow : ∀ s t, len (step s t) ≤ len s + 1
/-- marks of texts, one behind the other -/
def bMark {S : Type} (step : S → ByteArray → S) (out : S → ByteArray → ByteArray) (z : S × List ByteArray) (p : ByteArray) : S × List ByteArray := (step z.1 p, z.2 ++ [out z.1 p])
def bMarks {S : Type} (step : S → ByteArray → S) (out : S → ByteArray → ByteArray) (s : S) (l : List ByteArray) : S × List ByteArray := l.foldl (bMark step out) (s, [])
theorem bMarks_snoc {S : Type} (step : S → ByteArray → S) (out : S → ByteArray → ByteArray) (s : S) (l : List ByteArray) (p : ByteArray) : bMarks step out s (l ++ [p]) = bMark step out (bMarks step out s l) p := by unfold bMarks; rw [List.foldl_append]; rfl
theorem bMarks_len {S : Type} (step : S → ByteArray → S) (out : S → ByteArray → ByteArray) (s : S) (l : List ByteArray) : (bMarks step out s l).2.length = l.length := by
  have h : ∀ (l : List ByteArray) (z : S × List ByteArray), (l.foldl (bMark step out) z).2.length = z.2.length + l.length := by
    intro l
    induction l with
    | nil => intro z; rfl
    | cons p l ih => intro z; rw [List.foldl_cons, ih]; unfold bMark; simp; omega
  unfold bMarks
  rw [h]; simp
theorem bMarks_grow {f : FuncId} {q : Nat} {C : Nat → Prop} {S : Type} {len : S → Nat} {step : S → ByteArray → S} {out : S → ByteArray → ByteArray} {K : World → S → Option Nat → Prop} (hb : Bookish f q C S len step out K) (s : S) (l : List ByteArray) :
    len (bMarks step out s l).1 ≤ len s + l.length := by
  have h : ∀ (l : List ByteArray) (z : S × List ByteArray), len (l.foldl (bMark step out) z).1 ≤ len z.1 + l.length := by
    intro l
    induction l with
    | nil => intro z; simp
    | cons p l ih => intro z; rw [List.foldl_cons]; have := ih (bMark step out z p); have := hb.grow z.1 p; unfold bMark at *; simp only [List.length_cons] at *; omega
  exact h l _
theorem bMarks_addS (seen : Bk) (l : List ByteArray) : bMarks (fun (s : Bk) (t : ByteArray) => addS s (bytesOf t)) (fun s t => numS (s.idxOf (bytesOf t) + 1)) seen l = marksOf seen l := rfl

/-- the document's book, not real, at q -/
def RefK (q : Nat) (w : World) (seen : Bk) (F : Option Nat) : Prop := ∃ v, RefB w q v seen ∧ v.ownBlock = F ∧ ∀ k, v.ownBlock = some k → k ≠ q
theorem ref_bookish (q : Nat) : Bookish 42 q (fun k => k = q) Bk List.length (fun s t => addS s (bytesOf t)) (fun s t => numS (s.idxOf (bytesOf t) + 1)) (RefK q) where
  lt := by
    rintro w s F ⟨v, h, rfl, hn⟩
    exact ⟨fun k hk => by subst hk; exact h.1.lt, fun k hk => by obtain ⟨_, ss, _, hO⟩ := h; exact owns_lt hO hk⟩
  kept := by
    rintro w w' s F U ⟨v, h, rfl, hn⟩ hk h1 h2
    exact ⟨v, h.kept hk (h1 q rfl) h2, rfl, hn⟩
  mark := by
    rintro w s F t ⟨v, h, rfl, hn⟩ ht hl
    refine (refMark_any w q v s t h hl).mono ?_
    rintro e w' ⟨v', rfl, h1, h2, h3⟩
    refine ⟨v'.ownBlock, rfl, ⟨v', h1, rfl, fun k hk => ?_⟩, h2, h3⟩
    rcases h3 k hk with h4 | h4
    · exact hn k h4
    · have := h.1.lt; omega
  grow := fun s t => addS_len s _
theorem refK_new {w : World} {q : Nat} (h : Blk w q [.bool false, .slice none 0 0] 38) : RefK q w [] none :=
  ⟨.slice none 0 0, ⟨h, [], rfl, World.ownsRow_nil _ _ _ _⟩, by simp [Value.ownBlock], by simp [Value.ownBlock]⟩

/-- an ideal book at p, its table at m -/
def IdealK (p m : Nat) (w : World) (seen : Bk) (F : Option Nat) : Prop := BookI w p m seen ∧ F = none
theorem ideal_bookish (p m : Nat) : Bookish 40 p (fun k => k = p ∨ k = m) Bk List.length (fun s t => addS s (bytesOf t)) (fun s t => numS (s.idxOf (bytesOf t) + 1)) (IdealK p m) where
  lt := by
    rintro w s F ⟨h, rfl⟩
    have := h.2.2.2.2.1
    exact ⟨fun k hk => hk.elim (fun e => e ▸ this.1) (fun e => e ▸ this.2), fun k hk => by cases hk⟩
  kept := by
    rintro w w' s F U ⟨h, rfl⟩ hk h1 h2
    exact ⟨h.kept hk (h1 p (.inl rfl)) (h1 m (.inr rfl)), rfl⟩
  mark := by
    rintro w s F t ⟨h, rfl⟩ ht hl
    refine (mark_ideal w p m s t h (Nat.le_trans ht (by decide)) (by omega)).mono ?_
    rintro e w' ⟨rfl, h1, h2⟩
    exact ⟨none, rfl, ⟨h1, rfl⟩, (Kept.of_grown h2).mono (fun k _ hk => by simp only [Option.some.injEq] at hk; exact .inl (.inr hk.symm)), fun k hk => by cases hk⟩
  grow := fun s t => addS_len s _
theorem cell_new0 (w : World) (x : Value) (e : TypeId) : ∀ j u, [x][j]? = some u → (w.alloc (.cells #[x] e)).cell? ((⟨w.heap.size, 0, none⟩ : Addr).add j) = some u := sg_new w x e
set_option maxRecDepth 100000 in
set_option maxHeartbeats 600000 in
theorem refBlocks_any (w : World) (s : ByteArray) (block : Nat) (hs : s.size ≤ 524288) (hb : 16 ≤ block) (hb2 : block ≤ 1024) :
    Calls Try.prog 79 #[.string s, .int .i64 block] w fun e w' => ∃ v, e = .returned v ∧ RowS w' w.heap.size v (pieces s block (cnt s.size block)) ∧ Below w.heap.size w w' := by
  obtain ⟨i1, hj, hy0, hy1, hy2⟩ := info_parts infoStrS
  obtain ⟨n, hn⟩ : ∃ n, n = cnt s.size block := ⟨_, rfl⟩
  have hcs := @cnt_spec s.size block (by omega)
  have hnl : n ≤ 524288 := by rw [hn]; exact Nat.le_trans (cnt_le (by omega)) hs
  have HN := Lib.hid hn
  rw [← hn] at hcs
  rw [← hn]
  have HC := Lib.hid hcs
  clear hn hcs
  go_enter Try.func79, Try.ntmps79
  go_wp2
  go_loopw [5, 6] (fun v i wr => ∃ k : Nat, k ≤ n ∧ i = .int .i64 (k * block : Nat) ∧ RowS wr w.heap.size v (pieces s block k) ∧ Below w.heap.size w wr) (fun _ i _ => s.size + block - (intOf i).toNat)
  case atStart => exact ⟨0, by omega, by simp, World.ownsRow_nil _ _ _ _, Below.refl _ _⟩
  case round =>
    obtain ⟨k, hk, rfl, hO, hB⟩ := hrel
    have hpl : (pieces s block k).length = k := pieces_len _ _ _
    have hps := pieces_succ s block k
    have hS := hB.size
    have hm : (k + 1) * block = k * block + block := by rw [Nat.add_mul, Nat.one_mul]
    have hpe := piece_end s block k
    by_cases hlt : k < n
    · have hkb : k * block < s.size := (HC.out k).1 hlt
      have hkn : k + 1 ≤ n := hlt
      rw [hm] at hpe
      obtain ⟨a, ha⟩ : ∃ a, a = k * block := ⟨_, rfl⟩
      rw [← ha] at hkb hpe hm
      rw [← ha]
      obtain ⟨L, hL⟩ : ∃ L, L = pieces s block k := ⟨_, rfl⟩
      rw [← hL] at hO hpl hps
      obtain ⟨p, hp⟩ : ∃ p, p = piece s block k := ⟨_, rfl⟩
      rw [← hp] at hpe hps
      have HP := Lib.hid hps
      have HM := Lib.hid hm
      have HA := Lib.hid ha
      have HL := Lib.hid hpl
      clear hp hL ha hps hm hpl hk
      obtain ⟨ao, kw, rfl⟩ := slice_of hO
      have hO2 : wr.ownsRow w.heap.size 9 1 (.slice ao L.length kw) L.length (L.map Value.string) := hO
      clear hO
      by_cases he : s.size < a + block
      · have hmn : min (a + block) s.size = s.size := by omega
        rw [hmn] at hpe
        clear hmn
        go_wp2_with (at_builtin; refine wpList_append_own _ rfl _ _ 36 rfl w.heap.size 9 i1 (.string ByteArray.empty) 1 16 Try.underlying36 hj hy0 hy1 hy2 rfl (by decide) _ _ _ rfl (hO2.alloc _) ⟨wr.heap.size, 0, none⟩ 1 1 [.string p] rfl rfl (cell1_new _ _ _) (one1 _ rfl) (by unfold maxLen; have := HL.out; omega) (by have := HL.out; omega) (by simp; omega) ?_)
        intro v' w3 hO3 hg3 _
        have hO4 : RowS w3 w.heap.size v' (pieces s block (k + 1)) := by rw [HP.out]; exact RowS.snoc hO3
        have hB4 : Below w.heap.size w w3 := (hB.alloc (by omega) _).grown hg3 (by simp; omega) (fun j hj => by have := World.ownsRow.lt hO2 j hj; omega)
        clear hO3 hg3 hO2 hB
        go_wp2
        go_roundw
        case rel => exact ⟨k + 1, by omega, by rw [HM.out]; go_num, hO4, hB4⟩
        case measure => simp [intOf]; omega
      · have hmn : min (a + block) s.size = a + block := by omega
        rw [hmn] at hpe
        clear hmn
        go_wp2_with (at_builtin; refine wpList_append_own _ rfl _ _ 36 rfl w.heap.size 9 i1 (.string ByteArray.empty) 1 16 Try.underlying36 hj hy0 hy1 hy2 rfl (by decide) _ _ _ rfl (hO2.alloc _) ⟨wr.heap.size, 0, none⟩ 1 1 [.string p] rfl rfl (cell1_new _ _ _) (one1 _ rfl) (by unfold maxLen; have := HL.out; omega) (by have := HL.out; omega) (by simp; omega) ?_)
        intro v' w3 hO3 hg3 _
        have hO4 : RowS w3 w.heap.size v' (pieces s block (k + 1)) := by rw [HP.out]; exact RowS.snoc hO3
        have hB4 : Below w.heap.size w w3 := (hB.alloc (by omega) _).grown hg3 (by simp; omega) (fun j hj => by have := World.ownsRow.lt hO2 j hj; omega)
        clear hO3 hg3 hO2 hB
        go_wp2
        go_roundw
        case rel => exact ⟨k + 1, by omega, by rw [HM.out]; go_num, hO4, hB4⟩
        case measure => simp [intOf]; omega
    · have hkn : k = n := by omega
      have hnb : ¬ k * block < s.size := fun e => hlt ((HC.out k).2 e)
      subst hkn
      have h2 : k * block ≤ 1000000000 := by
        have : k * block ≤ 524288 * 1024 := Nat.mul_le_mul hnl hb2
        omega
      obtain ⟨a, ha⟩ : ∃ a, a = k * block := ⟨_, rfl⟩
      rw [← ha] at hnb h2
      rw [← ha]
      clear ha hm hpe hps
      go_wp2
      go_ret
      exact ⟨_, rfl, hO, hB⟩
structure SgK {S : Type} (C : Nat → Prop) (K : World → S → Option Nat → Prop) (F0 : Option Nat) (w wr : World) (p6 p8 B1 : Nat) (b z : Int) (wv sv lv : Value) (LI : List Int) (LS L : List ByteArray) (SN : S) (F : Option Nat) : Prop where
  g : Blk wr p8 [.int .i64 b, .int .i64 z, wv, sv] 52
  z : Blk wr p6 [.int .i64 0, .int .i64 0, .slice none 0 0, .slice none 0 0] 52
  i : RowI wr B1 wv LI
  s : RowS wr B1 sv LS
  l : RowS wr (p8 + 1) lv L
  lb : ∀ j, lv.ownBlock = some j → j < B1
  ap : ApartR wv sv
  k : K wr SN F
  kw : Kept (fun k => C k ∨ F0 = some k) w wr
  fo : ∀ j, F = some j → F0 = some j ∨ (B1 ≤ j ∧ wv.ownBlock ≠ some j ∧ sv.ownBlock ≠ some j)
  c0 : ∀ j, C j → j < w.heap.size
  f0 : ∀ j, F0 = some j → j < w.heap.size
  w6 : w.heap.size ≤ p6
  p68 : p6 < p8
  p8B : p8 < B1
theorem setKept (w : World) (p i : Nat) (v : Value) : Kept (fun k => k = p) w (w.setCell ⟨p, i, none⟩ v) := (Kept.refl (fun k => k = p) w).set (p := p) rfl i v
section
variable {S : Type} {C : Nat → Prop} {K : World → S → Option Nat → Prop} {F0 F : Option Nat} {w wr : World} {p6 p8 B1 : Nat} {b z : Int} {wv sv lv : Value} {LI : List Int} {LS L : List ByteArray} {SN : S}
theorem _root_.Go.Proofs.Ytgemhgllifhckaa.Blk.keptB {w w' : World} {q : Nat} {cs : List Value} {t : TypeId} (h : Blk w q cs t) {T : Nat → Prop} (hk : Kept T w w') (hq : ¬ T q) : Blk w' q cs t := by
  have hl := h.lt
  unfold Blk at h ⊢
  rw [hk.block q hl hq]; exact h
theorem owns_kept {w w' : World} {base : Nat} {e : TypeId} {size n : Nat} {v : Value} {xs : List Value} (h : w.ownsRow base e size v n xs) {T : Nat → Prop} (hk : Kept T w w') (hq : ∀ j, v.ownBlock = some j → ¬ T j) : w'.ownsRow base e size v n xs :=
  owns_block h (fun k e => hk.block k (owns_lt h e) (hq k e))
/-- a step that touches no block of ours but those told -/
theorem SgK.step {q : Nat} {len : S → Nat} {stp : S → ByteArray → S} {out : S → ByteArray → ByteArray} {f : FuncId} (hbk : Bookish f q C S len stp out K) (h : SgK C K F0 w wr p6 p8 B1 b z wv sv lv LI LS L SN F) {w' : World} (hk : Kept (fun _ => False) wr w') : SgK C K F0 w w' p6 p8 B1 b z wv sv lv LI LS L SN F :=
  ⟨h.g.keptB hk (by simp), h.z.keptB hk (by simp), owns_kept h.i hk (by simp), owns_kept h.s hk (by simp), owns_kept h.l hk (by simp), h.lb, h.ap, hbk.kept _ _ _ _ _ h.k hk (by simp) (by simp), h.kw.trans hk (by simp), h.fo, h.c0, h.f0, h.w6, h.p68, h.p8B⟩
theorem kept_alloc (w : World) (o : Obj) : Kept (fun _ => False) w (w.alloc o) := (Kept.of_grown (World.grownBy_alloc w o none)).mono (by simp)
theorem kept_drew (w : World) : Kept (fun _ => False) w w.drew := ⟨rfl, rfl, rfl, Nat.le_refl _, fun _ _ _ => rfl⟩
theorem SgK.notBook (h : SgK C K F0 w wr p6 p8 B1 b z wv sv lv LI LS L SN F) :
    (¬ (C p8 ∨ F = some p8)) ∧ (¬ (C p6 ∨ F = some p6)) ∧ (∀ j, wv.ownBlock = some j → ¬ (C j ∨ F = some j)) ∧ (∀ j, sv.ownBlock = some j → ¬ (C j ∨ F = some j)) ∧ (∀ j, lv.ownBlock = some j → ¬ (C j ∨ F = some j)) := by
  have h3 := h.w6; have h4 := h.p68; have h5 := h.p8B
  have hs := h.kw.size
  have far : ∀ j, w.heap.size ≤ j → j < B1 → ¬ (C j ∨ F = some j) := by
    intro j h1 h2 e
    rcases e with e | e
    · have := h.c0 j e; omega
    · rcases h.fo j e with e | ⟨e, -⟩
      · have := h.f0 j e; omega
      · omega
  refine ⟨far p8 (by omega) (by omega), far p6 (by omega) (by omega), fun j hj e => ?_, fun j hj e => ?_, fun j hj => far j ?_ (h.lb j hj)⟩
  · have hl := (World.ownsRow.lt h.i j hj).1
    rcases e with e | e
    · have := h.c0 j e; omega
    · rcases h.fo j e with e | ⟨-, e, -⟩
      · have := h.f0 j e; omega
      · exact e hj
  · have hl := (World.ownsRow.lt h.s j hj).1
    rcases e with e | e
    · have := h.c0 j e; omega
    · rcases h.fo j e with e | ⟨-, -, e⟩
      · have := h.f0 j e; omega
      · exact e hj
  · have hl := (World.ownsRow.lt h.l j hj).1; omega
theorem SgK.mark (h : SgK C K F0 w wr p6 p8 B1 b z wv sv lv LI LS L SN F) {w' : World} {SN' : S} {F' : Option Nat} (hK : K w' SN' F') (hk : Kept (fun k => C k ∨ F = some k) wr w') (hF : ∀ k, F' = some k → F = some k ∨ wr.heap.size ≤ k) (hB : B1 ≤ wr.heap.size) : SgK C K F0 w w' p6 p8 B1 b z wv sv lv LI LS L SN' F' := by
  obtain ⟨n1, n2, n3, n4, n5⟩ := h.notBook
  have hs := h.kw.size
  refine ⟨h.g.keptB hk n1, h.z.keptB hk n2, owns_kept h.i hk n3, owns_kept h.s hk n4, owns_kept h.l hk n5, h.lb, h.ap, hK, h.kw.trans hk ?_, fun j hj => ?_, h.c0, h.f0, h.w6, h.p68, h.p8B⟩
  · intro i hi e
    rcases e with e | e
    · exact .inl e
    · rcases h.fo i e with e | ⟨e, -⟩
      · exact .inr e
      · have := h.w6; have := h.p68; have := h.p8B; omega
  · rcases hF j hj with e | e
    · exact h.fo j e
    · refine .inr ⟨by omega, fun e2 => ?_, fun e2 => ?_⟩
      · have := (World.ownsRow.lt h.i j e2).2; omega
      · have := (World.ownsRow.lt h.s j e2).2; omega
theorem SgK.weak {q : Nat} {len : S → Nat} {stp : S → ByteArray → S} {out : S → ByteArray → ByteArray} {f : FuncId} (hbk : Bookish f q C S len stp out K) (h : SgK C K F0 w wr p6 p8 B1 b z wv sv lv LI LS L SN F) {w5 : World} {v5 : Value} {x : Int} (ho : w5.ownsRow B1 3 1 v5 (LI.length + 1) (LI.map (Value.int .i64) ++ [.int .i64 x]))
    (hg : wr.grownBy w5 wv.ownBlock) (hb : v5.ownBlock = wv.ownBlock ∨ v5.ownBlock = some wr.heap.size) (hB : B1 ≤ wr.heap.size) : SgK C K F0 w (w5.setCell ⟨p8, 2, none⟩ v5) p6 p8 B1 b z v5 sv lv (LI ++ [x]) LS L SN F := by
  have h3 := h.w6; have h4 := h.p68; have h5 := h.p8B
  obtain ⟨n1, n2, n3, n4, n5⟩ := h.notBook
  obtain ⟨q1, q2⟩ := hbk.lt _ _ _ h.k
  have hs := h.kw.size
  have hk := Kept.of_grown hg
  have hk2 := setKept w5 p8 2 v5
  have iw : ∀ j, wv.ownBlock = some j → B1 ≤ j := fun j hj => (World.ownsRow.lt h.i j hj).1
  have i5 : ∀ j, v5.ownBlock = some j → B1 ≤ j := fun j hj => (World.ownsRow.lt ho j hj).1
  have si : ∀ j, sv.ownBlock = some j → B1 ≤ j ∧ j < wr.heap.size := fun j hj => World.ownsRow.lt h.s j hj
  refine ⟨(h.g.keptB hk (fun e => by have := iw _ e; omega)).set 2 v5, (h.z.keptB hk (fun e => by have := iw _ e; omega)).setOther (by simp; omega) v5, RowI.snoc (owns_kept ho hk2 (fun j hj e => by have := i5 j hj; omega)),
    owns_kept (owns_kept h.s hk (fun j hj e => h.ap j e hj)) hk2 (fun j hj e => by have := (si j hj).1; omega), owns_kept (owns_kept h.l hk (fun j hj e => by have := iw j e; have := h.lb j hj; omega)) hk2 (fun j hj e => by have := (World.ownsRow.lt h.l j hj).1; omega), h.lb, ?_,
    hbk.kept _ _ _ _ _ (hbk.kept _ _ _ _ _ h.k hk (fun k hk e => n3 k e (.inl hk)) (fun k hk e => n3 k e (.inr hk))) hk2 (fun k hk e => n1 (.inl (e ▸ hk))) (fun k hk e => n1 (.inr (e ▸ hk))),
    (h.kw.trans hk (fun i hi e => by have := iw i e; omega)).trans hk2 (fun i hi e => by omega), fun j hj => ?_, h.c0, h.f0, h3, h4, h5⟩
  · intro j hj e
    rcases hb with hb | hb
    · exact h.ap j (by rw [← hb]; exact hj) e
    · rw [hb] at hj; simp only [Option.some.injEq] at hj; have := (si j e).2; omega
  · rcases h.fo j hj with e | ⟨e1, e2, e3⟩
    · exact .inl e
    · refine .inr ⟨e1, fun e => ?_, e3⟩
      rcases hb with hb | hb
      · exact e2 (by rw [← hb]; exact e)
      · rw [hb] at e; simp only [Option.some.injEq] at e; have := q2 j hj; omega
theorem SgK.strong {q : Nat} {len : S → Nat} {stp : S → ByteArray → S} {out : S → ByteArray → ByteArray} {f : FuncId} (hbk : Bookish f q C S len stp out K) (h : SgK C K F0 w wr p6 p8 B1 b z wv sv lv LI LS L SN F) {w5 : World} {v5 : Value} {x : ByteArray} (ho : w5.ownsRow B1 9 1 v5 (LS.length + 1) (LS.map Value.string ++ [.string x]))
    (hg : wr.grownBy w5 sv.ownBlock) (hb : v5.ownBlock = sv.ownBlock ∨ v5.ownBlock = some wr.heap.size) (hB : B1 ≤ wr.heap.size) : SgK C K F0 w (w5.setCell ⟨p8, 3, none⟩ v5) p6 p8 B1 b z wv v5 lv LI (LS ++ [x]) L SN F := by
  have h3 := h.w6; have h4 := h.p68; have h5 := h.p8B
  obtain ⟨n1, n2, n3, n4, n5⟩ := h.notBook
  obtain ⟨q1, q2⟩ := hbk.lt _ _ _ h.k
  have hs := h.kw.size
  have hk := Kept.of_grown hg
  have hk2 := setKept w5 p8 3 v5
  have iw : ∀ j, sv.ownBlock = some j → B1 ≤ j := fun j hj => (World.ownsRow.lt h.s j hj).1
  have i5 : ∀ j, v5.ownBlock = some j → B1 ≤ j := fun j hj => (World.ownsRow.lt ho j hj).1
  have si : ∀ j, wv.ownBlock = some j → B1 ≤ j ∧ j < wr.heap.size := fun j hj => World.ownsRow.lt h.i j hj
  refine ⟨(h.g.keptB hk (fun e => by have := iw _ e; omega)).set 3 v5, (h.z.keptB hk (fun e => by have := iw _ e; omega)).setOther (by simp; omega) v5, owns_kept (owns_kept h.i hk (fun j hj e => h.ap j hj e)) hk2 (fun j hj e => by have := (si j hj).1; omega), RowS.snoc (owns_kept ho hk2 (fun j hj e => by have := i5 j hj; omega)),
    owns_kept (owns_kept h.l hk (fun j hj e => by have := iw j e; have := h.lb j hj; omega)) hk2 (fun j hj e => by have := (World.ownsRow.lt h.l j hj).1; omega), h.lb, ?_,
    hbk.kept _ _ _ _ _ (hbk.kept _ _ _ _ _ h.k hk (fun k hk e => n4 k e (.inl hk)) (fun k hk e => n4 k e (.inr hk))) hk2 (fun k hk e => n1 (.inl (e ▸ hk))) (fun k hk e => n1 (.inr (e ▸ hk))),
    (h.kw.trans hk (fun i hi e => by have := iw i e; omega)).trans hk2 (fun i hi e => by omega), fun j hj => ?_, h.c0, h.f0, h3, h4, h5⟩
  · intro j hj e
    rcases hb with hb | hb
    · exact h.ap j hj (by rw [← hb]; exact e)
    · rw [hb] at e; simp only [Option.some.injEq] at e; have := (si j hj).2; omega
  · rcases h.fo j hj with e | ⟨e1, e2, e3⟩
    · exact .inl e
    · refine .inr ⟨e1, e2, fun e => ?_⟩
      rcases hb with hb | hb
      · exact e3 (by rw [← hb]; exact e)
      · rw [hb] at e; simp only [Option.some.injEq] at e; have := q2 j hj; omega
theorem SgK.done {q : Nat} {len : S → Nat} {stp : S → ByteArray → S} {out : S → ByteArray → ByteArray} {f : FuncId} (hbk : Bookish f q C S len stp out K) (h : SgK C K F0 w wr p6 p8 B1 b z wv sv lv LI LS L SN F) {w' : World} (hk : Kept (fun k => k = p6) wr w') :
    RowI w' w.heap.size wv LI ∧ RowS w' w.heap.size sv LS ∧ K w' SN F ∧ Kept (fun k => C k ∨ F0 = some k) w w' ∧ (∀ k, F = some k → F0 = some k ∨ (w.heap.size ≤ k ∧ wv.ownBlock ≠ some k ∧ sv.ownBlock ≠ some k)) := by
  have h3 := h.w6; have h4 := h.p68; have h5 := h.p8B
  obtain ⟨n1, n2, n3, n4, n5⟩ := h.notBook
  refine ⟨owns_mono (owns_kept h.i hk (fun j hj e => by have := (World.ownsRow.lt h.i j hj).1; omega)) (by omega), owns_mono (owns_kept h.s hk (fun j hj e => by have := (World.ownsRow.lt h.s j hj).1; omega)) (by omega),
    hbk.kept _ _ _ _ _ h.k hk (fun k hk e => n2 (.inl (e ▸ hk))) (fun k hk e => n2 (.inr (e ▸ hk))), h.kw.trans hk (fun i hi e => by omega), fun k hk => ?_⟩
  rcases h.fo k hk with e | ⟨e, e2, e3⟩
  · exact .inl e
  · exact .inr ⟨by omega, e2, e3⟩
end
theorem rowS_at {w : World} {B bb off n kl k : Nat} {LL : List ByteArray} {P : ByteArray} (h : RowS w B (.slice (some ⟨bb, off, none⟩) n kl) LL) (hk : LL[k]? = some P) : w.cell? ⟨bb, off + k, none⟩ = some (.string P) := by
  have hlt := (List.getElem?_eq_some_iff.1 hk).1
  rcases RowV.of_owns h with ⟨h0, _⟩ | ⟨b2, off2, cap, he, hc⟩
  · omega
  · simp only [Value.slice.injEq, Option.some.injEq, Addr.mk.injEq] at he
    obtain ⟨⟨rfl, rfl, -⟩, -, -⟩ := he
    rw [hc k (by omega)]; simp [List.getD, hk]
theorem below_kept {a b : World} (h : Below a.heap.size a b) : Kept (fun _ => False) a b := Kept.of_below _ h
set_option maxRecDepth 100000 in
set_option maxHeartbeats 2000000 in
theorem refSign_any {q : Nat} {C : Nat → Prop} {S : Type} {len : S → Nat} {stp : S → ByteArray → S} {out : S → ByteArray → ByteArray} {K : World → S → Option Nat → Prop} (hbk : Bookish 42 q C S len stp out K)
    (w : World) (s0 : S) (F : Option Nat) (s : ByteArray) (block : Nat) (hK : K w s0 F) (hs : s.size ≤ 524288) (hb : 16 ≤ block) (hb2 : block ≤ 1024) (hsn : len s0 ≤ 1000000) :
    Calls Try.prog 41 #[.pointer (some ⟨q, 0, none⟩), .string s, .int .i64 block] w fun e w' => ∃ wv sv F', e = .returned (.tuple #[.agg #[.int .i64 block, .int .i64 s.size, wv, sv], .int .i64 0]) ∧
      RowI w' w.heap.size wv ((pieces s block (cnt s.size block)).map weakI) ∧ RowS w' w.heap.size sv (bMarks stp out s0 (pieces s block (cnt s.size block))).2 ∧ K w' (bMarks stp out s0 (pieces s block (cnt s.size block))).1 F' ∧ Kept (fun k => C k ∨ F = some k) w w' ∧ (∀ k, F' = some k → F = some k ∨ (w.heap.size ≤ k ∧ wv.ownBlock ≠ some k ∧ sv.ownBlock ≠ some k)) := by
  obtain ⟨i0, hi, hz0, hz1, hz2⟩ := info_parts infoIntS
  obtain ⟨i1, hj, hy0, hy1, hy2⟩ := info_parts infoStrS
  have hsz := sigZ_run
  obtain ⟨n, hn⟩ : ∃ n, n = cnt s.size block := ⟨_, rfl⟩
  have hnl : n ≤ 524288 := by rw [hn]; exact Nat.le_trans (cnt_le (by omega)) hs
  have HN := Lib.hid hn
  rw [← hn]
  obtain ⟨q1, q2⟩ := hbk.lt _ _ _ hK
  obtain ⟨V, hV⟩ : ∃ V, V = (w.alloc (Obj.cells #[.int .i64 0, .int .i64 0, .slice none 0 0, .slice none 0 0] 52)).alloc (Obj.cells #[.int .i64 block, .int .i64 s.size, .slice none 0 0, .slice none 0 0] 52) := ⟨_, rfl⟩
  obtain ⟨p6, hp6⟩ : ∃ q, q = w.heap.size := ⟨_, rfl⟩
  obtain ⟨p8, hp8⟩ : ∃ q, q = w.heap.size + 1 := ⟨_, rfl⟩
  have hZ : Blk V p6 [.int .i64 0, .int .i64 0, .slice none 0 0, .slice none 0 0] 52 := by rw [hV, hp6]; exact (Blk.new w _ _).alloc _
  have hG : Blk V p8 [.int .i64 block, .int .i64 s.size, .slice none 0 0, .slice none 0 0] 52 := by
    have := Blk.new (w.alloc (Obj.cells #[.int .i64 0, .int .i64 0, .slice none 0 0, .slice none 0 0] 52)) [.int .i64 block, .int .i64 s.size, .slice none 0 0, .slice none 0 0] 52
    rw [World.size_alloc] at this
    rw [hV, hp8]; exact this
  have hkV : Kept (fun _ => False) w V := by rw [hV]; exact (kept_alloc _ _).trans (kept_alloc _ _) (by simp)
  have hVs : V.heap.size = p8 + 1 := by rw [hV, hp8]; simp
  have HPR := Lib.hid (And.intro hK (And.intro hZ (And.intro hG (And.intro hkV (And.intro hVs (And.intro q1 q2))))))
  have HV := Lib.hid hV
  have HP6 := Lib.hid hp6
  have HP8 := Lib.hid hp8
  clear hV hp6 hp8 hK hn hZ hG hkV hVs q1 q2
  go_enter Try.func41, Try.ntmps41
  go_wp2_with fail
  rw [← HP8.out, ← HP6.out, ← HV.out]
  refine (refBlocks_any V s block hs hb hb2).mono ?_
  rintro e wb ⟨lv, rfl, hL, hBl⟩
  rw [← HN.out] at hL
  have hKb := below_kept hBl
  have HR : Hid (SgK C K F w wb p6 p8 wb.heap.size block s.size (.slice none 0 0) (.slice none 0 0) lv [] [] (pieces s block n) s0 F) := by
    obtain ⟨hK, hZ, hG, hkV, hVs, q1, q2⟩ := HPR.out
    have hp6 := HP6.out
    have hp8 := HP8.out
    have hsb := hBl.size
    rw [hVs] at hL
    exact Lib.hid ⟨hG.keptB hKb (by simp), hZ.keptB hKb (by simp), World.ownsRow_nil _ _ _ _, World.ownsRow_nil _ _ _ _, hL, fun j hj => (World.ownsRow.lt hL j hj).2, (fun j hj => by simp [Value.ownBlock] at hj),
      hbk.kept _ _ _ _ _ (hbk.kept _ _ _ _ _ hK hkV (by simp) (by simp)) hKb (by simp) (by simp), (hkV.mono (by simp)).trans hKb (by simp), fun j hj => .inl hj, q1, q2, by omega, by omega, by omega⟩
  obtain ⟨B1, hB1⟩ : ∃ B, B = wb.heap.size := ⟨_, rfl⟩
  have hwb : B1 ≤ wb.heap.size := by omega
  rw [← hB1] at HR
  obtain ⟨al, kl, rfl⟩ := slice_of hL
  rw [pieces_len] at HR ⊢
  clear hL hBl hKb HPR hB1
  go_wp2_with fail
  go_loopw [10] (fun i wr => ∃ (k : Nat) (wv sv : Value) (F' : Option Nat), i = .int .i64 k ∧ k ≤ n ∧ B1 ≤ wr.heap.size ∧ SgK C K F w wr p6 p8 B1 block s.size wv sv (.slice al n kl) ((pieces s block k).map weakI) (bMarks stp out s0 (pieces s block k)).2 (pieces s block n) (bMarks stp out s0 (pieces s block k)).1 F') (fun i _ => n - (intOf i).toNat)
  case atStart => exact ⟨0, _, _, _, rfl, by omega, hwb, HR.out⟩
  case round =>
    clear HR hwb
    obtain ⟨k, wv, sv, F', rfl, hk, hBs, hR⟩ := hrel
    have hsl := bMarks_len stp out s0 (pieces s block k)
    have hsn2 := bMarks_grow hbk s0 (pieces s block k)
    rw [pieces_len] at hsl hsn2
    have hil : ((pieces s block k).map weakI).length = k := by rw [List.length_map, pieces_len]
    have hps := pieces_succ s block k
    have hms := bMarks_snoc stp out s0 (pieces s block k) (piece s block k)
    by_cases hlt : k < n
    · have hkb : k * block < s.size := (cnt_spec (by omega) k).1 (by rw [← HN.out]; exact hlt)
      have hIe : (pieces s block (k + 1)).map weakI = (pieces s block k).map weakI ++ [weakI (piece s block k)] := by rw [hps, List.map_append]; rfl
      rw [← hps] at hms
      have hpz : (piece s block k).size ≤ 524288 := by unfold piece; rw [ByteArray.size_extract]; omega
      have hget : (pieces s block n)[k]? = some (piece s block k) := by simp [pieces, hlt]
      obtain ⟨P, hP⟩ : ∃ P, P = piece s block k := ⟨_, rfl⟩
      rw [← hP] at hms hIe hpz hget
      obtain ⟨LI, hLI⟩ : ∃ L, L = (pieces s block k).map weakI := ⟨_, rfl⟩
      obtain ⟨MK, hMK⟩ : ∃ M, M = bMarks stp out s0 (pieces s block k) := ⟨_, rfl⟩
      obtain ⟨LL, hLL⟩ : ∃ L, L = pieces s block n := ⟨_, rfl⟩
      rw [← hLL] at hR hget
      rw [← hLI] at hR hil hIe
      rw [← hMK] at hR hms hsl hsn2
      obtain ⟨SN, LS⟩ := MK
      simp only at hR hsl hsn2
      have HIE := Lib.hid hIe
      have HMS := Lib.hid hms
      have HIL := Lib.hid hil
      have HSL := Lib.hid hsl
      have HLL := Lib.hid hLL
      obtain ⟨aw, kw, rfl⟩ := slice_of hR.i
      obtain ⟨av, kv, rfl⟩ := slice_of hR.s
      have hlen : LL.length = n := by rw [hLL, pieces_len]
      have HR := Lib.hid hR
      have hlr : ∃ bb off, al = some ⟨bb, off, none⟩ ∧ wr.cell? ⟨bb, off + k, none⟩ = some (.string P) := by
        rcases RowV.of_owns hR.l with ⟨h0, _⟩ | ⟨bb, off, cap, he, hc⟩
        · omega
        · simp only [Value.slice.injEq] at he
          refine ⟨bb, off, he.1, ?_⟩
          rw [hc k (by omega)]
          simp [List.getD, hget]
      obtain ⟨bb, off, hal, hcl⟩ := hlr
      have HAL := Lib.hid hal
      have c2 := hR.g.cell (i := 2) rfl
      have wI := weakI P
      obtain ⟨WV, hWV⟩ : ∃ W : Int, W = weakI P := ⟨_, rfl⟩
      have hwe : ((weak P.data.toList : Nat) : Int) = WV := hWV.symm
      have HWV := Lib.hid hWV
      have a0 : (wr.alloc (Obj.cells #[.int .i64 WV] 3)).cell? ⟨p8, 2, none⟩ = some (.slice aw LI.length kw) := (hR.g.alloc _).cell (i := 2) rfl
      have hIa : Hid (wr.ownsRow B1 3 1 (.slice aw LI.length kw) LI.length (LI.map (Value.int .i64))) := Lib.hid hR.i
      have hp8w := hR.g.lt
      have HGET := Lib.hid hget
      clear hIe hms hps hLI hMK hil hsl hR wI hWV hLL hget hlen hP
      rw [HAL.out]
      go_wp2_with fail
      go_region_law (first
        | (refine step_append_at rfl (.tmp 36) (.tmp 42) 50 rfl B1 3 i0 (.int .i64 0) 1 8 Try.underlying50 hi hz0 hz1 hz2 rfl (by decide) (.slice aw LI.length kw) LI.length (LI.map (Value.int .i64)) (by simp [Act.eval]) (World.ownsRow.alloc (w := wr.drew) hIa.out _) ⟨wr.heap.size, 0, none⟩ 1 1 [.int .i64 WV] (by simp [Act.eval]) rfl (sg_new wr.drew _ _) (by intro u hu; simp only [List.mem_singleton] at hu; subst hu; rfl) (by rw [HIL.out]; unfold maxLen; omega) (by rw [HIL.out]; omega) (by simp; omega) ?_; intro v' w5 hO5 hg5 hrb; obtain ⟨ao5, cap5, rfl⟩ := slice_of hO5; have hR5 := (HR.out.step hbk (kept_drew _)).step hbk (kept_alloc _ (.cells #[.int .i64 WV] 3)); have hG5 := hR5.g.grown hg5 (fun e => by have := (World.ownsRow.lt hIa.out p8 e.symm).1; have := HR.out.p8B; omega); have c5 := hG5.cell (i := 2) rfl; have f5 := hG5.frozen 2)
        | (go_simp; go_at_call 66; refine (refSum_any P _ hpz).mono ?_; rintro e w' ⟨rfl, rfl⟩; rw [hwe]))
      all_goals (
        have hR6 := hR5.weak hbk hO5 hg5 hrb (by simp; omega)
        have hB6 : B1 ≤ w5.heap.size := by have := hg5.size; simp at this; omega
        obtain ⟨w6, hw6⟩ : ∃ W, W = w5.setCell ⟨p8, 2, none⟩ (.slice ao5 (LI.length + 1) cap5) := ⟨_, rfl⟩
        have hB7 : B1 ≤ w6.heap.size := by rw [hw6]; simpa using hB6
        rw [← hw6] at hR6
        rw [← hw6]
        clear hw6 hG5 c5 f5 hO5 hg5 hrb a0 c2 hIa HR w5 hp8w hR5 hcl hB6
        rw [hal] at hR6
        have hlr2 : w6.cell? ⟨bb, off + k, none⟩ = some (.string P) := rowS_at hR6.l HGET.out
        obtain ⟨MB, hMB⟩ : ∃ M, M = out SN P := ⟨_, rfl⟩
        have HC := Lib.hid (hbk.mark w6.drew SN F' P (hR6.step hbk (kept_drew _)).k hpz (by omega))
        rw [← hMB] at HC
        have HMB := Lib.hid hMB
        have c3 := hR6.g.cell (i := 3) rfl
        have HR := Lib.hid hR6
        clear hMB hR6
        go_wp2_with fail
        go_region_law (first
          | (go_simp; go_at_call 42; refine HC.out.mono ?_; rintro e w7 ⟨F7, rfl, hK7, hg7, hF7⟩; have hR7 := (HR.out.step hbk (kept_drew _)).mark hK7 hg7 hF7 hB7; have hB8 : B1 ≤ w7.heap.size := Nat.le_trans hB7 hg7.size; have c7 := hR7.g.cell (i := 3) rfl; have a7 : (w7.alloc (Obj.cells #[.string MB] 9)).cell? ⟨p8, 3, none⟩ = some (.slice av LS.length kv) := (hR7.g.alloc _).cell (i := 3) rfl; have hp8w := hR7.g.lt; have HR7 := Lib.hid hR7; have HSa := Lib.hid hR7.s; clear hK7 hg7 hR7)
          | (refine step_append_at rfl (.tmp 46) (.tmp 53) 36 rfl B1 9 i1 (.string ByteArray.empty) 1 16 Try.underlying36 hj hy0 hy1 hy2 rfl (by decide) (.slice av LS.length kv) LS.length (LS.map Value.string) (by simp [Act.eval]) (World.ownsRow.alloc HSa.out _) ⟨_, 0, none⟩ 1 1 [.string MB] (by simp [Act.eval]) rfl (sg_new _ _ _) (by intro u hu; simp only [List.mem_singleton] at hu; subst hu; rfl) (by rw [HSL.out]; unfold maxLen; omega) (by rw [HSL.out]; omega) (by simp; omega) ?_; intro v' w8 hO8 hg8 hrb; obtain ⟨ao8, cap8, rfl⟩ := slice_of hO8; have hR8 := HR7.out.step hbk (kept_alloc _ (.cells #[.string MB] 9)); have hG8 := hR8.g.grown hg8 (fun e => by have := (World.ownsRow.lt HSa.out p8 e.symm).1; have := HR7.out.p8B; omega); have c8 := hG8.cell (i := 3) rfl; have f8 := hG8.frozen 3))
        all_goals (
          have hR9 := hR8.strong hbk hO8 hg8 hrb (by simp; omega)
          have hB9 : B1 ≤ w8.heap.size := by have := hg8.size; simp at this; omega
          obtain ⟨w9, hw9⟩ : ∃ W, W = w8.setCell ⟨p8, 3, none⟩ (.slice ao8 (LS.length + 1) cap8) := ⟨_, rfl⟩
          have hB10 : B1 ≤ w9.heap.size := by rw [hw9]; simpa using hB9
          rw [← hw9] at hR9
          rw [← hw9]
          have HR9 := Lib.hid hR9
          clear hw9 hR9 hG8 c8 f8 hO8 hg8 hrb c7 a7 HR7 HSa c3 HC HR hp8w hR8 hlr2 hB9 w8
          go_wp2
          go_round
          case rel =>
            refine ⟨k + 1, .slice ao5 (LI.length + 1) cap5, .slice ao8 (LS.length + 1) cap8, F7, rfl, by omega, hB10, ?_⟩
            rw [HIE.out, HMS.out, ← HWV.out]
            simp only [bMark]
            rw [← HMB.out, ← HLL.out]
            exact HR9.out
          case measure => simp [intOf]; omega))
    · have hkn : k = n := by omega
      subst hkn
      obtain ⟨LI, hLI⟩ : ∃ L, L = (pieces s block k).map weakI := ⟨_, rfl⟩
      obtain ⟨MK, hMK⟩ : ∃ M, M = bMarks stp out s0 (pieces s block k) := ⟨_, rfl⟩
      rw [← hLI] at hR
      rw [← hMK] at hR
      have HLI := Lib.hid hLI
      have HMK := Lib.hid hMK
      obtain ⟨SN, LS⟩ := MK
      simp only at hR
      have HR := Lib.hid hR
      obtain ⟨aw, kw, rfl⟩ := slice_of hR.i
      obtain ⟨av, kv, rfl⟩ := slice_of hR.s
      have g0 := hR.g.cell (i := 0) rfl
      have g1 := hR.g.cell (i := 1) rfl
      have g2 := hR.g.cell (i := 2) rfl
      have g3 := hR.g.cell (i := 3) rfl
      have z0 := hR.z.cell (i := 0) rfl
      have z1 := hR.z.cell (i := 1) rfl
      have z2 := hR.z.cell (i := 2) rfl
      have z3 := hR.z.cell (i := 3) rfl
      have f0 := hR.z.frozen 0
      have f1 := hR.z.frozen 1
      have f2 := hR.z.frozen 2
      have f3 := hR.z.frozen 3
      clear hR hps hms hsl hsn2 hil hLI hMK
      go_wp2
      refine bodyPost_ret (res_cell_row rfl _ _ p6 52 _ (0, 0) _ rfl ((((HR.out.z.set 0 _).set 1 _).set 2 _).set 3 _) Try.underlying52 rfl (by kernel_rfl)) rfl ?_
      have hkz : Kept (fun q => q = p6) wr ((((wr.setCell ⟨p6, 0, none⟩ (.int .i64 block)).setCell ⟨p6, 1, none⟩ (.int .i64 s.size)).setCell ⟨p6, 2, none⟩ (.slice aw LI.length kw)).setCell ⟨p6, 3, none⟩ (.slice av LS.length kv)) :=
        ((((Kept.refl (fun q => q = p6) wr).set (p := p6) rfl 0 _).set (p := p6) rfl 1 _).set (p := p6) rfl 2 _).set (p := p6) rfl 3 _
      obtain ⟨d1, d2, d3, d4, d5⟩ := HR.out.done hbk hkz
      rw [← HLI.out, ← HMK.out]
      exact ⟨_, _, F', rfl, d1, d2, d3, d4, d5⟩
set_option maxHeartbeats 1000000 in
theorem refSign_bad (w : World) (v : Value) (s : ByteArray) (block : Int) (wb : (Lit.int .i64 block).wf = true) (hb : ¬ (16 ≤ block ∧ block ≤ 1024)) :
    Calls Try.prog 41 #[v, .string s, .int .i64 block] w fun e w' => e = .returned (.tuple #[.agg #[.int .i64 0, .int .i64 0, .slice none 0 0, .slice none 0 0], .int .i64 1]) ∧ Below w.heap.size w w' := by
  have hsz := sigZ_run
  obtain ⟨V, hV⟩ : ∃ V, V = w.alloc (Obj.cells #[.int .i64 0, .int .i64 0, .slice none 0 0, .slice none 0 0] 52) := ⟨_, rfl⟩
  obtain ⟨p6, hp6⟩ : ∃ q, q = w.heap.size := ⟨_, rfl⟩
  have hZ : Blk V p6 [.int .i64 0, .int .i64 0, .slice none 0 0, .slice none 0 0] 52 := by rw [hV, hp6]; exact Blk.new w _ _
  have hkz : Below w.heap.size w ((((V.setCell ⟨p6, 0, none⟩ (.int .i64 0)).setCell ⟨p6, 1, none⟩ (.int .i64 0)).setCell ⟨p6, 2, none⟩ (.slice none 0 0)).setCell ⟨p6, 3, none⟩ (.slice none 0 0)) := by
    rw [hV, hp6]
    exact (((((bel_alloc w _).setCell (Nat.le_refl _) _).setCell (Nat.le_refl _) _).setCell (Nat.le_refl _) _).setCell (Nat.le_refl _) _)
  have HV := Lib.hid hV
  have HP6 := Lib.hid hp6
  have z0 := hZ.cell (i := 0) rfl
  have z1 := hZ.cell (i := 1) rfl
  have z2 := hZ.cell (i := 2) rfl
  have z3 := hZ.cell (i := 3) rfl
  have f0 := hZ.frozen 0
  have f1 := hZ.frozen 1
  have f2 := hZ.frozen 2
  have f3 := hZ.frozen 3
  have HZ := Lib.hid hZ
  have HB := Lib.hid hkz
  clear hZ hkz hV hp6
  by_cases h1 : block < 16
  · clear hb
    go_enter Try.func41, Try.ntmps41
    go_upto_region 1 with fail
    rw [← HP6.out, ← HV.out]
    go_wp2
    refine bodyPost_ret (res_cell_row rfl _ _ p6 52 _ (0, 0) _ rfl ((((HZ.out.set 0 _).set 1 _).set 2 _).set 3 _) Try.underlying52 rfl (by kernel_rfl)) rfl ?_
    exact ⟨rfl, HB.out⟩
  · have h2 : 1024 < block := by omega
    clear hb
    go_enter Try.func41, Try.ntmps41
    go_upto_region 1 with fail
    rw [← HP6.out, ← HV.out]
    go_wp2
    refine bodyPost_ret (res_cell_row rfl _ _ p6 52 _ (0, 0) _ rfl ((((HZ.out.set 0 _).set 1 _).set 2 _).set 3 _) Try.underlying52 rfl (by kernel_rfl)) rfl ?_
    exact ⟨rfl, HB.out⟩
end Go.Proofs.Ytgemhgllifhckaa.Sg
