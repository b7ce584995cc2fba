/- DeltaMakes: the walk; the document's Of under its own ideal book. Conditions: as named in each theorem. -/
import Derived.Test.YtgemhgllifhckaaDlRMake
import Derived.Test.YtgemhgllifhckaaDlMade
import Derived.Test.YtgemhgllifhckaaSgRef
namespace Go.Proofs.Ytgemhgllifhckaa
open Go.RowKit Sg
set_option linter.unusedVariables false
set_option linter.unusedSimpArgs false


theorem mfR_eq {basis : ByteArray} {B : Nat} {t : ByteArray} {wn : Int} {em : ByteArray → Int → Bool} (hB : 0 < B) (hs : basis.size ≤ 524288) (hem : ∀ i : Nat, i < cnt basis.size B → em t (i : Int) = decide (bytesOf (piece basis B i) = bytesOf t)) :
    mfR B basis.size ((pieces basis B (cnt basis.size B)).map weakI) em t wn = mfI basis B t wn := by
  obtain ⟨Q, hQ⟩ : ∃ Q, Q = marksOf [] (pieces basis B (cnt basis.size B)) := ⟨_, rfl⟩
  obtain ⟨SN, T⟩ := Q
  have hn2 : cnt basis.size B ≤ 1000000 := Nat.le_trans (cnt_le hB) (by omega)
  have hl : SN.length ≤ 100000000 := by
    have := (marks_ext [] (pieces basis B (cnt basis.size B))).2
    rw [← hQ, pieces_len] at this
    simp only [List.length_nil] at this
    omega
  rw [← match_gen (wn := wn) (t := t) hB rfl hn2 hQ (Ext.refl SN) hl]
  unfold mfR
  by_cases h : t.size = B
  · rw [if_pos h, if_pos h, matchF_go findL_nn]
    refine matchF_congr fun x hx => ?_
    obtain ⟨v, hv, rfl, _⟩ := findL_mem.1 hx
    have hvn : v < cnt basis.size B := Nat.lt_of_lt_of_le hv (div_le_cnt basis B hB)
    rw [hem v hvn, Bool.eq_iff_iff, eqM_gen hQ (Ext.refl SN) hl hvn, decide_eq_true_iff]
  · rw [if_neg h, if_neg h]
theorem tailF_eq {basis : ByteArray} {B : Nat} {t : ByteArray} {em : ByteArray → Int → Bool} (hB : 0 < B) (hs : basis.size ≤ 524288) (hem : ∀ i : Nat, i < cnt basis.size B → em t (i : Int) = decide (bytesOf (piece basis B i) = bytesOf t)) :
    tailF B basis.size ((pieces basis B (cnt basis.size B)).map weakI) em t = tfI basis B t := by
  obtain ⟨Q, hQ⟩ : ∃ Q, Q = marksOf [] (pieces basis B (cnt basis.size B)) := ⟨_, rfl⟩
  obtain ⟨SN, T⟩ := Q
  have hn2 : cnt basis.size B ≤ 1000000 := Nat.le_trans (cnt_le hB) (by omega)
  have hl : SN.length ≤ 100000000 := by
    have := (marks_ext [] (pieces basis B (cnt basis.size B))).2
    rw [← hQ, pieces_len] at this
    simp only [List.length_nil] at this
    omega
  rw [← tail_gen (t := t) hB rfl hn2 hQ (Ext.refl SN) hl]
  unfold tailF tailB
  rw [List.length_map, pieces_len]
  by_cases hr : 0 < basis.size % B
  · have hk : cnt basis.size B - 1 < cnt basis.size B := by have := (piece_last basis B hB hr).2.1; omega
    have a := eqM_gen (t := t) hQ (Ext.refl SN) hl hk
    unfold eqM at a
    simp only [Int.toNat_natCast, decide_eq_true_eq] at a
    rw [decide_eq_decide, hem _ hk, decide_eq_true_iff, a]
  · rw [decide_eq_false (fun h => hr h.1), decide_eq_false (fun h => hr h.1)]
theorem mkRun_congr {mf mf' : ByteArray → Int → Int} {s : ByteArray} {b : Nat} (hb : 0 < b) (h : ∀ a wn, a + b ≤ s.size → mf (s.extract a (a + b)) wn = mf' (s.extract a (a + b)) wn) : ∀ (k : Nat) (x : Ms), s.size - x.at_ ≤ k → mkRun mf s b x = mkRun mf' s b x := by
  have hst : ∀ x : Ms, x.at_ + b ≤ s.size → mkStep mf s b x = mkStep mf' s b x := fun x hx => by
    unfold mkStep; rw [h x.at_ x.wn hx]
  intro k
  induction k with
  | zero =>
    intro x h1
    rw [mkRun_end (by omega), mkRun_end (by omega)]
  | succ k ih =>
    intro x h1
    by_cases h2 : x.at_ + b ≤ s.size
    · rw [mkRun_go hb h2, mkRun_go hb h2, hst x h2]
      exact ih _ (by have := mkStep_at mf' s b x hb; omega)
    · rw [mkRun_end h2, mkRun_end h2]
theorem mkRun_le (mf : ByteArray → Int → Int) (s : ByteArray) (b : Nat) (hb : 0 < b) : ∀ (k : Nat) (x : Ms), s.size - x.at_ ≤ k → x.at_ ≤ s.size → (mkRun mf s b x).at_ ≤ s.size := by
  intro k
  induction k with
  | zero =>
    intro x h1 h2
    rw [mkRun_end (by omega)]; exact h2
  | succ k ih =>
    intro x h1 h2
    by_cases h : x.at_ + b ≤ s.size
    · rw [mkRun_go hb h]
      have hst := mkStep_at mf s b x hb
      refine ih _ (by omega) ?_
      unfold mkStep; split <;> (simp only; omega)
    · rw [mkRun_end h]; exact h2
theorem stepsM_congr {mf mf' : ByteArray → Int → Int} {tf tf' : ByteArray → Bool} {s : ByteArray} {z b : Nat} (hb : 0 < b) (h : ∀ a wn, a + b ≤ s.size → mf (s.extract a (a + b)) wn = mf' (s.extract a (a + b)) wn) (ht : z % b ≤ s.size → tf (s.extract (s.size - z % b) s.size) = tf' (s.extract (s.size - z % b) s.size)) :
    stepsM mf tf s z b = stepsM mf' tf' s z b := by
  have h1 := mkRun_congr hb h s.size ms0 (Nat.sub_le _ _)
  have h2 := mkRun_le mf' s b hb s.size ms0 (Nat.sub_le _ _) (Nat.zero_le _)
  unfold stepsM
  rw [h1]
  obtain ⟨x, hx⟩ : ∃ x, x = mkRun mf' s b ms0 := ⟨_, rfl⟩
  rw [← hx] at h2 ⊢
  have hes : (s.extract x.at_ s.size).size = s.size - x.at_ := by rw [ByteArray.size_extract]; omega
  unfold endL
  by_cases hf : z % b ≤ (s.extract x.at_ s.size).size
  · have hcc : (s.extract x.at_ s.size).extract ((s.extract x.at_ s.size).size - z % b) (s.extract x.at_ s.size).size = s.extract (s.size - z % b) s.size := by
      rw [hes, cut_cut _ _ _ _ (by omega)]
      congr 1 <;> omega
    rw [hcc, ht (by omega)]
  · rw [if_neg (fun h => hf h.1), if_neg (fun h => hf h.1)]


def emI (basis : ByteArray) (B : Nat) (t : ByteArray) (i : Int) : Bool := decide (bytesOf (piece basis B i.toNat) = bytesOf t)
theorem mfR_I (basis : ByteArray) (B : Nat) (hB : 0 < B) (hs : basis.size ≤ 524288) : mfR B basis.size ((pieces basis B (cnt basis.size B)).map weakI) (emI basis B) = mfI basis B := by
  funext t wn
  exact mfR_eq hB hs (fun i _ => by unfold emI; rw [Int.toNat_natCast])
theorem tailF_I (basis : ByteArray) (B : Nat) (hB : 0 < B) (hs : basis.size ≤ 524288) : tailF B basis.size ((pieces basis B (cnt basis.size B)).map weakI) (emI basis B) = tfI basis B := by
  funext t
  exact tailF_eq hB hs (fun i _ => by unfold emI; rw [Int.toNat_natCast])
/-- the document's ideal book behind a signature -/
def IKS (q : Nat) (SN : Bk) (c : Nat) (F : Nat → Prop) (w : World) : Prop := ∃ S Fo, Ext SN S ∧ S.length ≤ SN.length + c ∧ RefK q w S Fo ∧ ∀ k, F k ↔ (k = q ∨ Fo = some k)
theorem rbk_ideal {q B n : Nat} {basis : ByteArray} {SN : Bk} {T : List ByteArray} (hT : (SN, T) = marksOf [] (pieces basis B n)) (hl : SN.length ≤ 1000000) : RBk q T (IKS q SN) (emI basis B) where
  lt := by
    rintro c F W ⟨S, Fo, h1, h2, h3, h4⟩ k hk
    obtain ⟨a, b⟩ := (ref_bookish q).lt _ _ _ h3
    rcases (h4 k).1 hk with h | h
    · exact a k h
    · exact b k h
  kept := by
    rintro c F G W W' ⟨S, Fo, h1, h2, h3, h4⟩ hk hd
    exact ⟨S, Fo, h1, h2, (ref_bookish q).kept _ _ _ _ _ h3 hk (fun k h => hd k ((h4 k).2 (.inl h))) (fun k h => hd k ((h4 k).2 (.inr h))), h4⟩
  mark := by
    rintro c F W t ⟨S, Fo, h1, h2, h3, h4⟩ hc ht
    refine ((ref_bookish q).mark W S Fo t h3 ht (by show S.length ≤ 1000000000; omega)).mono ?_
    rintro e w' ⟨F', rfl, h5, h6, h7⟩
    refine ⟨_, (fun k => k = q ∨ F' = some k), rfl, fun i hi => ?_, ⟨addS S (bytesOf t), F', h1.add _, by have := addS_len S (bytesOf t); omega, h5, fun k => Iff.rfl⟩, h6.mono (fun k _ h => (h4 k).2 h), fun k h => ?_⟩
    · have hTl : T.length = n := by rw [show T = (marksOf [] (pieces basis B n)).2 by rw [← hT], marksOf_len, pieces_len]
      unfold emI
      rw [Int.toNat_natCast, Bool.eq_iff_iff, eqM_gen hT h1 (by omega) (by omega), decide_eq_true_iff]
    · rcases h with h | h
      · exact .inl ((h4 k).2 (.inl h))
      · exact (h7 k h).imp (fun h8 => (h4 k).2 (.inr h8)) id
def ROfP (w : World) (q : Nat) (basis s : ByteArray) (B : Nat) (e : Ending) (w' : World) : Prop :=
  ∃ x y sv, e = .returned (.tuple #[.agg #[.string x, .string y, .int .i64 s.size, sv], .int .i64 0]) ∧ Own w' w.heap.size sv (stepsI basis s B) ∧ Kept (fun k => k = q) w w'
def dz0 : List Value := [.string ByteArray.empty, .string ByteArray.empty, .int .i64 0, .slice none 0 0]
/-- between two marks of the document's Of -/
structure RO (q pz B : Nat) (w W : World) (S : Bk) (Fo : Option Nat) (sv : Value) (L : List St) : Prop where
  r : RefK q W S Fo
  o : Own W B sv L
  d : ∀ k, sv.ownBlock = some k → k ≠ q ∧ Fo ≠ some k
  z : Blk W pz dz0 25
  n : pz ≠ q ∧ Fo ≠ some pz
  k : Kept (fun k => k = q) w W
  f : ∀ k, Fo = some k → k = q ∨ w.heap.size ≤ k
theorem RO.mark {q pz B : Nat} {w W : World} {S : Bk} {Fo : Option Nat} {sv : Value} {L : List St} (h : RO q pz B w W S Fo sv L) (x : ByteArray) (hS : S.length ≤ 1000000000) (hx : x.size ≤ 524288) :
    Calls Try.prog 42 #[.pointer (some ⟨q, 0, none⟩), .string x] W fun e w' => ∃ F', e = .returned (.string (numS (S.idxOf (bytesOf x) + 1))) ∧ RO q pz B w w' (addS S (bytesOf x)) F' sv L := by
  refine ((ref_bookish q).mark W S Fo x h.r hx hS).mono ?_
  rintro e w' ⟨F', rfl, h5, h6, h7⟩
  refine ⟨F', rfl, h5, owns_block h.o (fun k hk => h6.block k (owns_lt h.o hk) (fun e => e.elim (h.d k hk).1 (h.d k hk).2)), fun k hk => ⟨(h.d k hk).1, fun e => (h7 k e).elim (h.d k hk).2 (fun e2 => by have := owns_lt h.o hk; omega)⟩, h.z.keptB h6 (fun e => e.elim h.n.1 h.n.2), ⟨h.n.1, fun e => (h7 pz e).elim h.n.2 (fun e2 => by have := h.z.lt; omega)⟩, h.k.trans h6 (fun i hi e => e.elim id (fun e => (h.f i e).elim id (fun e2 => by omega))), fun k hk => (h7 k hk).elim (h.f k) (fun e2 => .inr (Nat.le_trans h.k.size e2))⟩
theorem RO.drew {q pz B : Nat} {w W : World} {S : Bk} {Fo : Option Nat} {sv : Value} {L : List St} (h : RO q pz B w W S Fo sv L) : RO q pz B w W.drew S Fo sv L := by
  have hk : Kept (fun _ => False) W W.drew := ⟨rfl, rfl, rfl, Nat.le_refl _, fun _ _ _ => rfl⟩
  exact ⟨(ref_bookish q).kept _ _ _ _ _ h.r hk (fun _ _ h => h) (fun _ _ h => h), h.o, h.d, h.z.keptB hk (fun h => h), h.n, h.k.trans hk (fun _ _ h => h.elim), h.f⟩

set_option maxRecDepth 100000 in
set_option maxHeartbeats 2000000 in
theorem rof_ideal (w : World) (q : Nat) (basis s : ByteArray) (B : Nat) (hI : RefK q w [] none) (hb1 : 16 ≤ B) (hb2 : B ≤ 1024) (hbs : basis.size ≤ 1500) (hs : s.size ≤ 1500) :
    Calls Try.prog 19 #[.pointer (some ⟨q, 0, none⟩), .string basis, .string s, .int .i64 B] w (ROfP w q basis s B) := by
  have hdz := dlZ_run
  obtain ⟨V1, hV1⟩ : ∃ V, V = w.alloc (Obj.cells #[.string ByteArray.empty, .string ByteArray.empty, .int .i64 0, .slice none 0 0] 25) := ⟨_, rfl⟩
  obtain ⟨pz, hpz⟩ : ∃ q, q = w.heap.size := ⟨_, rfl⟩
  have hbV : Below w.heap.size w V1 := by rw [hV1]; exact below_alloc _ _
  have hZ1 : Blk V1 pz [.string ByteArray.empty, .string ByteArray.empty, .int .i64 0, .slice none 0 0] 25 := by rw [hV1, hpz]; exact Blk.new _ _ _
  have hqw : q < w.heap.size := ((ref_bookish q).lt _ _ _ hI).1 q rfl
  have hIV : RefK q V1 [] none := (ref_bookish q).kept w V1 [] none (fun _ => False) hI (Kept.of_below _ hbV) (fun _ _ h => h) (fun _ h _ => by cases h)
  obtain ⟨n, hn⟩ : ∃ n, n = cnt basis.size B := ⟨_, rfl⟩
  have hn3 : n ≤ 1000 := by
    rw [hn]; unfold cnt
    exact Nat.le_trans (Nat.div_le_div_left hb1 (by decide)) (Nat.div_le_of_le_mul (by omega))
  have HSG := Lib.hid (refSign_any (ref_bookish q) V1 [] none basis B hIV (by omega) hb1 hb2 (by simp))
  obtain ⟨LI, hLI⟩ : ∃ L, L = (pieces basis B n).map weakI := ⟨_, rfl⟩
  obtain ⟨MK, hMK⟩ : ∃ M, M = marksOf [] (pieces basis B n) := ⟨_, rfl⟩
  obtain ⟨SN, LS⟩ := MK
  have hsl1 : LS.length = n := by rw [show LS = (marksOf [] (pieces basis B n)).2 by rw [← hMK], marksOf_len, pieces_len]
  have hsl2 : LI.length = n := by rw [hLI, List.length_map, pieces_len]
  have h32 : ∀ t ∈ LS, t.size = 32 := by rw [show LS = (marksOf [] (pieces basis B n)).2 by rw [← hMK]]; exact marks_size _ _
  have hSNl : SN.length ≤ 1000 := by
    have := (marks_ext [] (pieces basis B n)).2
    rw [← hMK, pieces_len] at this
    simp only [List.length_nil] at this
    omega
  have hOK : sigOk B basis.size LI LS := by rw [hLI, hn]; exact sign_ok basis B LS hb1 hb2 (by omega) (by rw [hsl1, hn]) h32
  have hst : stepsI basis s B = stepsM (mfR B basis.size LI (emI basis B)) (tailF B basis.size LI (emI basis B)) s basis.size B := by
    unfold stepsI; rw [hLI, hn, mfR_I basis B (by omega) (by omega), tailF_I basis B (by omega) (by omega)]
  rw [bMarks_addS, ← hn, ← hLI, ← hMK] at HSG
  simp only at HSG
  have HST := Lib.hid hst
  have HL := Lib.hid (And.intro hsl1 (And.intro hsl2 (And.intro h32 hOK)))
  have HM := Lib.hid (And.intro hMK hSNl)
  have HZ1 := Lib.hid hZ1
  have HBV := Lib.hid hbV
  have HV1 := Lib.hid hV1
  have HPZ := Lib.hid hpz
  have HQW := Lib.hid hqw
  have HN := Lib.hid (And.intro hn hLI)
  clear hbV hZ1 hV1 hpz hIV hLI hMK hn hst hsl1 hsl2 h32 hOK hI hSNl hqw
  go_enter Try.func19, Try.ntmps19
  go_upto_region 1 with fail
  rw [← HPZ.out, ← HV1.out]
  go_wp2_with fail
  refine HSG.out.mono ?_
  rintro e w2 ⟨wv, sv, F2, rfl, hW2, hS2, hK2, hk2, hF2⟩
  obtain ⟨aw, kw, rfl⟩ := slice_of hW2
  obtain ⟨av, kv, rfl⟩ := slice_of hS2
  rw [HL.out.2.1] at hW2 ⊢
  rw [HL.out.1] at hS2 ⊢
  have hk2' : Kept (fun k => k = q) V1 w2 := hk2.mono (fun k _ h => by simpa using h)
  have hpq : ¬ pz = q := by have := HPZ.out; have := HQW.out; omega
  have hZ2 := HZ1.out.keptB hk2' hpq
  obtain ⟨V3, hV3⟩ : ∃ V, V = w2.alloc (Obj.cells #[.int .i64 B, .int .i64 basis.size, .slice aw n kw, .slice av n kv] 52) := ⟨_, rfl⟩
  obtain ⟨p8, hp8⟩ : ∃ q, q = w2.heap.size := ⟨_, rfl⟩
  have hb3 : Below w2.heap.size w2 V3 := by rw [hV3]; exact below_alloc _ _
  have hG3 : Blk V3 p8 [.int .i64 B, .int .i64 basis.size, .slice aw n kw, .slice av n kv] 52 := by rw [hV3, hp8]; exact Blk.new w2 _ _
  have hW3 := (RowI.rs hW2 HL.out.2.1).next hb3
  have hS3 := (RowS.rs hS2 HL.out.1).next hb3
  have hZ3 := hZ2.below hb3 hZ2.lt
  have hk3 : Kept (fun k => k = q) w V3 := ((Kept.of_below (fun k => k = q) HBV.out).trans hk2' (fun _ _ h => h)).trans (Kept.of_below (fun k => k = q) hb3) (fun _ _ h => h)
  have hL4 : ∀ (v : Value) (L : List ByteArray), True := fun _ _ => trivial
  have hF2w : ∀ k, F2 = some k → V1.heap.size ≤ k ∧ k < w2.heap.size := fun k h => ⟨by
    rcases hF2 k h with h0 | h0
    · cases h0
    · exact h0.1, ((ref_bookish q).lt _ _ _ hK2).2 k h⟩
  have hV1w : w.heap.size < V1.heap.size := by have := HZ1.out.lt; have := HPZ.out; omega
  have hI3 : RefK q V3 SN F2 := (ref_bookish q).kept w2 V3 SN F2 (fun _ => False) hK2 (Kept.of_below _ hb3) (fun _ _ h => h) (fun _ _ h => h)
  obtain ⟨F, hF⟩ : ∃ F : Nat → Prop, F = fun k => k = q ∨ F2 = some k := ⟨_, rfl⟩
  have hKS : IKS q SN 0 F V3 := ⟨SN, F2, .refl _, by omega, hI3, fun k => by rw [hF]⟩
  have hTF : 0 < n → ∀ k off, av = some ⟨k, off, none⟩ → ¬ F k := by
    intro _ k off e h
    rw [hF] at h
    rcases h with h | h
    · have := (World.ownsRow.lt hS2 k (by rw [e]; rfl)).1; have := HQW.out; omega
    · rcases hF2 k h with h0 | h0
      · cases h0
      · exact h0.2.2 (by rw [e]; rfl)
  have hWF : 0 < n → ∀ k off, aw = some ⟨k, off, none⟩ → ¬ F k := by
    intro _ k off e h
    rw [hF] at h
    rcases h with h | h
    · have := (World.ownsRow.lt hW2 k (by rw [e]; rfl)).1; have := HQW.out; omega
    · rcases hF2 k h with h0 | h0
      · cases h0
      · exact h0.2.1 (by rw [e]; rfl)
  have HRB := Lib.hid (rbk_ideal (q := q) (B := B) (basis := basis) HM.out.1 (by have := HM.out.2; omega))
  have HMA := Lib.hid (rmake_any V3 q B basis.size aw n kw av kv LI LS s (IKS q SN) (emI basis B) F HRB.out hKS hW3 hS3 (sigOk_wfW HL.out.2.2.2) (fun x hx => by have := HL.out.2.2.1 x hx; unfold maxLen; omega) hTF hWF hn3 HL.out.2.2.2 hs)
  rw [← HST.out] at HMA
  obtain ⟨L, hL⟩ : ∃ L, L = stepsI basis s B := ⟨_, rfl⟩
  rw [← hL] at HMA
  have HLL := Lib.hid hL
  have HFQ : Hid (∀ k, F k → k = q ∨ (w.heap.size ≤ k ∧ k ≠ pz)) := Lib.hid (fun k h => by
    rw [hF] at h
    rcases h with h | h
    · exact .inl h
    · have := (hF2w k h).1; have := HPZ.out; exact .inr ⟨by omega, by omega⟩)
  have c0 := hG3.cell (i := 0) rfl
  have c1 := hG3.cell (i := 1) rfl
  have c2 := hG3.cell (i := 2) rfl
  have c3 := hG3.cell (i := 3) rfl
  have HZ3 := Lib.hid hZ3
  have HK3 := Lib.hid hk3
  have HV3 := Lib.hid hV3
  have HP8 := Lib.hid hp8
  have hw3 : w.heap.size < V3.heap.size := by have := hZ3.lt; have := HPZ.out; omega
  have HW3 := Lib.hid hw3
  clear hV3 hp8 hb3 hG3 hW3 hS3 hI3 hZ3 hk3 hw3 hW2 hS2 hK2 hk2 hk2' hF2 hF2w hpq hZ2 hV1w hF hKS hTF hWF hL4 HSG HZ1 HBV HV1 hL
  go_upto_region 4 with fail
  rw [← HP8.out, ← HV3.out]
  go_wp2_with fail
  refine HMA.out.mono ?_
  rintro e w4 ⟨s4, c4, F4, rfl, hO4, ⟨S4, Fo4, hx4, hl4, hR4, hf4⟩, hk4, hF4, hc4, hd4⟩
  obtain ⟨a4, k4, hs4'⟩ := owns_slice hO4
  obtain ⟨n4, hn4⟩ : ∃ n, n = L.length := ⟨_, rfl⟩
  obtain rfl : s4 = .slice a4 n4 k4 := by rw [hn4]; exact hs4'
  clear hs4' hn4
  have hM := HM.out.2
  have hpw := HPZ.out
  have hRO : RO q pz V3.heap.size w w4 S4 Fo4 (.slice a4 n4 k4) L := by
    have hq := HQW.out
    have hv := HW3.out
    have hff : ∀ k, F4 k → k = q ∨ (w.heap.size ≤ k ∧ k ≠ pz) := fun k h => (hF4 k h).elim (HFQ.out k) (fun e => .inr ⟨by omega, by omega⟩)
    refine ⟨hR4, hO4, fun k hk => ⟨fun e => hd4 k hk ((hf4 k).2 (.inl e)), fun e => hd4 k hk ((hf4 k).2 (.inr e))⟩, HZ3.out.keptB hk4 (fun e => ?_), ⟨by omega, fun e => ?_⟩, HK3.out.trans hk4 (fun i hi e => (HFQ.out i e).elim id (fun e => by omega)), fun k hk => (hff k ((hf4 k).2 (.inr hk))).imp id (fun e => e.1)⟩
    · rcases HFQ.out pz e with e | e
      · omega
      · exact e.2 rfl
    · rcases hff pz ((hf4 pz).2 (.inr e)) with e | e
      · omega
      · exact e.2 rfl
  have HM1 := Lib.hid (hRO.mark basis (by omega) (by omega))
  obtain ⟨m1, hm1⟩ : ∃ m, m = numS (S4.idxOf (bytesOf basis) + 1) := ⟨_, rfl⟩
  rw [← hm1] at HM1
  have hS5 : (addS S4 (bytesOf basis)).length ≤ 1000000000 := by have := addS_len S4 (bytesOf basis); omega
  have HS5 := Lib.hid hS5
  clear hRO hm1 hS5 hO4 hx4 hl4 hR4 hf4 hk4 hF4 hc4 hd4 HMA c0 c1 c2 c3 HV3 HP8 hM hpw
  go_wp2_with fail
  refine HM1.out.mono ?_
  rintro e w5 ⟨F5, rfl, hR5⟩
  have HM2 := Lib.hid (hR5.mark s HS5.out (by omega))
  obtain ⟨m2, hm2⟩ : ∃ m, m = numS ((addS S4 (bytesOf basis)).idxOf (bytesOf s) + 1) := ⟨_, rfl⟩
  rw [← hm2] at HM2
  clear hR5 HM1 hm2
  go_wp2_with fail
  refine HM2.out.mono ?_
  rintro e w6 ⟨F6, rfl, hR6⟩
  have hZ6 := hR6.z
  unfold dz0 at hZ6
  have z0 := hZ6.cell (i := 0) rfl
  have z1 := hZ6.cell (i := 1) rfl
  have z2 := hZ6.cell (i := 2) rfl
  have z3 := hZ6.cell (i := 3) rfl
  have f0 := hZ6.frozen 0
  have f1 := hZ6.frozen 1
  have f2 := hZ6.frozen 2
  have f3 := hZ6.frozen 3
  have HZ6 := Lib.hid hZ6
  have HO6 := Lib.hid hR6.o
  have HK6 := Lib.hid hR6.k
  have hpv : pz < V3.heap.size := HZ3.out.lt
  have HPV := Lib.hid hpv
  clear hZ6 hR6 HM2 hpv
  go_wp2
  have hpz := HPZ.out
  have hpv := HPV.out
  refine bodyPost_ret (results_cell_tmp_row rfl _ _ pz 25 _ (0, 0) _ rfl ((((HZ6.out.set 0 _).set 1 _).set 2 _).set 3 _) Try.underlying25 rfl (by kernel_rfl)) rfl ?_
  refine ⟨m1, m2, .slice a4 n4 k4, rfl, ?_, ?_⟩
  · rw [← HLL.out]
    exact owns_mono ((((HO6.out.setFar hpv 0 _).setFar hpv 1 _).setFar hpv 2 _).setFar hpv 3 _) (Nat.le_of_lt HW3.out)
  · exact (((HK6.out.trans (setKept _ pz 0 _) (fun i hi e => by omega)).trans (setKept _ pz 1 _) (fun i hi e => by omega)).trans (setKept _ pz 2 _) (fun i hi e => by omega)).trans (setKept _ pz 3 _) (fun i hi e => by omega)


set_option maxRecDepth 100000 in
set_option maxHeartbeats 1000000 in
theorem rof_bad (w : World) (v : Value) (b s : ByteArray) (block : Int) (wb : (Lit.int .i64 block).wf = true) (hb : ¬ (16 ≤ block ∧ block ≤ 1024)) :
    Calls Try.prog 19 #[v, .string b, .string s, .int .i64 block] w fun e w' => e = .returned (.tuple #[.agg #[.string ByteArray.empty, .string ByteArray.empty, .int .i64 0, .slice none 0 0], .int .i64 1]) ∧ Below w.heap.size w w' := by
  have hdz := dlZ_run
  obtain ⟨V1, hV1⟩ : ∃ V, V = w.alloc (Obj.cells #[.string ByteArray.empty, .string ByteArray.empty, .int .i64 0, .slice none 0 0] 25) := ⟨_, rfl⟩
  obtain ⟨pz, hpz⟩ : ∃ q, q = w.heap.size := ⟨_, rfl⟩
  have hbV : Below w.heap.size w V1 := by rw [hV1]; exact below_alloc _ _
  have hZ1 : Blk V1 pz [.string ByteArray.empty, .string ByteArray.empty, .int .i64 0, .slice none 0 0] 25 := by rw [hV1, hpz]; exact Blk.new _ _ _
  have HSG := Lib.hid (refSign_bad V1 v b block wb hb)
  have HZ1 := Lib.hid hZ1
  have HBV := Lib.hid hbV
  have HV1 := Lib.hid hV1
  have HPZ := Lib.hid hpz
  clear hbV hZ1 hV1 hpz
  go_enter Try.func19, Try.ntmps19
  go_upto_region 1 with fail
  rw [← HPZ.out, ← HV1.out]
  go_wp2_with fail
  refine HSG.out.mono ?_
  rintro e w2 ⟨rfl, hb2⟩
  obtain ⟨V3, hV3⟩ : ∃ V, V = w2.alloc (Obj.cells #[.int .i64 0, .int .i64 0, .slice none 0 0, .slice none 0 0] 52) := ⟨_, rfl⟩
  have hw2 : V1.heap.size ≤ w2.heap.size := hb2.size
  have hb3 : Below w2.heap.size w2 V3 := by rw [hV3]; exact below_alloc _ _
  have hZ3 := (HZ1.out.below hb2 HZ1.out.lt).below hb3 (Nat.lt_of_lt_of_le HZ1.out.lt hw2)
  have hB3 := bl_nx (bl_nx HBV.out hb2) hb3
  have z0 := hZ3.cell (i := 0) rfl
  have z1 := hZ3.cell (i := 1) rfl
  have z2 := hZ3.cell (i := 2) rfl
  have z3 := hZ3.cell (i := 3) rfl
  have f0 := hZ3.frozen 0
  have f1 := hZ3.frozen 1
  have f2 := hZ3.frozen 2
  have f3 := hZ3.frozen 3
  have HZ3 := Lib.hid hZ3
  have HB3 := Lib.hid hB3
  have HV3 := Lib.hid hV3
  clear hZ3 hB3 hV3 hb2 hb3 hw2 hb
  go_upto_region 2 with fail
  rw [← HV3.out]
  go_wp2
  have hw : w.heap.size ≤ pz := Nat.le_of_eq HPZ.out.symm
  refine bodyPost_ret (results_cell_tmp_row rfl _ _ pz 25 _ (0, 0) _ rfl ((((HZ3.out.set 0 _).set 1 _).set 2 _).set 3 _) Try.underlying25 rfl (by kernel_rfl)) rfl ?_
  exact ⟨rfl, (((HB3.out.setCell hw _).setCell hw _).setCell hw _).setCell hw _⟩

theorem refKS_run (w : World) : (zeroValue 38).run Try.prog w = .ok (.agg #[.bool false, .slice none 0 0]) w := by kernel_rfl
theorem is_yes (w : World) (p m : Nat) (S : Bk) (s mk : ByteArray) (h : BookI w p m S) (hs : s.size ≤ 100000) (hn : S.length ≤ 1000000000) (hm : bytesOf s ∈ S) (hk : mk = numS (S.idxOf (bytesOf s) + 1)) :
    Calls Try.prog 21 #[.pointer (some ⟨p, 0, none⟩), .string s, .string mk] w fun e w' => e = .returned (.bool true) ∧ Below w.heap.size w w' := by
  refine (is_ideal w p m S s mk h (by unfold maxLen; omega) (by omega)).mono ?_
  rintro e w' ⟨rfl, hb⟩
  refine ⟨?_, hb⟩
  rw [decide_eq_true ⟨hm, by rw [hk]; rfl⟩]
theorem kept_grown {w w' : World} {q : Nat} (h : Kept (fun k => k = q) w w') : w.grownBy w' (some q) := ⟨h.os, h.tape, h.output, h.size, fun k hk hn => h.block k hk (fun e => hn (by rw [e]))⟩

set_option maxRecDepth 100000 in
set_option maxHeartbeats 4000000 in
theorem deltaMakes_walk (w : World) (b0 : ByteArray) (hb0 : b0.size ≤ 140737488351232) (s0 : ByteArray) (hs0 : s0.size ≤ 140737488351232) (block : Int) (wb : (Lit.int .i64 block).wf = true) :
    Calls Try.prog 4 #[.string b0, .string s0, .int .i64 block] w fun e w' => e = .returned (.bool true) ∧ Below w.heap.size w w' := by
  have hcb := cutS_size b0 1500
  have hcs := cutS_size s0 1500
  have hzB := refKS_run
  go_enter Try.func4, Try.ntmps4
  go_wp2_with fail
  refine (cut_any b0 1500 _ (by omega) (by decide)).mono ?_
  rintro e w' ⟨rfl, rfl⟩
  obtain ⟨b, hb⟩ : ∃ b, b = cutS b0 1500 := ⟨_, rfl⟩
  rw [← hb] at hcb
  rw [← hb]
  clear hb hb0
  go_wp2_with fail
  refine (cut_any s0 1500 _ (by omega) (by decide)).mono ?_
  rintro e w' ⟨rfl, rfl⟩
  obtain ⟨s, hs⟩ : ∃ s, s = cutS s0 1500 := ⟨_, rfl⟩
  rw [← hs] at hcs
  rw [← hs]
  clear hs hs0
  go_wp2_with fail
  refine (ideal_any _).mono ?_
  rintro e w1 ⟨rfl, hI1, hB1⟩
  have hmw : w.heap.size < w1.heap.size := hI1.2.2.2.2.1.2
  by_cases hf : 16 ≤ block ∧ block ≤ 1024
  case pos =>
    obtain ⟨B, rfl⟩ : ∃ B : Nat, block = B := ⟨block.toNat, by omega⟩
    have hb1 : 16 ≤ B := by omega
    have hb2 : B ≤ 1024 := by omega
    have HOF := Lib.hid (of_ideal w1 (w.heap.size + 1) w.heap.size [] b s B hI1 (by simp) hb1 hb2 (by omega) (by omega))
    clear hf
    go_wp2_with fail
    refine HOF.out.mono ?_
    rintro e w2 ⟨sv, S, rfl, hO, hB, mb, ms, hE, hSl, hk⟩
    simp only [List.length_nil] at hSl
    have hBl := below_kept hB1 (Nat.le_refl _) hk
    obtain ⟨a2, k2, h2⟩ := owns_slice hO
    obtain ⟨p1, p2, p3, p4, p5⟩ := stepsI_right b s B (S.idxOf (bytesOf b) + 1) (S.idxOf (bytesOf s) + 1) (by omega) (by omega) (by omega)
    obtain ⟨L, hL⟩ : ∃ L, L = stepsI b s B := ⟨_, rfl⟩
    rw [← hL] at p4 h2 hO
    have hL9 : L.length ≤ 1000000000 := by omega
    clear p1 p2 p3 p5
    obtain ⟨n, hn⟩ : ∃ n, n = L.length := ⟨_, rfl⟩
    rw [← hn] at h2
    subst h2
    obtain ⟨t1, ht1⟩ : ∃ t, t = numS (S.idxOf (bytesOf b) + 1) := ⟨_, rfl⟩
    obtain ⟨t2, ht2⟩ : ∃ t, t = numS (S.idxOf (bytesOf s) + 1) := ⟨_, rfl⟩
    rw [← ht1, ← ht2]
    obtain ⟨z, hz⟩ : ∃ z : Int, z = s.size := ⟨_, rfl⟩
    rw [← hz]
    obtain ⟨V3, hV3⟩ : ∃ V, V = w2.alloc (Obj.cells #[.string t1, .string t2, .int .i64 z, .slice a2 n k2] 25) := ⟨_, rfl⟩
    obtain ⟨p3', hp3⟩ : ∃ q, q = w2.heap.size := ⟨_, rfl⟩
    have hb3 : Below w2.heap.size w2 V3 := by rw [hV3]; exact below_alloc _ _
    have hG3 : Blk V3 p3' [.string t1, .string t2, .int .i64 z, .slice a2 n k2] 25 := by rw [hV3, hp3]; exact Blk.new _ _ _
    have hO3 : Own V3 w1.heap.size (.slice a2 n k2) L := hO.below hb3
    obtain ⟨V5, hV5⟩ : ∃ V, V = V3.alloc (Obj.cells #[.bool false, .slice none 0 0] 38) := ⟨_, rfl⟩
    obtain ⟨q, hq⟩ : ∃ q, q = V3.heap.size := ⟨_, rfl⟩
    have hb5 : Below V3.heap.size V3 V5 := by rw [hV5]; exact below_alloc _ _
    have hR5 : Blk V5 q [.bool false, .slice none 0 0] 38 := by rw [hV5, hq]; exact Blk.new _ _ _
    have hG5 := hG3.below hb5 hG3.lt
    have hO5 := hO3.below hb5
    have hB5 : BookI V5 (w.heap.size + 1) w.heap.size S := (hB.next hb3).next hb5
    have HBF := Lib.hid (bl_nx (bl_nx hBl hb3) hb5)
    have HRO := Lib.hid (rof_ideal V5 q b s B (refK_new hR5) hb1 hb2 (by omega) (by omega))
    have hpq : p3' < q := by rw [hq]; exact hG3.lt
    have hqw : w.heap.size + 1 < q := by rw [hq]; exact (hB.next hb3).2.2.2.2.1.1
    have hne : ∀ k, (Value.slice a2 n k2).ownBlock = some k → ¬ k = q := fun k hk => by have := owns_lt hO3 hk; omega
    have HV3 := Lib.hid hV3
    have HP3 := Lib.hid hp3
    have HV5 := Lib.hid hV5
    have HQ := Lib.hid hq
    have HG5 := Lib.hid hG5
    have HO5 := Lib.hid (And.intro hO5 hne)
    have HB5 := Lib.hid hB5
    have HPQ := Lib.hid (And.intro hpq hqw)
    have HT := Lib.hid (And.intro ht1 ht2)
    have HM := Lib.hid (And.intro mb ms)
    have HZ := Lib.hid hz
    have HL := Lib.hid (And.intro hL (And.intro hn hL9))
    clear hO hB hk hBl hb3 hG3 hO3 hV3 hp3 hV5 hq hb5 hR5 hG5 hO5 hB5 hpq hqw hne hI1 hB1 ht1 ht2 hz HOF p4 hL hn mb ms hE hL9
    go_upto_region 5 with fail
    rw [← HP3.out, ← HV3.out]
    go_wp2_with fail
    rw [← HQ.out, ← HV5.out]
    refine HRO.out.mono ?_
    rintro e w8 ⟨x, y, sv2, rfl, hO8, hk8⟩
    rw [← HL.out.1] at hO8
    rw [← HZ.out]
    obtain ⟨a8, k8, h8⟩ := owns_slice hO8
    rw [← HL.out.2.1] at h8
    subst h8
    have hg8 := kept_grown hk8
    have hG8 := HG5.out.keptB hk8 (by have := HPQ.out.1; omega)
    have hO8' : Own w8 w1.heap.size (.slice a2 n k2) L := owns_block HO5.out.1 (fun k hk => hk8.block k (owns_lt HO5.out.1 hk) (HO5.out.2 k hk))
    have hB8 : BookI w8 (w.heap.size + 1) w.heap.size S := HB5.out.grown hg8 (fun e => by have := HPQ.out.2; injection e; omega) (fun e => by have := HPQ.out.2; injection e; omega)
    have hF8 : Below w.heap.size w w8 := Kept.below HBF.out hk8 HBF.out.size (fun k hk e => by have := HPQ.out.2; omega)
    obtain ⟨V9, hV9⟩ : ∃ V, V = w8.alloc (Obj.cells #[.string x, .string y, .int .i64 z, .slice a8 n k8] 25) := ⟨_, rfl⟩
    obtain ⟨p9, hp9⟩ : ∃ q, q = w8.heap.size := ⟨_, rfl⟩
    have hb9 : Below w8.heap.size w8 V9 := by rw [hV9]; exact below_alloc _ _
    have hG9 : Blk V9 p9 [.string x, .string y, .int .i64 z, .slice a8 n k8] 25 := by rw [hV9, hp9]; exact Blk.new _ _ _
    have hH9 := hG8.below hb9 hG8.lt
    have hOd := hO8'.below hb9
    have hOf := hO8.below hb9
    have HB9 := Lib.hid (hB8.next hb9)
    have HF9 := Lib.hid (bl_nx hF8 hb9)
    have HST := Lib.hid (steps_true V9 L _ _ HL.out.2.2 hOd hOf)
    have u2 := hG9.cell (i := 2) rfl
    have u3 := hG9.cell (i := 3) rfl
    have x0 := hH9.cell (i := 0) rfl
    have x1 := hH9.cell (i := 1) rfl
    have x2 := hH9.cell (i := 2) rfl
    have x3 := hH9.cell (i := 3) rfl
    have HV9 := Lib.hid hV9
    have HP9 := Lib.hid hp9
    have HH9 := Lib.hid (And.intro hH9 hG9)
    clear hO8 hk8 hg8 hG8 hO8' hB8 hF8 hV9 hp9 hb9 hG9 hH9 hOd hOf HRO
    go_upto_region 6 with fail
    rw [← HP9.out, ← HV9.out]
    go_wp2_with fail
    refine HST.out.mono ?_
    rintro e wa ⟨rfl, hba⟩
    have hHa := HH9.out.1.below hba HH9.out.1.lt
    have hGa := HH9.out.2.below hba HH9.out.2.lt
    have v2 := hGa.cell (i := 2) rfl
    have y0 := hHa.cell (i := 0) rfl
    have y1 := hHa.cell (i := 1) rfl
    have y2 := hHa.cell (i := 2) rfl
    have hBa := HB9.out.next hba
    have HFa := Lib.hid (bl_nx HF9.out hba)
    have HIS := Lib.hid (is_yes wa _ _ S b t1 hBa (by omega) (by omega) HM.out.1 HT.out.1)
    have HHa := Lib.hid hHa
    have HBa := Lib.hid hBa
    have hzz : (z != z) = false := by simp
    clear u2 u3 x0 x1 x2 x3 hHa hGa hBa hba HST
    go_wp2_with fail
    refine HIS.out.mono ?_
    rintro e wc ⟨rfl, hbc⟩
    have hHc := HHa.out.below hbc HHa.out.lt
    have y1' := hHc.cell (i := 1) rfl
    have HIS2 := Lib.hid (is_yes wc _ _ S s t2 (HBa.out.next hbc) (by omega) (by omega) HM.out.2 HT.out.2)
    have HFc := Lib.hid (bl_nx HFa.out hbc)
    clear v2 y0 y1 y2 hHc hbc HIS
    go_wp2_with fail
    refine HIS2.out.mono ?_
    rintro e wd ⟨rfl, hbd⟩
    have HFd := Lib.hid (bl_nx HFc.out hbd)
    clear hbd HIS2 y1'
    go_wp2_with fail
    refine (awake_any wd).mono ?_
    rintro e we ⟨rfl, hbe⟩
    have HFe := Lib.hid (bl_nx HFd.out hbe)
    clear hbe
    go_wp2
    go_ret
    exact ⟨rfl, HFe.out⟩
  case neg =>
    have HOF := Lib.hid (of_bad w1 (.pointer (some ⟨w.heap.size + 1, 0, none⟩)) b s block wb hf)
    go_wp2_with fail
    refine HOF.out.mono ?_
    rintro e w2 ⟨rfl, hb2⟩
    obtain ⟨V3, hV3⟩ : ∃ V, V = w2.alloc (Obj.cells #[.string ByteArray.empty, .string ByteArray.empty, .int .i64 0, .slice none 0 0] 25) := ⟨_, rfl⟩
    obtain ⟨p3', hp3⟩ : ∃ q, q = w2.heap.size := ⟨_, rfl⟩
    have hb3 : Below w2.heap.size w2 V3 := by rw [hV3]; exact below_alloc _ _
    have hG3 : Blk V3 p3' [.string ByteArray.empty, .string ByteArray.empty, .int .i64 0, .slice none 0 0] 25 := by rw [hV3, hp3]; exact Blk.new _ _ _
    obtain ⟨V5, hV5⟩ : ∃ V, V = V3.alloc (Obj.cells #[.bool false, .slice none 0 0] 38) := ⟨_, rfl⟩
    obtain ⟨q, hq⟩ : ∃ q, q = V3.heap.size := ⟨_, rfl⟩
    have hb5 : Below V3.heap.size V3 V5 := by rw [hV5]; exact below_alloc _ _
    have hG5 := hG3.below hb5 hG3.lt
    have HBF := Lib.hid (bl_nx (bl_nx (bl_nx hB1 hb2) hb3) hb5)
    have HRO := Lib.hid (rof_bad V5 (.pointer (some ⟨q, 0, none⟩)) b s block wb hf)
    have HV3 := Lib.hid hV3
    have HP3 := Lib.hid hp3
    have HV5 := Lib.hid hV5
    have HQ := Lib.hid hq
    have HG5 := Lib.hid hG5
    clear hb3 hG3 hV3 hp3 hV5 hq hb5 hG5 hI1 hB1 hb2 HOF hf
    go_upto_region 5 with fail
    rw [← HP3.out, ← HV3.out]
    go_wp2_with fail
    rw [← HQ.out, ← HV5.out]
    refine HRO.out.mono ?_
    rintro e w8 ⟨rfl, hb8⟩
    have hG8 := HG5.out.below hb8 HG5.out.lt
    have hF8 := bl_nx HBF.out hb8
    obtain ⟨V9, hV9⟩ : ∃ V, V = w8.alloc (Obj.cells #[.string ByteArray.empty, .string ByteArray.empty, .int .i64 0, .slice none 0 0] 25) := ⟨_, rfl⟩
    obtain ⟨p9, hp9⟩ : ∃ q, q = w8.heap.size := ⟨_, rfl⟩
    have hb9 : Below w8.heap.size w8 V9 := by rw [hV9]; exact below_alloc _ _
    have hG9 : Blk V9 p9 [.string ByteArray.empty, .string ByteArray.empty, .int .i64 0, .slice none 0 0] 25 := by rw [hV9, hp9]; exact Blk.new _ _ _
    have hH9 := hG8.below hb9 hG8.lt
    have HF9 := Lib.hid (bl_nx hF8 hb9)
    have HST := Lib.hid (steps_true V9 [] (.slice none 0 0) (.slice none 0 0) (by simp) (Own.nil _ 0) (Own.nil _ 0))
    have u2 := hG9.cell (i := 2) rfl
    have u3 := hG9.cell (i := 3) rfl
    have x2 := hH9.cell (i := 2) rfl
    have x3 := hH9.cell (i := 3) rfl
    have HV9 := Lib.hid hV9
    have HP9 := Lib.hid hp9
    have HH9 := Lib.hid (And.intro hH9 hG9)
    clear hb8 hG8 hF8 hV9 hp9 hb9 hG9 hH9 HRO
    go_upto_region 6 with fail
    rw [← HP9.out, ← HV9.out]
    go_wp2_with fail
    refine HST.out.mono ?_
    rintro e wa ⟨rfl, hba⟩
    have hHa := HH9.out.1.below hba HH9.out.1.lt
    have hGa := HH9.out.2.below hba HH9.out.2.lt
    have v2 := hGa.cell (i := 2) rfl
    have y0 := hHa.cell (i := 0) rfl
    have y1 := hHa.cell (i := 1) rfl
    have y2 := hHa.cell (i := 2) rfl
    have HFa := Lib.hid (bl_nx HF9.out hba)
    clear u2 u3 x2 x3 hHa hGa hba HST
    go_wp2_with fail
    refine (awake_any wa).mono ?_
    rintro e we ⟨rfl, hbe⟩
    have HFe := Lib.hid (bl_nx HFa.out hbe)
    clear hbe
    go_wp2
    go_ret
    exact ⟨rfl, HFe.out⟩
end Go.Proofs.Ytgemhgllifhckaa
