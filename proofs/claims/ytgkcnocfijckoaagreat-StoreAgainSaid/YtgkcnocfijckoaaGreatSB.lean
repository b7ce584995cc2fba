/- The store's records: Whole and Partly. Conditions: as named in each theorem. -/
import Derived.Test.YtgkcnocfijckoaaGreatSA
import Derived.Test.YtgkcnocfijckoaaGreatCodeNum
import Derived.Test.YtgkcnocfijckoaaGreatQF
import Derived.Test.YtgkcnocfijckoaaGreatSbBlock
import Derived.Deep.RegionHeld3
namespace Go.Proofs.YtgkcnocfijckoaaGreat
open Go.RowKit Sg
set_option linter.unusedVariables false
set_option linter.unusedSimpArgs false
def recW (n : Nat) (mk t : ByteArray) : ByteArray := (⟨#[87]⟩ : ByteArray) ++ numBs n ++ mk ++ t
def recD (n b : Nat) (mk t : ByteArray) : ByteArray := (⟨#[68]⟩ : ByteArray) ++ numBs n ++ numBs b ++ mk ++ t
def NumOk (n : Int) : Prop := 0 ≤ n ∧ n ≤ 4611686018427387903
def WhP (p m : Nat) (S : Bk) (n : Int) (t : ByteArray) (w : World) (e : Ending) (w' : World) : Prop :=
  Kept (fun k => some m = some k) w w' ∧ ((¬ NumOk n ∧ e = .returned (.tuple #[.string ByteArray.empty, .int .i64 2]) ∧ BookI w' p m S) ∨
    (NumOk n ∧ 524288 < t.size ∧ e = .returned (.tuple #[.string ByteArray.empty, .int .i64 4]) ∧ BookI w' p m S) ∨
    (NumOk n ∧ t.size ≤ 524288 ∧ e = .returned (.tuple #[.string (recW n.toNat (mkI S t) t), .int .i64 0]) ∧ BookI w' p m (addS S (bytesOf t))))
set_option maxRecDepth 100000 in
set_option maxHeartbeats 1000000 in
theorem stWhole_any (w : World) (ps p m base : Nat) (v : Value) (S : Bk) (l : List Gn) (h : StB w ps p base v l) (hI : BookI w p m S) (hS : S.length ≤ 90000000) (n : Int) (wn : (Lit.int .i64 n).wf = true) (t : ByteArray) (ht : t.size ≤ 140737488351232) :
    Calls Tryz.prog 19 #[.pointer (some ⟨ps, 0, none⟩), .int .i64 n, .string t] w (WhP p m S n t w) := by
  have HNO := Lib.hid (none_any w ps p base v l h)
  have HST := Lib.hid h
  have HI := Lib.hid hI
  have c0 := h.1.cell (i := 0) rfl
  clear h hI
  go_enter Tryz.func19, Tryz.ntmps19
  go_wp2_with fail
  refine HNO.out.mono ?_
  rintro e w' ⟨rfl, rfl⟩
  by_cases h0 : n < 0
  · have d0 : decide (n < 0) = true := decide_eq_true h0
    have HN : Hid (¬ NumOk n) := Lib.hid (fun h => by have := h.1; omega)
    clear h0
    go_wp2
    go_ret2
    exact ⟨Kept.refl _ _, .inl ⟨HN.out, rfl, HI.out⟩⟩
  · have d0 : decide (n < 0) = false := decide_eq_false h0
    by_cases h1 : 4611686018427387903 < n
    · have d1 : decide (4611686018427387903 < n) = true := decide_eq_true h1
      have HN : Hid (¬ NumOk n) := Lib.hid (fun h => by have := h.2; omega)
      clear h0 h1
      go_wp2
      go_ret2
      exact ⟨Kept.refl _ _, .inl ⟨HN.out, rfl, HI.out⟩⟩
    · have d1 : decide (4611686018427387903 < n) = false := decide_eq_false h1
      have HN : Hid (NumOk n) := Lib.hid ⟨by omega, by omega⟩
      by_cases h2 : 524288 < t.size
      · have d2 : decide ((524288 : Int) < (t.size : Int)) = true := decide_eq_true (by omega)
        have HT := Lib.hid h2
        clear h0 h1 h2
        go_wp2
        go_ret2
        exact ⟨Kept.refl _ _, .inr (.inl ⟨HN.out, HT.out, rfl, HI.out⟩)⟩
      · have d2 : decide ((524288 : Int) < (t.size : Int)) = false := decide_eq_false (by omega)
        obtain ⟨k, rfl⟩ : ∃ k : Nat, n = k := ⟨n.toNat, by omega⟩
        have HNM := Lib.hid (num_any k w (by omega))
        have hnl : (numBs k).size ≤ 9 := by rw [numBs_size]; exact numL_le9 k (by omega)
        have HT : Hid (t.size ≤ 524288) := Lib.hid (by omega)
        have hts : t.size ≤ 524288 := by omega
        clear h0 h1 h2
        go_wp2_with fail
        refine HNM.out.mono ?_
        rintro e w2 ⟨rfl, hb2⟩
        have HI2 := Lib.hid (HI.out.next hb2)
        have HB2 := Lib.hid hb2
        have s0 := (HST.out.next hb2).1.cell (i := 0) rfl
        have HMK := Lib.hid (mark_as (s := t) HI2.out (by unfold maxLen; omega) (by omega) _ _ rfl rfl)
        obtain ⟨MK, hMK⟩ : ∃ M, M = numS (S.idxOf t.data.toList + 1) := ⟨_, rfl⟩
        rw [← hMK] at HMK
        have hms : MK.size = 32 := by rw [hMK]; exact numS_size _
        have HM : Hid (MK = mkI S t) := Lib.hid hMK
        clear hb2 hMK c0 HNM
        go_wp2_with fail
        refine HMK.out.mono ?_
        rintro e w3 ⟨rfl, hI3, hg3⟩
        have HF : Hid (BookI w3 p m (addS S (bytesOf t)) ∧ Kept (fun k => some m = some k) w w3) := Lib.hid ⟨hI3, (Kept.of_below _ HB2.out).trans (Kept.of_grown hg3) (fun _ _ h => h)⟩
        clear hI3 hg3 s0 HMK
        go_wp2
        go_ret2
        refine ⟨HF.out.2, .inr (.inr ⟨HN.out, HT.out, ?_, HF.out.1⟩)⟩
        rw [← HM.out]
        rfl
def PtP (l : List Gn) (n b : Int) (t : ByteArray) (w : World) (e : Ending) (w' : World) : Prop :=
  Below w.heap.size w w' ∧ ((¬ (NumOk n ∧ 0 ≤ b ∧ b < n) ∧ e = .returned (.tuple #[.string ByteArray.empty, .int .i64 2])) ∨
    ((NumOk n ∧ 0 ≤ b ∧ b < n) ∧ (readD t.data.toList).2 ≠ 0 ∧ e = .returned (.tuple #[.string ByteArray.empty, .int .i64 (readD t.data.toList).2])) ∨
    ((NumOk n ∧ 0 ≤ b ∧ b < n) ∧ (readD t.data.toList).2 = 0 ∧ hasN l b = false ∧ e = .returned (.tuple #[.string ByteArray.empty, .int .i64 8])) ∨
    ((NumOk n ∧ 0 ≤ b ∧ b < n) ∧ (readD t.data.toList).2 = 0 ∧ hasN l b = true ∧ markN l b ≠ (readD t.data.toList).1.basis ∧ e = .returned (.tuple #[.string ByteArray.empty, .int .i64 13])) ∨
    ((NumOk n ∧ 0 ≤ b ∧ b < n) ∧ (readD t.data.toList).2 = 0 ∧ hasN l b = true ∧ markN l b = (readD t.data.toList).1.basis ∧ e = .returned (.tuple #[.string (recD n.toNat b.toNat (readD t.data.toList).1.mark t), .int .i64 0])))
theorem readD_right {l : List UInt8} (h : (readD l).2 = 0) : RightP (readD l).1 := by
  unfold readD at h ⊢
  unfold rdTail at h ⊢
  split at h
  · rename_i h1; exact absurd h h1
  · rename_i h1
    split at h
    · rename_i h2; exact absurd h h2
    · rename_i h2
      split at h
      · rename_i h3
        rw [if_neg h1, if_neg h2, if_pos h3]; exact h3
      · cases h
theorem markN_at {l : List Gn} {n : Int} {g : Gn} (h : l[atN l n]? = some g) (hg : g.gen = n) : markN l n = g.mark := by
  unfold markN; rw [h]; simp [hg]
set_option maxRecDepth 100000 in
set_option maxHeartbeats 2000000 in
theorem stPartly_any (w : World) (ps p base : Nat) (v : Value) (l : List Gn) (h : StB w ps p base v l) (hl : l.length ≤ 100000) (n b : Int) (wn : (Lit.int .i64 n).wf = true) (wb : (Lit.int .i64 b).wf = true) (t : ByteArray) (ht : t.size ≤ 1000000) :
    Calls Tryz.prog 24 #[.pointer (some ⟨ps, 0, none⟩), .int .i64 n, .int .i64 b, .string t] w (PtP l n b t w) := by
  have hdz := dlZ_run
  have HNO := Lib.hid (none_any w ps p base v l h)
  have HST := Lib.hid h
  clear h
  go_enter Tryz.func24, Tryz.ntmps24
  go_wp2_with fail
  refine HNO.out.mono ?_
  rintro e w' ⟨rfl, rfl⟩
  by_cases h0 : n < 0
  case pos =>
    have d0 : decide (n < 0) = true := decide_eq_true h0
    have HN : Hid (¬ (NumOk n ∧ 0 ≤ b ∧ b < n)) := Lib.hid (fun h => by have := h.1.1; omega)
    clear h0
    go_wp2
    go_ret2
    exact ⟨Below.refl _ _, .inl ⟨HN.out, rfl⟩⟩
  have d0 : decide (n < 0) = false := decide_eq_false h0
  by_cases h1 : 4611686018427387903 < n
  case pos =>
    have d1 : decide (4611686018427387903 < n) = true := decide_eq_true h1
    have HN : Hid (¬ (NumOk n ∧ 0 ≤ b ∧ b < n)) := Lib.hid (fun h => by have := h.1.2; omega)
    clear h0 h1
    go_wp2
    go_ret2
    exact ⟨Below.refl _ _, .inl ⟨HN.out, rfl⟩⟩
  have d1 : decide (4611686018427387903 < n) = false := decide_eq_false h1
  by_cases h2 : b < 0
  case pos =>
    have d2 : decide (b < 0) = true := decide_eq_true h2
    have HN : Hid (¬ (NumOk n ∧ 0 ≤ b ∧ b < n)) := Lib.hid (fun h => by have := h.2.1; omega)
    clear h0 h1 h2
    go_wp2
    go_ret2
    exact ⟨Below.refl _ _, .inl ⟨HN.out, rfl⟩⟩
  have d2 : decide (b < 0) = false := decide_eq_false h2
  by_cases h3 : n ≤ b
  case pos =>
    have d3 : decide (n ≤ b) = true := decide_eq_true h3
    have HN : Hid (¬ (NumOk n ∧ 0 ≤ b ∧ b < n)) := Lib.hid (fun h => by have := h.2.2; omega)
    clear h0 h1 h2 h3
    go_wp2
    go_ret2
    exact ⟨Below.refl _ _, .inl ⟨HN.out, rfl⟩⟩
  have d3 : decide (n ≤ b) = false := decide_eq_false h3
  have HN : Hid (NumOk n ∧ 0 ≤ b ∧ b < n) := Lib.hid ⟨⟨by omega, by omega⟩, by omega, by omega⟩
  obtain ⟨k, rfl⟩ : ∃ k : Nat, n = k := ⟨n.toNat, by omega⟩
  obtain ⟨j, rfl⟩ : ∃ j : Nat, b = j := ⟨b.toNat, by omega⟩
  have HRD := Lib.hid (read_d w t ht)
  obtain ⟨R, hR⟩ : ∃ R, R = readD t.data.toList := ⟨_, rfl⟩
  rw [← hR] at HRD
  have HR := Lib.hid hR
  have hkm : k ≤ 4611686018427387903 := by omega
  have d4 : decide (k ≤ j) = false := decide_eq_false (by omega)
  have hjm : j ≤ 4611686018427387903 := by omega
  clear h0 h1 h2 h3 hR
  obtain ⟨⟨db, dm, ds, dl⟩, er⟩ := R
  go_wp2_with fail
  refine HRD.out.mono ?_
  rintro e w2 ⟨v2, rfl, hO2, hb2⟩
  simp only at hO2
  obtain ⟨a2, k2, rfl⟩ := owns_slice hO2
  simp only
  obtain ⟨V, hV⟩ : ∃ V, V = w2.alloc (Obj.cells #[.string db, .string dm, .int .i64 ds, .slice a2 dl.length k2] 55) := ⟨_, rfl⟩
  obtain ⟨q, hq⟩ : ∃ q, q = w2.heap.size := ⟨_, rfl⟩
  have hG : Blk V q [.string db, .string dm, .int .i64 ds, .slice a2 dl.length k2] 55 := by rw [hV, hq]; exact Blk.new _ _ _
  have hbV : Below w.heap.size w V := by rw [hV]; exact bl_nx hb2 (below_alloc _ _)
  have hSt := HST.out.next hbV
  have HPL := Lib.hid (stPlace_b V ps p base v l (j : Int) hSt hl)
  have HV := Lib.hid (And.intro hV hq)
  have HG := Lib.hid hG
  have HBV := Lib.hid hbV
  have HStV := Lib.hid hSt
  clear hV hq hG hbV hSt hO2 hb2 HRD
  go_upto_region 6 with fail
  rw [← HV.out.1, ← HV.out.2]
  by_cases he : er = 0
  case neg =>
    have hne : (((er : Nat) : Int) != 0) = true := by simpa using he
    have HE : Hid ((readD t.data.toList).2 ≠ 0 ∧ (readD t.data.toList).2 = er) := Lib.hid ⟨by rw [← HR.out]; exact he, by rw [← HR.out]⟩
    clear he
    go_wp2
    go_ret2
    exact ⟨HBV.out, .inr (.inl ⟨HN.out, HE.out.1, by rw [HE.out.2]; rfl⟩)⟩
  case pos =>
    subst he
    have HE : Hid ((readD t.data.toList).2 = 0) := Lib.hid (by rw [← HR.out])
    have hrp := readD_right HE.out
    rw [← HR.out] at hrp
    have hdm : dm.size = 32 := hrp.2.1
    obtain ⟨K, hKe⟩ : ∃ K, K = atN l (j : Int) := ⟨_, rfl⟩
    obtain ⟨RH, hRH⟩ : ∃ R, R = hasN l (j : Int) := ⟨_, rfl⟩
    rw [← hKe, ← hRH] at HPL
    have HKE := Lib.hid (And.intro hKe hRH)
    clear hrp hKe hRH
    go_wp2_with fail
    refine HPL.out.mono ?_
    rintro e w4 ⟨rfl, hb4⟩
    have hG4 := HG.out.below hb4 HG.out.lt
    have hSt4 := HStV.out.next hb4
    have HB4 := Lib.hid (bl_nx HBV.out hb4)
    clear hb4 HPL
    cases RH
    case false =>
      have HH : Hid (hasN l (j : Int) = false) := Lib.hid HKE.out.2.symm
      clear hG4 hSt4
      go_wp2
      go_ret2
      exact ⟨HB4.out, .inr (.inr (.inl ⟨HN.out, HE.out, HH.out, rfl⟩))⟩
    case true =>
      have HH : Hid (hasN l (j : Int) = true) := Lib.hid HKE.out.2.symm
      obtain ⟨g, hg, hgn⟩ := hasN_at HH.out
      have HMN : Hid (markN l (j : Int) = g.mark) := Lib.hid (markN_at hg hgn)
      rw [← HKE.out.1] at hg
      obtain ⟨ao, cp, hvv⟩ := owns_slice hSt4.2
      subst hvv
      have s1 := hSt4.1.cell (i := 1) rfl
      have hRg := hSt4.rs rfl
      obtain ⟨NL, hNL⟩ : ∃ N, N = l.length := ⟨_, rfl⟩
      rw [← hNL] at hRg s1
      have hKN : K < NL := by rw [hNL]; exact (List.getElem?_eq_some_iff.1 hg).1
      obtain ⟨bg, og, rfl, hbg, hcg⟩ := rs_gn hRg (by omega)
      have g2 := (hcg K g hg).2.2.1
      have q0 := hG4.cell (i := 0) rfl
      have q1 := hG4.cell (i := 1) rfl
      have i2 : (K : Int) < (NL : Int) := by omega
      have hnk : (numBs k).size ≤ 9 := by rw [numBs_size]; exact numL_le9 k hkm
      have hnj : (numBs j).size ≤ 9 := by rw [numBs_size]; exact numL_le9 j hjm
      have HG4 := Lib.hid hG4
      have HDB : Hid ((readD t.data.toList).1.basis = db ∧ (readD t.data.toList).1.mark = dm) := Lib.hid (by rw [← HR.out]; exact ⟨rfl, rfl⟩)
      obtain ⟨gm, hgm⟩ : ∃ t, t = g.mark := ⟨_, rfl⟩
      rw [← hgm] at HMN g2
      clear hcg hRg hg hgn hNL hgm hG4 hSt4
      by_cases hmb : gm = db
      case neg =>
        have hne : (gm.toList == db.toList) = false := beqS_f (fun e => hmb (ByteArray.ext (Array.ext' e)))
        have HF : Hid (markN l (j : Int) ≠ (readD t.data.toList).1.basis) := Lib.hid (by rw [HMN.out, HDB.out.1]; exact hmb)
        clear hmb
        go_upto_region 11 with fail
        go_quiet (fail)
        have HBn := Lib.hid (below_drewN' HB4.out nq)
        go_wp2
        go_ret2
        exact ⟨HBn.out, .inr (.inr (.inr (.inl ⟨HN.out, HE.out, HH.out, HF.out, rfl⟩)))⟩
      case pos =>
        subst hmb
        have hne : (gm.toList == gm.toList) = true := by simp
        have HF : Hid (markN l (j : Int) = (readD t.data.toList).1.basis) := Lib.hid (by rw [HMN.out, HDB.out.1])
        go_upto_region 11 with fail
        go_quiet (fail)
        obtain ⟨w5, hw5⟩ : ∃ x, x = w4.drewN nq := ⟨_, rfl⟩
        have hb5 : Below w4.heap.size w4 w5 := by rw [hw5]; exact below_drewN' (Below.refl _ _) nq
        rw [← hw5]
        have HB5 := Lib.hid (bl_nx HB4.out hb5)
        have HG5 := Lib.hid (HG4.out.below hb5 HG4.out.lt)
        have HNK := Lib.hid (num_any k w5 hkm)
        clear hw5 hb5 q0 q1 g2 s1
        go_wp2_with fail
        refine HNK.out.mono ?_
        rintro e w6 ⟨rfl, hb6⟩
        have HB6 := Lib.hid (bl_nx HB5.out hb6)
        have HG6 := Lib.hid (HG5.out.below hb6 HG5.out.lt)
        have HNJ := Lib.hid (num_any j w6 hjm)
        clear hb6 HNK
        go_wp2_with fail
        refine HNJ.out.mono ?_
        rintro e w7 ⟨rfl, hb7⟩
        have HB7 := Lib.hid (bl_nx HB6.out hb7)
        have q1 := (HG6.out.below hb7 HG6.out.lt).cell (i := 1) rfl
        clear hb7 HNJ
        go_wp2
        go_ret2
        exact ⟨HB7.out, .inr (.inr (.inr (.inr ⟨HN.out, HE.out, HH.out, HF.out, by rw [HDB.out.2]; rfl⟩)))⟩
end Go.Proofs.YtgkcnocfijckoaaGreat
namespace Go.Proofs.YtgkcnocfijckoaaGreat
open Go.RowKit Sg
set_option linter.unusedVariables false
set_option linter.unusedSimpArgs false
theorem stL_le {x : St} (h : rightS x) : (stL x).length ≤ 18 + x.text.size := by
  obtain ⟨h1, h2, h3, h4, h5⟩ := rightS_pos h
  by_cases ht : x.text.size ≠ 0
  · rw [stL_text ht, List.length_append, bs_len]
    have := numL_le9 (2 * x.text.size) (by omega)
    omega
  · rw [stL_copy (by omega), List.length_append]
    have h6 := numL_le9 (2 * x.len.toNat + 1) (by omega)
    have h7 := numL_le9 x.pos.toNat (by omega)
    omega
theorem steps_le : ∀ {L : List St}, (∀ x ∈ L, rightS x) → (L.flatMap stL).length ≤ 18 * L.length + sentL L := by
  intro L
  induction L with
  | nil => intro _; exact Nat.zero_le _
  | cons x L ih =>
    intro h
    have h1 := stL_le (h x (by simp))
    have h2 := ih (fun y hy => h y (by simp [hy]))
    have h3 : sentL (x :: L) = x.text.size + sentL L := by unfold sentL; rw [List.map_cons, List.sum_cons]
    rw [List.flatMap_cons, List.length_append, List.length_cons, h3]
    omega
theorem bytesD_len {d : Dl} (h : RightP d) {k : Nat} (h1 : d.steps.length ≤ k) (h2 : sentL d.steps ≤ k) : (bytesD d).length ≤ 82 + 19 * k ∧ 64 ≤ (bytesD d).length := by
  have h3 := steps_le h.2.2.2.2.1
  have h4 := numL_le9 d.size.toNat (by have := h.2.2.2.1; omega)
  have h5 := numL_le9 d.steps.length (by have := sum2_len h.2.2.2.2.1; have := h.2.2.2.2.2; have := h.2.2.2.1; omega)
  have h6 : d.basis.data.toList.length = 32 := by rw [bs_len]; exact h.1
  have h7 : d.mark.data.toList.length = 32 := by rw [bs_len]; exact h.2.1
  unfold bytesD headL
  simp only [List.length_append, h6, h7]
  omega
def OfS (p m : Nat) (S : Bk) (t1 t2 : ByteArray) (z : Int) (L : List St) (W : World) (e : Ending) (w' : World) : Prop :=
  ∃ a n k M1 M2 S', e = .returned (.tuple #[.agg #[.string M1, .string M2, .int .i64 z, .slice a n k], .int .i64 0]) ∧ Hid (M1 = mkI S' t1 ∧ M2 = mkI S' t2 ∧ n = L.length ∧ Own w' W.heap.size (.slice a n k) L ∧ BookI w' p m S' ∧ bytesOf t1 ∈ S' ∧ bytesOf t2 ∈ S' ∧ Ext S S' ∧ S'.length ≤ S.length + 3000000) ∧ Kept (fun k => some m = some k) W w'
theorem of_s (W : World) (p m : Nat) (S : Bk) (t1 t2 : ByteArray) (B : Nat) (hI : BookI W p m S) (hS : S.length ≤ 90000000) (hB1 : 16 ≤ B) (hB2 : B ≤ 1024) (h1 : t1.size ≤ 524288) (h2 : t2.size ≤ 524288) :
    Calls Tryz.prog 50 #[.pointer (some ⟨p, 0, none⟩), .string t1, .string t2, .int .i64 B] W (OfS p m S t1 t2 t2.size (stepsI t1 t2 B) W) := by
  refine (of_ideal W p m S t1 t2 B hI hS hB1 hB2 h1 h2).mono ?_
  rintro e w' ⟨sv, S', rfl, hO, hI', m1, m2, hE, hl, hk⟩
  obtain ⟨a, k, rfl⟩ := owns_slice hO
  exact ⟨a, _, k, _, _, S', rfl, Lib.hid ⟨rfl, rfl, rfl, hO, hI', m1, m2, hE, hl⟩, hk⟩
/-- what Best gives -/
def BeR (S' : Bk) (l : List Gn) (im : Int → ByteArray) (n : Int) (t : ByteArray) (deep : Int) (rec : ByteArray) : Prop :=
  rec = recW n.toNat (mkI S' t) t ∨ ∃ (g : Gn) (d : Dl), l[atN l n - 1]? = some g ∧ 0 < atN l n ∧ rec = recD n.toNat g.gen.toNat d.mark ⟨(bytesD d).toArray⟩ ∧ readD (bytesD d) = (d, 0) ∧ AppOk S' (im g.gen) d t ∧ ((roadL (gsG l) g.gen).length : Int) < deep ∧ rec.size < (recW n.toNat (mkI S' t) t).size
def BeP (p m : Nat) (S : Bk) (l : List Gn) (im : Int → ByteArray) (n : Int) (t : ByteArray) (deep : Int) (w : World) (e : Ending) (w' : World) : Prop :=
  Kept (fun k => some m = some k) w w' ∧ ((¬ NumOk n ∧ e = .returned (.tuple #[.string ByteArray.empty, .int .i64 2]) ∧ BookI w' p m S) ∨
    (NumOk n ∧ ∃ S' rec, e = .returned (.tuple #[.string rec, .int .i64 0]) ∧ BookI w' p m S' ∧ Ext S S' ∧ bytesOf t ∈ S' ∧ S'.length ≤ S.length + 3000010 ∧ BeR S' l im n t deep rec))
theorem BeP.whole {p m : Nat} {S S' : Bk} {l : List Gn} {im : Int → ByteArray} {n : Int} {t rec : ByteArray} {deep : Int} {w w' : World} (hn : NumOk n) (hk : Kept (fun k => some m = some k) w w') (hI : BookI w' p m S') (hE : Ext S S') (ht : bytesOf t ∈ S') (hl : S'.length ≤ S.length + 3000010) (hr : rec = recW n.toNat (mkI S' t) t) :
    BeP p m S l im n t deep w (.returned (.tuple #[.string rec, .int .i64 0])) w' := ⟨hk, .inr ⟨hn, S', rec, rfl, hI, hE, ht, hl, .inl hr⟩⟩
theorem blkKept {T : Nat → Prop} {w w' : World} {q : Nat} {cs : List Value} {t : TypeId} (h : Blk w q cs t) (hk : Kept T w w') (hq : ¬ T q) : Blk w' q cs t := by
  have := h.lt
  unfold Blk at h ⊢
  rw [hk.block q this hq]; exact h
theorem Kept.setNew {T : Nat → Prop} {w w' : World} (h : Kept T w w') {q : Nat} (hq : w.heap.size ≤ q) (i : Nat) (v : Value) : Kept T w (w'.setCell ⟨q, i, none⟩ v) := by
  refine ⟨h.os, h.tape, h.output, by simpa using h.size, fun k hk hn => ?_⟩
  rw [Below.heap_setCell _ _ _ _ (by intro e; have e2 : k = q := e; omega)]
  exact h.block k hk hn
/-- a delta in a variable, with the book -/
def DlAt (w Y : World) (p m : Nat) (S' : Bk) (q : Nat) (M1 M2 : ByteArray) (z : Int) (a : Option Addr) (n k : Nat) (L : List St) : Prop :=
  Blk Y q [.string M1, .string M2, .int .i64 z, .slice a n k] 55 ∧ Rs Y a n k 3 L St.c ∧ BookI Y p m S' ∧ Kept (fun k => some m = some k) w Y
theorem DlAt.of_alloc {w5 w6 : World} {p m base : Nat} {S' : Bk} {M1 M2 : ByteArray} {z : Int} {a : Option Addr} {n k : Nat} {L : List St} (hk : Kept (fun k => some m = some k) w5.drew w6) (hO : Own w6 base (.slice a n k) L) (hn : n = L.length) (hI : BookI w6 p m S') :
    DlAt w5 (w6.alloc (Obj.cells #[.string M1, .string M2, .int .i64 z, .slice a n k] 55)) p m S' w6.heap.size M1 M2 z a n k L := by
  have hb : Below w6.heap.size w6 (w6.alloc (Obj.cells #[.string M1, .string M2, .int .i64 z, .slice a n k] 55)) := below_alloc _ _
  refine ⟨Blk.new _ _ _, Own.rs hn.symm (hO.below hb), hI.next hb, kept_bel ?_ hb⟩
  exact ⟨hk.os, hk.tape, hk.output, hk.size, hk.block⟩
theorem DlAt.of_store {w5 w6 : World} {x : Obj} {p m base : Nat} {S' : Bk} {M1 M2 : ByteArray} {z : Int} {a : Option Addr} {n k : Nat} {L : List St} {c0 c1 c2 c3 : Value} (hb : Below w5.heap.size w5 (w5.drew.alloc x)) (hk : Kept (fun k => some m = some k) (w5.drew.alloc x) w6) (hQ : Blk w6 w5.heap.size [c0, c1, c2, c3] 55) (hO : Own w6 base (.slice a n k) L) (hbase : w5.heap.size < base) (hn : n = L.length) (hI : BookI w6 p m S') (hp : p < w5.heap.size) (hm : m < w5.heap.size) :
    DlAt w5 ((((w6.setCell ⟨w5.heap.size, 0, none⟩ (.string M1)).setCell ⟨w5.heap.size, 1, none⟩ (.string M2)).setCell ⟨w5.heap.size, 2, none⟩ (.int .i64 z)).setCell ⟨w5.heap.size, 3, none⟩ (.slice a n k)) p m S' w5.heap.size M1 M2 z a n k L := by
  have h1 : Kept (fun k => some m = some k) w5 w6 := (Kept.of_below _ hb).trans hk (fun _ _ h => h)
  have h2 : Kept (fun k => k = w5.heap.size) w6 ((((w6.setCell ⟨w5.heap.size, 0, none⟩ (.string M1)).setCell ⟨w5.heap.size, 1, none⟩ (.string M2)).setCell ⟨w5.heap.size, 2, none⟩ (.int .i64 z)).setCell ⟨w5.heap.size, 3, none⟩ (.slice a n k)) :=
    Kept.set (Kept.set (Kept.set (Kept.set (T := fun k => k = w5.heap.size) (Kept.refl _ _) (p := w5.heap.size) rfl 0 _) (p := w5.heap.size) rfl 1 _) (p := w5.heap.size) rfl 2 _) (p := w5.heap.size) rfl 3 _
  refine ⟨(((hQ.set 0 _).set 1 _).set 2 _).set 3 _, Own.rs hn.symm ((((hO.setFar hbase 0 _).setFar hbase 1 _).setFar hbase 2 _).setFar hbase 3 _), hI.kept h2 (by omega) (by omega), ?_⟩
  exact (((h1.setNew (Nat.le_refl _) 0 _).setNew (Nat.le_refl _) 1 _).setNew (Nat.le_refl _) 2 _).setNew (Nat.le_refl _) 3 _
set_option maxRecDepth 100000 in
set_option maxHeartbeats 4000000 in
theorem stBest_any (w : World) (ps p m base : Nat) (v : Value) (S : Bk) (l : List Gn) (im : Int → ByteArray) (h : StB w ps p base v l) (hI : BookI w p m S) (hinv : Inv S l im) (hS : S.length ≤ 80000000) (hm : m < base) (hbw : base ≤ w.heap.size) (hps : ps ≠ m) (n deep : Int) (wn : (Lit.int .i64 n).wf = true) (wd : (Lit.int .i64 deep).wf = true) (t : ByteArray) (ht : t.size ≤ 10000) :
    Calls Tryz.prog 20 #[.pointer (some ⟨ps, 0, none⟩), .int .i64 n, .string t, .int .i64 deep] w (BeP p m S l im n t deep w) := by
  have hdz := dlZ_run
  have HWH := Lib.hid (stWhole_any w ps p m base v S l h hI (by omega) n wn t (by omega))
  have HST := Lib.hid h
  have HINV := Lib.hid hinv
  have hl := hinv.len
  clear h hI hinv
  go_enter Tryz.func20, Tryz.ntmps20
  go_wp2_with fail
  refine HWH.out.mono ?_
  rintro e w1 ⟨hk1, ⟨hno, rfl, hI1⟩ | ⟨_, hbig, _⟩ | ⟨hok, _, rfl, hI1⟩⟩
  · have HF := Lib.hid (And.intro hk1 (And.intro hno hI1))
    clear hk1 hno hI1
    go_wp2
    go_ret2
    exact ⟨HF.out.1, .inl ⟨HF.out.2.1, rfl, HF.out.2.2⟩⟩
  · omega
  · have HOK := Lib.hid hok
    obtain ⟨S1, hS1⟩ : ∃ S1, S1 = addS S (bytesOf t) := ⟨_, rfl⟩
    rw [← hS1] at hI1
    have hE1 : Ext S S1 := by rw [hS1]; exact (Ext.refl _).add _
    have ht1 : bytesOf t ∈ S1 := by rw [hS1]; exact mem_self _ _
    have hl1 : S1.length ≤ S.length + 1 := by rw [hS1]; exact addS_len _ _
    have hmk1 : mkI S t = mkI S1 t := by
      unfold mkI
      congr 2
      rw [hS1]
      exact (idx_self S (bytesOf t)).symm
    have hinv1 := HINV.out.ext hE1
    have hSt1 := HST.out.kept hk1 hm hps
    obtain ⟨wh, hwh⟩ : ∃ r, r = recW n.toNat (mkI S t) t := ⟨_, rfl⟩
    rw [← hwh]
    have hwhs : wh.size ≤ 20000 := by
      rw [hwh]
      unfold recW
      simp only [ByteArray.size_append]
      have h1 := numL_le9 n.toNat (by have := hok.2; omega)
      have h2 : (numBs n.toNat).size = (numL n.toNat).length := numBs_size _
      have h3 : (mkI S t).size = 32 := numS_size _
      have h4 : (⟨#[87]⟩ : ByteArray).size = 1 := rfl
      omega
    have HW := Lib.hid (show wh = recW n.toNat (mkI S1 t) t by rw [hwh, hmk1])
    have HS1 := Lib.hid (And.intro hE1 (And.intro ht1 (And.intro hinv1 (And.intro hSt1 (And.intro hI1 hk1)))))
    have HPL := Lib.hid (stPlace_b w1 ps p base v l n hSt1 (by omega))
    obtain ⟨K, hK⟩ : ∃ K, K = atN l n := ⟨_, rfl⟩
    rw [← hK] at HPL
    have HK := Lib.hid hK
    have hbw1 : base ≤ w1.heap.size := Nat.le_trans hbw hk1.size
    clear hS1 hE1 ht1 hmk1 hinv1 hSt1 hwh hok hI1 hk1 hK HWH
    go_wp2_with fail
    refine HPL.out.mono ?_
    rintro e w2 ⟨rfl, hb2⟩
    have hSt2 := HS1.out.2.2.2.1.next hb2
    have hI2 := HS1.out.2.2.2.2.1.next hb2
    have hK2 := kept_bel HS1.out.2.2.2.2.2 hb2
    have hbw2 : base ≤ w2.heap.size := Nat.le_trans hbw1 hb2.size
    have H2 := Lib.hid (And.intro hSt2 (And.intro hI2 hK2))
    clear hb2 hI2 hK2 HPL
    by_cases hK0 : K = 0
    case pos =>
      have hkz : ((K : Int) == 0) = true := by simp [hK0]
      clear hSt2
      go_wp2
      go_ret2
      exact BeP.whole HOK.out H2.out.2.2 H2.out.2.1 HS1.out.1 HS1.out.2.1 (by omega) HW.out
    case neg =>
      have hkz : ((K : Int) == 0) = false := by simp [hK0]
      obtain ⟨J, hJ⟩ : ∃ J, J = K - 1 := ⟨_, rfl⟩
      have hKl : K ≤ l.length := by rw [HK.out]; exact atN_le l n
      obtain ⟨g, hg⟩ : ∃ g, l[J]? = some g := ⟨_, List.getElem?_eq_getElem (by omega)⟩
      have hgm : g ∈ l := List.mem_of_getElem? hg
      obtain ⟨ao, cp, hvv⟩ := owns_slice hSt2.2
      subst hvv
      have s1 := hSt2.1.cell (i := 1) rfl
      have hRg := hSt2.rs rfl
      obtain ⟨NL, hNL⟩ : ∃ N, N = l.length := ⟨_, rfl⟩
      rw [← hNL] at hRg s1
      obtain ⟨bg, og, rfl, hbg, hcg⟩ := rs_gn hRg (by omega)
      have g0 := (hcg J g hg).1
      have i2 : (J : Int) < (NL : Int) := by omega
      have i3 : (K : Int) - 1 = (J : Int) := by omega
      have i4 : IntKind.i64.wrap ((K : Int) - 1) = (J : Int) := by rw [i3]; exact IntWalk.i64_in _ (by omega)
      have i5 : IntKind.i64.wrap (J : Int) = (J : Int) := IntWalk.i64_in _ (by omega)
      have HGE := Lib.hid (stGens_any w2 ps p base _ l hSt2 (by omega) (fun x hx => Nat.le_trans (HINV.out.each x hx).len (by decide)))
      have hgb := (HINV.out.each g hgm)
      obtain ⟨b, hbe⟩ : ∃ b : Nat, g.gen = b := ⟨g.gen.toNat, by have := hgb.lo; omega⟩
      rw [hbe] at g0
      have hbm : b ≤ 4611686018427387903 := by have := hgb.hi; omega
      have hbn : (b : Int) < n := by rw [← hbe]; exact atN_below (i := J) (by rw [← HK.out]; omega) hg
      have HG := Lib.hid (And.intro hg (And.intro hgm (And.intro hbe (And.intro hbn (And.intro hJ hgb)))))
      have HKN := Lib.hid (And.intro hK0 hNL)
      clear hg hgm hcg hRg hbe hgb hSt2 hJ hNL hKl hK0 hbn
      go_wp2_with fail
      refine HGE.out.mono ?_
      rintro e w3 ⟨v3, rfl, hO3, hb3⟩
      obtain ⟨a3, k3, rfl⟩ := owns_slice hO3
      have hgl := gsG_len l
      obtain ⟨N, hN⟩ : ∃ N, N = (gsG l).length := ⟨_, rfl⟩
      have HRO := Lib.hid (road_any w3 a3 N k3 (gsG l) (b : Int) (RowG.rs (by rw [hN]; exact hO3) hN.symm) (by omega))
      rw [← hN]
      have H3 := Lib.hid (And.intro (H2.out.1.next hb3) (And.intro (H2.out.2.1.next hb3) (kept_bel H2.out.2.2 hb3)))
      have hbw3 : base ≤ w3.heap.size := Nat.le_trans hbw2 hb3.size
      clear hO3 hb3 hN hgl HGE s1 g0
      go_wp2_with fail
      refine HRO.out.mono ?_
      rintro e w4 ⟨v4, rfl, hO4, hb4⟩
      have hinok := HINV.out.ok
      have hchk := ok_chk hinok
      have hbin : (b : Int) ∈ gl (gsG l) := gl_mem.2 ⟨g, HG.out.2.1, HG.out.2.2.1⟩
      have he : roadE (gsG l) (b : Int) = 0 := by unfold roadE; rw [if_neg (by rw [hchk]; simp), if_neg (by simpa using hbin)]
      have hr : roadR (gsG l) (b : Int) = roadL (gsG l) (b : Int) := by unfold roadR; rw [if_pos ⟨hchk, hbin⟩]
      rw [he]
      rw [hr] at hO4
      obtain ⟨a4, k4, hv4⟩ := owns_slice hO4
      obtain ⟨R, hR⟩ : ∃ R, R = (roadL (gsG l) (b : Int)).length := ⟨_, rfl⟩
      rw [← hR] at hv4
      subst hv4
      have H4 := Lib.hid (And.intro (H3.out.1.next hb4) (And.intro (H3.out.2.1.next hb4) (kept_bel H3.out.2.2 hb4)))
      have hbw4 : base ≤ w4.heap.size := Nat.le_trans hbw3 hb4.size
      have HR := Lib.hid hR
      have hhas : hasN l (b : Int) = true := ((HINV.out.up.has_iff _).2 ⟨g, HG.out.2.1, HG.out.2.2.1⟩)
      have HMD := Lib.hid (made_any w4 ps p m base _ S1 l im H4.out.1 H4.out.2.1 HS1.out.2.2.1 (by omega) hm hbw4 hps (b : Int))
      rw [hhas] at HMD
      simp only [if_true] at HMD
      have HHAS := Lib.hid hhas
      clear hO4 hb4 hinok hchk hbin he hr hR hhas HRO
      by_cases hdp : deep ≤ (R : Int)
      case pos =>
        have d1 : decide (deep ≤ (R : Int)) = true := decide_eq_true hdp
        clear hdp
        go_wp2
        go_ret2
        exact BeP.whole HOK.out H4.out.2.2 H4.out.2.1 HS1.out.1 HS1.out.2.1 (by omega) HW.out
      case neg =>
        have d1 : decide (deep ≤ (R : Int)) = false := decide_eq_false hdp
        have HDP := Lib.hid hdp
        clear hdp
        go_wp2_with fail
        refine HMD.out.mono ?_
        rintro e w5 ⟨rfl, hI5, hk5⟩
        have hgI := HG.out.2.2.2.2.2
        have hil : (im (b : Int)).size ≤ 524288 := by rw [← HG.out.2.2.1]; exact hgI.ilen
        have himm : bytesOf (im (b : Int)) ∈ S1 := by rw [← HG.out.2.2.1]; exact (HS1.out.1.mem hgI.mem)
        obtain ⟨old, hold⟩ : ∃ t, t = im (b : Int) := ⟨_, rfl⟩
        rw [← hold] at hil himm
        rw [← hold]
        have HOLD := Lib.hid (And.intro hold himm)
        have hSt5 := H4.out.1.kept hk5 hm hps
        have H5 := Lib.hid (And.intro hSt5 (And.intro hI5 (H4.out.2.2.trans hk5 (fun _ _ h => h))))
        have hbw5 : base ≤ w5.heap.size := Nat.le_trans hbw4 hk5.size
        obtain ⟨B, hB⟩ : ∃ B : Nat, blk (old.size : Int) = B := ⟨(blk (old.size : Int)).toNat, by have := blk_bd (old.size : Int); omega⟩
        have hBb := blk_bd (old.size : Int)
        rw [hB] at hBb
        have HBL : Hid (∀ W, Calls Tryz.prog 51 #[.int .i64 (old.size : Int)] W fun e w' => e = .returned (.int .i64 B) ∧ w' = W) := Lib.hid (fun W => by
          have := block_any W (old.size : Int) (wfI _ (by omega) (by omega))
          rw [hB] at this; exact this)
        obtain ⟨L, hL⟩ : ∃ L, L = stepsI old t B := ⟨_, rfl⟩
        obtain ⟨z, hz⟩ : ∃ z : Int, z = t.size := ⟨_, rfl⟩
        have HOF : Hid (∀ W, Below w5.heap.size w5 W → Calls Tryz.prog 50 #[.pointer (some ⟨p, 0, none⟩), .string old, .string t, .int .i64 B] W (OfS p m S1 old t z L W)) := Lib.hid (fun W hW => by
          rw [hL, hz]
          exact of_s W p m S1 old t B (hI5.next hW) (by omega) (by omega) (by omega) hil (by omega))
        have hst := stepsI_right old t B
        have HPR : Hid (∀ i j, RightP ⟨numS i, numS j, z, L⟩ ∧ runS old L ByteArray.empty = (t, 0) ∧ sentL L ≤ 10000 ∧ L.length ≤ 10000 ∧ ∀ x ∈ L, x.ok) := Lib.hid (fun i j => by
          rw [hL, hz]
          obtain ⟨p1, p2, p3, p4, p5⟩ := hst i j (by omega) hil (by omega)
          exact ⟨p1, p2, Nat.le_trans p3 ht, Nat.le_trans p4 ht, p5⟩)
        have s0 := hSt5.1.cell (i := 0) rfl
        have hpsm : ¬ (some m = some ps) := fun e => by injection e with e; exact hps e.symm
        have hpl : ps < w5.heap.size := hSt5.lt
        have hmw5 : m < w5.heap.size := hI5.2.2.2.2.1.2
        have hpw5 : p < w5.heap.size := hI5.2.2.2.2.1.1
        have wz : (Lit.int .i64 z).wf = true := by rw [hz]; exact wfI _ (by omega) (by omega)
        have HAL : Hid (∀ x : Obj, Below w5.heap.size w5 (w5.drew.alloc x)) := Lib.hid (fun x => (Below.refl _ _).drew.trans ((below_alloc w5.drew x).mono (Nat.le_refl _)))
        have nqp : w5.heap.size ≠ ps := by omega
        clear hold himm hk5 hI5 hSt5 hB hL hz hst hgI HMD hil
        go_upto_region 14 with fail
        go_region_held3 (fun w' => w'.cell? ⟨ps, 0, none⟩ = some (.pointer (some ⟨p, 0, none⟩)))
          (first | exact s0 | go_keep)
          (first
            | (go_at_call 51; refine (HBL.out _).mono ?_; rintro e w6 ⟨rfl, rfl⟩)
            | (go_at_call 50; refine (HOF.out w5.drew (bl_drew (Below.refl _ _))).mono ?_; rintro e w6 ⟨a6, n6, k6, M1, M2, S', rfl, HX, hk6⟩; replace s0 := (hk6.cell (i := 0) (by exact hpl) hpsm).trans s0)
            | (go_at_call 50; refine (HOF.out (w5.drew.alloc _) (HAL.out _)).mono ?_; rintro e w6 ⟨a6, n6, k6, M1, M2, S', rfl, HX, hk6⟩; replace s0 := (hk6.cell (i := 0) (by exact Nat.lt_of_lt_of_le hpl (HAL.out _).size) hpsm).trans (((HAL.out _).cell (p := ⟨ps, 0, none⟩) hpl).trans s0); have hQ5 : Blk w6 w5.heap.size [.string ByteArray.empty, .string ByteArray.empty, .int .i64 0, .slice none 0 0] 55 := blkKept (Blk.new w5.drew [.string ByteArray.empty, .string ByteArray.empty, .int .i64 0, .slice none 0 0] 55) hk6 (fun e => by injection e with e; have e2 : m = w5.heap.size := e; omega); have u0 := hQ5.cell (i := 0) rfl; have u1 := hQ5.cell (i := 1) rfl; have u2 := hQ5.cell (i := 2) rfl; have u3 := hQ5.cell (i := 3) rfl; have v0 := hQ5.frozen 0; have v1 := hQ5.frozen 1; have v2 := hQ5.frozen 2; have v3 := hQ5.frozen 3))
        all_goals (first
          | (obtain ⟨Y, hY⟩ : ∃ Y, Y = w6.alloc (Obj.cells #[.string M1, .string M2, .int .i64 z, .slice a6 n6 k6] 55) := ⟨_, rfl⟩
             obtain ⟨q, hq⟩ : ∃ q, q = w6.heap.size := ⟨_, rfl⟩
             rw [← hY, ← hq]
             have HD : Hid (DlAt w5 Y p m S' q M1 M2 z a6 n6 k6 L) := Lib.hid (by rw [hY, hq]; exact DlAt.of_alloc hk6 HX.out.2.2.2.1 HX.out.2.2.1 HX.out.2.2.2.2.1))
          | (obtain ⟨Y, hY⟩ : ∃ Y, Y = (((w6.setCell ⟨w5.heap.size, 0, none⟩ (.string M1)).setCell ⟨w5.heap.size, 1, none⟩ (.string M2)).setCell ⟨w5.heap.size, 2, none⟩ (.int .i64 z)).setCell ⟨w5.heap.size, 3, none⟩ (.slice a6 n6 k6) := ⟨_, rfl⟩
             obtain ⟨q, hq⟩ : ∃ q, q = w5.heap.size := ⟨_, rfl⟩
             rw [← hY, ← hq]
             have HD : Hid (DlAt w5 Y p m S' q M1 M2 z a6 n6 k6 L) := Lib.hid (by rw [hY, hq]; exact DlAt.of_store (HAL.out _) hk6 hQ5 HX.out.2.2.2.1 (by simp) HX.out.2.2.1 HX.out.2.2.2.2.1 hpw5 hmw5)
             clear hQ5 u0 u1 u2 u3 v0 v1 v2 v3))
        all_goals (
          rename_i hHeld0
          have HM : Hid (M1 = mkI S' old ∧ M2 = mkI S' t ∧ bytesOf old ∈ S' ∧ bytesOf t ∈ S' ∧ Ext S1 S' ∧ S'.length ≤ S1.length + 3000000) := Lib.hid ⟨HX.out.1, HX.out.2.1, HX.out.2.2.2.2.2.1, HX.out.2.2.2.2.2.2.1, HX.out.2.2.2.2.2.2.2.1, HX.out.2.2.2.2.2.2.2.2⟩
          obtain ⟨hp1, hp2, hp3, hp4, hp5⟩ := HPR.out (S'.idxOf (bytesOf old) + 1) (S'.idxOf (bytesOf t) + 1)
          have hdd : (⟨numS (S'.idxOf (bytesOf old) + 1), numS (S'.idxOf (bytesOf t) + 1), z, L⟩ : Dl) = ⟨M1, M2, z, L⟩ := by rw [HM.out.1, HM.out.2.1]; rfl
          rw [hdd] at hp1
          obtain ⟨BY, hBY⟩ : ∃ BY : ByteArray, BY = ⟨(bytesD ⟨M1, M2, z, L⟩).toArray⟩ := ⟨_, rfl⟩
          have hBl : BY.size ≤ 1000000 ∧ 64 ≤ BY.size := by
            have h1 := bytesD_len hp1 (k := 10000) hp4 hp3
            have h2 : BY.size = (bytesD ⟨M1, M2, z, L⟩).length := by rw [hBY]; simp [ByteArray.size]
            omega
          have hRDB : readD BY.data.toList = (⟨M1, M2, z, L⟩, 0) := by rw [hBY]; exact readD_back _ hp1
          have HBYT : Hid (Calls Tryz.prog 23 #[.agg #[.string M1, .string M2, .int .i64 z, .slice a6 n6 k6]] Y fun e w' => e = .returned (.tuple #[.string BY, .int .i64 (0 : Nat)]) ∧ Below Y.heap.size Y w') := Lib.hid (by
            have h1 := dlBytes_any Y M1 M2 z a6 n6 k6 L wz (by rw [hp1.1]; decide) (by have := hp1.2.1; unfold maxLen; simp only at this; omega) HD.out.2.1 hp5
            rw [bytesR_yes hp1, ← hBY] at h1
            exact h1)
          have HPP := Lib.hid (And.intro hp1 (And.intro hp2 (And.intro hBl (And.intro hRDB hBY))))
          have q0 := HD.out.1.cell (i := 0) rfl
          have q1 := HD.out.1.cell (i := 1) rfl
          have q2 := HD.out.1.cell (i := 2) rfl
          have q3 := HD.out.1.cell (i := 3) rfl
          clear hHeld0 hp1 hp2 hp3 hp4 hp5 hdd hBY hBl hRDB hY hq s0 HX hk6 HPR HOF HBL HAL
          go_wp2_with fail
          refine HBYT.out.mono ?_
          rintro e w7 ⟨rfl, hb7⟩
          have HPT : Hid (Calls Tryz.prog 24 #[.pointer (some ⟨ps, 0, none⟩), .int .i64 n, .int .i64 b, .string BY] w7 (PtP l n b BY w7)) := Lib.hid (stPartly_any w7 ps p base _ l ((H5.out.1.kept HD.out.2.2.2 hm hps).next hb7) (by omega) n b wn (wfI _ (by omega) (by omega)) BY HPP.out.2.2.1.1)
          have H7 : Hid (BookI w7 p m S' ∧ Kept (fun k => some m = some k) w w7) := Lib.hid ⟨HD.out.2.2.1.next hb7, kept_bel (H5.out.2.2.trans HD.out.2.2.2 (fun _ _ h => h)) hb7⟩
          clear hb7 q0 q1 q2 q3 HBYT
          go_wp2_with fail
          refine HPT.out.mono ?_
          rintro e w8 ⟨hb8, hP⟩
          have hgI := HG.out.2.2.2.2.2
          have hmk : markN l (b : Int) = M1 := by
            have h1 := at_of HINV.out.up HG.out.2.1
            rw [HG.out.2.2.1] at h1
            rw [markN_at h1 HG.out.2.2.1, hgI.mark, HG.out.2.2.1, ← HOLD.out.1, HM.out.1]
            have hmS : bytesOf old ∈ S := by
              have h2 := hgI.mem
              rw [HG.out.2.2.1, ← HOLD.out.1] at h2; exact h2
            rw [mkI_ext HM.out.2.2.2.2.1 HOLD.out.2, mkI_ext HS1.out.1 hmS]
          have hrd := HPP.out.2.2.2.1
          have hok3 : NumOk n ∧ 0 ≤ (b : Int) ∧ (b : Int) < n := ⟨HOK.out, by omega, HG.out.2.2.2.1⟩
          have he : e = .returned (.tuple #[.string (recD n.toNat b M2 BY), .int .i64 0]) := by
            rcases hP with ⟨h1, _⟩ | ⟨_, h1, _⟩ | ⟨_, _, h1, _⟩ | ⟨_, _, _, h1, _⟩ | ⟨_, _, _, _, h1⟩
            · exact absurd hok3 h1
            · rw [hrd] at h1; exact absurd rfl h1
            · rw [HHAS.out] at h1; cases h1
            · rw [hrd] at h1; exact absurd hmk h1
            · rw [hrd] at h1; exact h1
          subst he
          have hE8 : Ext S S' := HS1.out.1.trans HM.out.2.2.2.2.1
          obtain ⟨rec, hrec⟩ : ∃ rec, rec = recD n.toNat b M2 BY := ⟨_, rfl⟩
          rw [← hrec]
          have HREC := Lib.hid hrec
          have H8 : Hid (BookI w8 p m S' ∧ Kept (fun k => some m = some k) w w8) := Lib.hid ⟨H7.out.1.next hb8, kept_bel H7.out.2 hb8⟩
          have HE8 := Lib.hid hE8
          have hrs : rec.size ≤ 2000000 := by
            rw [hrec]
            unfold recD
            simp only [ByteArray.size_append]
            have h1 := numL_le9 n.toNat (by have := HOK.out.2; omega)
            have h2 : (numBs n.toNat).size = (numL n.toNat).length := numBs_size _
            have h3 := numL_le9 b (by omega)
            have h4 : (numBs b).size = (numL b).length := numBs_size _
            have h5 : M2.size = 32 := HPP.out.1.2.1
            have h6 : (⟨#[68]⟩ : ByteArray).size = 1 := rfl
            have h7 := HPP.out.2.2.1.1
            omega
          have HWW : Hid (wh = recW n.toNat (mkI S' t) t) := Lib.hid (by rw [HW.out, mkI_ext HM.out.2.2.2.2.1 HS1.out.2.1])
          have HL8 : Hid (S'.length ≤ S.length + 3000010) := Lib.hid (by have := HM.out.2.2.2.2.2; omega)
          clear hb8 hP hgI hmk hrd hok3 hE8 hrec HPT
          by_cases hge : wh.size ≤ rec.size
          case pos =>
            have d2 : decide ((wh.size : Int) ≤ (rec.size : Int)) = true := decide_eq_true (by omega)
            have d3 : decide (wh.size ≤ rec.size) = true := decide_eq_true hge
            clear hge
            go_wp2
            go_ret2
            exact BeP.whole HOK.out H8.out.2 H8.out.1 HE8.out HM.out.2.2.2.1 HL8.out HWW.out
          case neg =>
            have d2 : decide ((wh.size : Int) ≤ (rec.size : Int)) = false := decide_eq_false (by omega)
            have d3 : decide (wh.size ≤ rec.size) = false := decide_eq_false hge
            have HLT : Hid (rec.size < wh.size) := Lib.hid (by omega)
            clear hge
            go_wp2
            go_ret2
            refine ⟨H8.out.2, .inr ⟨HOK.out, S', rec, rfl, H8.out.1, HE8.out, HM.out.2.2.2.1, HL8.out, .inr ⟨g, ⟨M1, M2, z, L⟩, ?_, ?_, ?_, ?_, ?_, ?_, ?_⟩⟩⟩
            · rw [← HK.out, ← HG.out.2.2.2.2.1]; exact HG.out.1
            · rw [← HK.out]; exact Nat.pos_of_ne_zero HKN.out.1
            · rw [HREC.out, HG.out.2.2.1, ← HPP.out.2.2.2.2]; rfl
            · rw [← HPP.out.2.2.2.1, HPP.out.2.2.2.2]
            · rw [HG.out.2.2.1, ← HOLD.out.1]
              exact ⟨HPP.out.1, HM.out.1, HPP.out.2.1, HM.out.2.1⟩
            · rw [HG.out.2.2.1, ← HR.out]; have := HDP.out; omega
            · rw [← HWW.out]; exact HLT.out)
end Go.Proofs.YtgkcnocfijckoaaGreat
namespace Go.Proofs.YtgkcnocfijckoaaGreat
open Go.RowKit Sg
set_option linter.unusedVariables false
set_option linter.unusedSimpArgs false
theorem stNew_any (w : World) (po : Option Addr) :
    Calls Tryz.prog 32 #[.pointer po] w fun e w' => e = .returned (.pointer (some ⟨w.heap.size, 0, none⟩)) ∧ Blk w' w.heap.size [.pointer po, .slice none 0 0] 88 ∧ Below w.heap.size w w' := by
  obtain ⟨V, hV⟩ : ∃ V, V = w.alloc (Obj.cells #[.pointer po, .slice none 0 0] 88) := ⟨_, rfl⟩
  have HF : Hid (Blk V w.heap.size [.pointer po, .slice none 0 0] 88 ∧ Below w.heap.size w V) := Lib.hid ⟨by rw [hV]; exact Blk.new _ _ _, by rw [hV]; exact below_alloc _ _⟩
  have HV := Lib.hid hV
  clear hV
  go_enter Tryz.func32, Tryz.ntmps32
  go_wp2
  rw [← HV.out]
  go_ret
  exact ⟨rfl, HF.out.1, HF.out.2⟩
def hangP (n : Int) (g : Gn) : Bool := g.basis == n && g.gen != n
set_option maxRecDepth 100000 in
set_option maxHeartbeats 1000000 in
theorem hang1_any (w : World) (q : Nat) (n : Int) (g : Gn) (hq : w.cell? ⟨q, 0, none⟩ = some (.int .i64 n)) :
    Calls Tryz.prog 93 #[.agg #[.int .i64 g.gen, .int .i64 g.basis, .string g.mark, .string g.text], .pointer (some ⟨q, 0, none⟩)] w fun e w' => e = .returned (.bool (hangP n g)) ∧ Below w.heap.size w w' := by
  obtain ⟨V, hV⟩ : ∃ V, V = w.alloc (Obj.cells #[.int .i64 g.gen, .int .i64 g.basis, .string g.mark, .string g.text] 92) := ⟨_, rfl⟩
  obtain ⟨r, hr⟩ : ∃ r, r = w.heap.size := ⟨_, rfl⟩
  have hB : Blk V r [.int .i64 g.gen, .int .i64 g.basis, .string g.mark, .string g.text] 92 := by rw [hV, hr]; exact Blk.new _ _ _
  have hbV : Below w.heap.size w V := by rw [hV]; exact below_alloc _ _
  have c0 := hB.cell (i := 0) rfl
  have c1 := hB.cell (i := 1) rfl
  have c2 := (hbV.cell (p := ⟨q, 0, none⟩) (World.block_lt_of_cell? _ _ hq)).trans hq
  have HV := Lib.hid (And.intro hV hr)
  have HB := Lib.hid hbV
  obtain ⟨R, hR⟩ : ∃ R, R = hangP n g := ⟨_, rfl⟩
  rw [← hR]
  have HR := Lib.hid hR
  clear hV hr hB hbV hq hR
  go_enter Tryz.func93, Tryz.ntmps93
  go_upto_region 1 with fail
  rw [← HV.out.1, ← HV.out.2]
  by_cases h1 : g.basis = n
  case pos =>
    have e1 : (g.basis == n) = true := by simpa using h1
    by_cases h2 : g.gen = n
    case pos =>
      have e2 : (g.gen != n) = false := by simpa using h2
      have hRf : R = false := by rw [HR.out]; unfold hangP; rw [e1, e2]; rfl
      subst hRf
      clear h1 h2
      go_wp2
      go_ret
      exact ⟨rfl, HB.out⟩
    case neg =>
      have e2 : (g.gen != n) = true := by simpa using h2
      have hRf : R = true := by rw [HR.out]; unfold hangP; rw [e1, e2]; rfl
      subst hRf
      clear h1 h2
      go_wp2
      go_ret
      exact ⟨rfl, HB.out⟩
  case neg =>
    have e1 : (g.basis == n) = false := by simpa using h1
    have hRf : R = false := by rw [HR.out]; unfold hangP; rw [e1]; rfl
    subst hRf
    clear h1
    go_wp2
    go_ret
    exact ⟨rfl, HB.out⟩
set_option maxRecDepth 100000 in
set_option maxHeartbeats 2000000 in
theorem index_any (w : World) (q : Nat) (n : Int) (ao : Option Addr) (N cp : Nat) (l : List Gn) (hR : Rs w ao N cp 4 l Gn.c) (hl : N ≤ 100000) (hq : w.cell? ⟨q, 0, none⟩ = some (.int .i64 n)) :
    Calls Tryz.prog 96 #[.slice ao N cp, .func (.func 93) #[] #[.pointer (some ⟨q, 0, none⟩)]] w fun e w' => ∃ i : Int, e = .returned (.int .i64 i) ∧ decide (0 ≤ i) = hangsN l n ∧ Below w.heap.size w w' := by
  have hgz := gnZ_run
  have hlen : l.length = N := hR.2.2.1
  have HN := Lib.hid hlen
  have HR := Lib.hid hR
  have HQ := Lib.hid hq
  obtain ⟨X, hX⟩ : ∃ X, X = hangsN l n := ⟨_, rfl⟩
  rw [← hX]
  have HX := Lib.hid hX
  clear hlen hR hq hX
  go_enter Tryz.func96, Tryz.ntmps96
  go_wp2_with fail
  go_loopw [8] (fun i wr => ∃ k : Nat, i = .int .i64 k ∧ k ≤ N ∧ Hid ((l.take k).any (hangP n) = false) ∧ Below w.heap.size w wr) (fun i _ => N - (intOf i).toNat)
  case atStart => exact ⟨0, by go_num, Nat.zero_le _, Lib.hid (by simp), Below.refl _ _⟩
  case round =>
    obtain ⟨k, rfl, hk, hA, hB⟩ := hrel
    have hS := hB.size
    by_cases hlt : k < N
    case pos =>
      obtain ⟨g, hg⟩ : ∃ g, l[k]? = some g := ⟨_, List.getElem?_eq_getElem (by rw [HN.out]; exact hlt)⟩
      obtain ⟨b, off, rfl, hb, hc⟩ := rs_gn (HR.out.below hB (Nat.le_refl _)) (by omega)
      obtain ⟨c0, c1, c2, c3⟩ := hc k g hg
      have i1 : (k : Int) < (N : Int) := by omega
      have HC := Lib.hid (hang1_any wr q n g ((hB.cell (p := ⟨q, 0, none⟩) (World.block_lt_of_cell? _ _ HQ.out)).trans HQ.out))
      have HG := Lib.hid hg
      obtain ⟨Y, hY⟩ : ∃ Y, Y = hangP n g := ⟨_, rfl⟩
      rw [← hY] at HC
      have HY := Lib.hid hY
      clear hc hg hY
      go_wp2_with fail
      refine HC.out.mono ?_
      rintro e w2 ⟨rfl, hb2⟩
      have HB2 : Hid (Below w.heap.size w w2) := Lib.hid (hB.trans (hb2.mono hB.size))
      clear hb2 hB c0 c1 c2 c3
      cases Y
      case true =>
        have HT : Hid (X = true) := Lib.hid (by
          rw [HX.out]
          unfold hangsN
          rw [List.any_eq_true]
          exact ⟨g, List.mem_of_getElem? HG.out, HY.out.symm⟩)
        go_wp2
        go_ret
        exact ⟨k, rfl, by rw [HT.out]; exact decide_eq_true (by omega), HB2.out⟩
      case false =>
        go_wp2
        go_roundw
        case rel =>
          refine ⟨k + 1, by go_num, by omega, Lib.hid ?_, HB2.out⟩
          rw [List.take_add_one, HG.out, List.any_append, hA.out]
          simp [← HY.out]
        case measure => simp [intOf]; omega
    case neg =>
      have i1 : ¬ (k : Int) < (N : Int) := by omega
      have HT : Hid (X = false) := Lib.hid (by
        rw [HX.out]
        have h1 := hA.out
        rw [List.take_of_length_le (by rw [HN.out]; omega)] at h1
        exact h1)
      have HB2 := Lib.hid hB
      clear hA hB
      go_wp2
      go_ret
      exact ⟨-1, rfl, by rw [HT.out]; decide, HB2.out⟩
set_option maxRecDepth 100000 in
set_option maxHeartbeats 1000000 in
theorem contains_any (w : World) (q : Nat) (n : Int) (ao : Option Addr) (N cp : Nat) (l : List Gn) (hR : Rs w ao N cp 4 l Gn.c) (hl : N ≤ 100000) (hq : w.cell? ⟨q, 0, none⟩ = some (.int .i64 n)) :
    Calls Tryz.prog 92 #[.slice ao N cp, .func (.func 93) #[] #[.pointer (some ⟨q, 0, none⟩)]] w fun e w' => e = .returned (.bool (hangsN l n)) ∧ Below w.heap.size w w' := by
  have HI := Lib.hid (index_any w q n ao N cp l hR hl hq)
  obtain ⟨X, hX⟩ : ∃ X, X = hangsN l n := ⟨_, rfl⟩
  rw [← hX] at HI
  rw [← hX]
  clear hX hR hq
  go_enter Tryz.func92, Tryz.ntmps92
  go_wp2_with fail
  refine HI.out.mono ?_
  rintro e w2 ⟨i, rfl, hi, hb⟩
  have HB := Lib.hid hb
  clear hb
  go_wp2
  go_ret
  exact ⟨by first | rfl | simp [hi], HB.out⟩
set_option maxRecDepth 100000 in
set_option maxHeartbeats 1000000 in
theorem stHangs_any (w : World) (ps p base : Nat) (v : Value) (l : List Gn) (h : StB w ps p base v l) (hl : l.length ≤ 100000) (n : Int) :
    Calls Tryz.prog 70 #[.pointer (some ⟨ps, 0, none⟩), .int .i64 n] w fun e w' => e = .returned (.bool (hangsN l n)) ∧ Below w.heap.size w w' := by
  obtain ⟨V, hV⟩ : ∃ V, V = w.alloc (Obj.cells #[.int .i64 n] 3) := ⟨_, rfl⟩
  obtain ⟨q, hq⟩ : ∃ q, q = w.heap.size := ⟨_, rfl⟩
  have hB : Blk V q [.int .i64 n] 3 := by rw [hV, hq]; exact Blk.new _ _ _
  have hbV : Below w.heap.size w V := by rw [hV]; exact below_alloc _ _
  have hSt := h.next hbV
  obtain ⟨ao, cp, rfl⟩ := owns_slice h.2
  have c0 := hB.cell (i := 0) rfl
  have s1 := hSt.1.cell (i := 1) rfl
  have hR := hSt.rs rfl
  have HC := Lib.hid (contains_any V q n ao l.length cp l hR hl c0)
  obtain ⟨X, hX⟩ : ∃ X, X = hangsN l n := ⟨_, rfl⟩
  rw [← hX] at HC
  rw [← hX]
  obtain ⟨N, hN⟩ : ∃ N, N = l.length := ⟨_, rfl⟩
  rw [← hN] at HC s1
  have HV := Lib.hid (And.intro hV hq)
  have HB := Lib.hid hbV
  clear hX hV hq hB hbV hSt hR h hN hl
  go_enter Tryz.func70, Tryz.ntmps70
  go_upto_region 1 with fail
  rw [← HV.out.1, ← HV.out.2]
  go_wp2_with fail
  refine HC.out.mono ?_
  rintro e w2 ⟨rfl, hb⟩
  have HB2 := Lib.hid (bl_nx HB.out hb)
  clear hb
  go_wp2
  go_ret
  exact ⟨rfl, HB2.out⟩
end Go.Proofs.YtgkcnocfijckoaaGreat
