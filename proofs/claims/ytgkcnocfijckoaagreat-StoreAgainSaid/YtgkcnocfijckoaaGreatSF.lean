/- The store's Do: whatever record is handed in. Conditions: as named in each theorem. -/
import Derived.Test.YtgkcnocfijckoaaGreatSD
import Derived.Test.YtgkcnocfijckoaaGreatSE
import Derived.Test.YtgkcnocfijckoaaGreatQC
import Derived.Test.YtgkcnocfijckoaaGreatQA
import Derived.Maps.AppendAt
import Derived.Deep.RegionHeld3
import Derived.Test.YtgkcnocfijckoaaGreatSB
namespace Go.Proofs.YtgkcnocfijckoaaGreat
open Go.RowKit Sg
set_option linter.unusedVariables false
set_option linter.unusedSimpArgs false
/-- what Do may touch -/
def TouchS (ps m : Nat) (v : Value) (k : Nat) : Prop := k = ps ∨ k = m ∨ v.ownBlock = some k
theorem DoP.up {ps p m base pr : Nat} {v : Value} {z : DoT} {w w1 w' : World} {e : Ending} (h : DoP ps p m base v (TouchD ps m pr v) z w1 e w') (hb : Below w.heap.size w w1) (hpr : w.heap.size ≤ pr) : DoP ps p m base v (TouchS ps m v) z w e w' := by
  obtain ⟨h1, v', h2, h3, h4, h5⟩ := h
  refine ⟨h1, v', h2, h3, ?_, ?_⟩
  · exact (Kept.of_below (TouchS ps m v) hb).trans h4 (fun k hk e => by
      rcases e with e | e | e | e
      · exact .inl e
      · exact .inr (.inl e)
      · omega
      · exact .inr (.inr e))
  · rcases h5 with e | ⟨k, e, hk⟩
    · exact .inl e
    · exact .inr ⟨k, e, Nat.le_trans hb.size hk⟩
theorem bytes_cons {s : ByteArray} (h : ¬ s.size = 0) : ∃ c r, s.data.toList = c :: r ∧ s.size = r.length + 1 ∧ s.extract 1 s.size = mkB r ∧ s.toList.isEmpty = false ∧ ∃ h, s[0]'h = c := by
  have hl : s.data.toList.length = s.size := Array.length_toList
  cases hcr : s.data.toList with
  | nil => rw [hcr] at hl; exact absurd hl.symm h
  | cons c r =>
    rw [hcr] at hl
    have hsz : s.size = r.length + 1 := hl.symm
    refine ⟨c, r, rfl, hsz, ?_, by rw [ByteArray.toList_eq, hcr]; rfl, by omega, ?_⟩
    · have h1 := extract_mk s 1 r.length (by omega)
      rw [hcr] at h1
      rw [hsz, Nat.add_comm, h1, List.drop_succ_cons, List.drop_zero, List.take_of_length_le (Nat.le_refl _)]
    · have h1 : s.data.toList[0]? = some c := by rw [hcr]; rfl
      have h2 : s.data[0]? = some c := by rw [← h1, Array.getElem?_toList]
      obtain ⟨_, h3⟩ := Array.getElem?_eq_some_iff.1 h2
      exact h3
set_option maxRecDepth 100000 in
set_option maxHeartbeats 4000000 in
theorem stDo_any (w : World) (ps p m base : Nat) (v : Value) (S : Bk) (l : List Gn) (im : Int → ByteArray) (s : ByteArray) (h : StB w ps p base v l) (hI : BookI w p m S) (hinv : Inv S l im) (hS : S.length ≤ 90000000) (hs : s.size ≤ 1000000) (bs : p < base ∧ m < base ∧ ps < base ∧ base ≤ w.heap.size) (ne : ps ≠ p ∧ ps ≠ m) :
    Calls Tryz.prog 13 #[.pointer (some ⟨ps, 0, none⟩), .string s] w (DoP ps p m base v (TouchS ps m v) (doS S l im s.data.toList) w) := by
  have HNO := Lib.hid (none_any w ps p base v l h)
  obtain ⟨D, hD⟩ : ∃ D, D = doS S l im s.data.toList := ⟨_, rfl⟩
  rw [← hD]
  obtain ⟨Q, hQ⟩ : ∃ Q : Ending → World → Prop, Q = DoP ps p m base v (TouchS ps m v) D w := ⟨_, rfl⟩
  rw [← hQ]
  have HD := Lib.hid hD
  have HQ := Lib.hid hQ
  have HST := Lib.hid h
  have HI := Lib.hid hI
  have HINV := Lib.hid hinv
  have HBS := Lib.hid bs
  have HNE := Lib.hid ne
  clear h hI hinv bs ne hD hQ
  go_enter Tryz.func13, Tryz.ntmps13
  go_wp2_with fail
  refine HNO.out.mono ?_
  rintro e w' ⟨rfl, rfl⟩
  by_cases h0 : s.size = 0
  case pos =>
    have hse : s = ByteArray.empty := ByteArray.ext (Array.eq_empty_of_size_eq_zero h0)
    subst hse
    have HF : Hid (Q (.returned (.int .i64 3)) w) := Lib.hid (by
      rw [HQ.out, HD.out]
      exact ⟨rfl, v, HST.out, HI.out, Kept.refl _ _, .inl rfl⟩)
    clear h0
    go_wp2
    exact HF.out
  obtain ⟨c, r, hcr, hsz, hext, hne, hlt0, hs0⟩ := bytes_cons h0
  have i1 : (1 : Int) ≤ (s.size : Int) := by omega
  have i2 : (0 : Int) < (s.size : Int) := by omega
  have HRE := Lib.hid (read_any w (mkB r))
  have HCR := Lib.hid hcr
  have HSZ := Lib.hid hsz
  have hr1m : r.length ≤ 1000000 := by omega
  clear hcr hsz
  go_wp2_with fail
  refine HRE.out.mono ?_
  rintro e w1 ⟨rfl, hr1, hb1⟩
  obtain ⟨pr, hpr⟩ : ∃ q, q = w.heap.size := ⟨_, rfl⟩
  rw [← hpr] at hr1
  rw [← hpr]
  rw [mkB_list] at hr1
  have HA1 : Hid (StA w1 w1 ps p m base pr v S l (mkB r) (r, 0)) := Lib.hid (by
    have h1 := HST.out.lt
    have h2 := HI.out.2.2.2.2.1
    have h3 : ∀ k, v.ownBlock = some k → k < w.heap.size := fun k e => (World.ownsRow.lt HST.out.2 k e).2
    have h4 := HBS.out
    exact StA.new (HST.out.next hb1) (HI.out.next hb1) hr1 ⟨by omega, by omega, by omega, fun e => by have := h3 _ e; omega, HNE.out.1, HNE.out.2⟩ ⟨h4.1, h4.2.1, h4.2.2.1, Nat.le_trans h4.2.2.2 hb1.size⟩)
  have HB1 := Lib.hid (And.intro hb1 (show w.heap.size ≤ pr by omega))
  have hrs : (mkB r).size ≤ 1000000 := by show (mkB r).data.size ≤ 1000000; unfold mkB; simpa using hr1m
  have hll := HINV.out.len
  clear hr1 hb1 hpr HRE HNO
  go_upto_region 7 with fail
  by_cases h87 : c = 87
  case pos =>
    have e87 : ((c.toNat : Int) == 87) = true := by rw [h87]; rfl
    have HC := Lib.hid (stDoW_any w1 ps p m base pr v S l im (mkB r) (r, 0) HA1.out hll hS hrs)
    have HDD : Hid (D = doW S l im (r, 0)) := Lib.hid (by rw [HD.out, HCR.out]; show (if c = 87 then _ else _) = _; rw [if_pos h87])
    rw [← HDD.out] at HC
    clear h87
    go_wp2_with fail
    refine HC.out.mono ?_
    rintro e w2 hP
    obtain ⟨v2, rfl⟩ : ∃ v, e = .returned (.int .i64 v) := ⟨_, hP.1⟩
    have HF : Hid (Q (.returned (.int .i64 v2)) w2) := Lib.hid (by rw [HQ.out]; exact hP.up HB1.out.1 HB1.out.2)
    clear hP
    go_wp2
    exact HF.out
  have e87 : ((c.toNat : Int) == 87) = false := by
    rw [beq_eq_false_iff_ne]; intro e; apply h87; apply UInt8.toNat_inj.1; show c.toNat = 87; omega
  by_cases h68 : c = 68
  case pos =>
    have e68 : ((c.toNat : Int) == 68) = true := by rw [h68]; rfl
    have HC := Lib.hid (stDoD_any w1 ps p m base pr v S l im (mkB r) (r, 0) HA1.out HINV.out hS hrs)
    have HDD : Hid (D = doD S l im (r, 0)) := Lib.hid (by rw [HD.out, HCR.out]; show (if c = 87 then _ else if c = 68 then _ else _) = _; rw [if_neg h87, if_pos h68])
    rw [← HDD.out] at HC
    clear h68 h87
    go_wp2_with fail
    refine HC.out.mono ?_
    rintro e w2 hP
    obtain ⟨v2, rfl⟩ : ∃ v, e = .returned (.int .i64 v) := ⟨_, hP.1⟩
    have HF : Hid (Q (.returned (.int .i64 v2)) w2) := Lib.hid (by rw [HQ.out]; exact hP.up HB1.out.1 HB1.out.2)
    clear hP
    go_wp2
    exact HF.out
  have e68 : ((c.toNat : Int) == 68) = false := by
    rw [beq_eq_false_iff_ne]; intro e; apply h68; apply UInt8.toNat_inj.1; show c.toNat = 68; omega
  by_cases h71 : c = 71
  case pos =>
    have e71 : ((c.toNat : Int) == 71) = true := by rw [h71]; rfl
    have HC := Lib.hid (stDoG_any w1 ps p m base pr v S l im (mkB r) (r, 0) HA1.out hll hrs)
    have HDD : Hid (D = doG S l im (r, 0)) := Lib.hid (by rw [HD.out, HCR.out]; show (if c = 87 then _ else if c = 68 then _ else if c = 71 then _ else _) = _; rw [if_neg h87, if_neg h68, if_pos h71])
    rw [← HDD.out] at HC
    clear h68 h87 h71
    go_wp2_with fail
    refine HC.out.mono ?_
    rintro e w2 hP
    obtain ⟨v2, rfl⟩ : ∃ v, e = .returned (.int .i64 v) := ⟨_, hP.1⟩
    have HF : Hid (Q (.returned (.int .i64 v2)) w2) := Lib.hid (by rw [HQ.out]; exact hP.up HB1.out.1 HB1.out.2)
    clear hP
    go_wp2
    exact HF.out
  have e71 : ((c.toNat : Int) == 71) = false := by
    rw [beq_eq_false_iff_ne]; intro e; apply h71; apply UInt8.toNat_inj.1; show c.toNat = 71; omega
  have HF : Hid (Q (.returned (.int .i64 5)) w1) := Lib.hid (by
    rw [HQ.out]
    have hDD : D = (5, l, im, S) := by
      rw [HD.out, HCR.out]; show (if c = 87 then _ else if c = 68 then _ else if c = 71 then _ else _) = _; rw [if_neg h87, if_neg h68, if_neg h71]
    exact (HA1.out.out (z := D) (im := im) (e := 5) hDD).up HB1.out.1 HB1.out.2)
  clear h68 h87 h71
  go_wp2
  exact HF.out
end Go.Proofs.YtgkcnocfijckoaaGreat
namespace Go.Proofs.YtgkcnocfijckoaaGreat
open Go.RowKit Sg
set_option linter.unusedVariables false
set_option linter.unusedSimpArgs false
theorem baEq {a b : ByteArray} (h : a.data.toList = b.data.toList) : a = b := ByteArray.ext (Array.ext' h)
theorem beqS_iff {a b : ByteArray} : (a.toList == b.toList) = true ↔ a = b := by
  rw [ByteArray.toList_eq, ByteArray.toList_eq, beq_iff_eq]
  exact ⟨baEq, fun h => by rw [h]⟩
theorem applyI_inv {S : Bk} {b : ByteArray} {d : Dl} (h : (applyI S b d).2 = 0) (hm : bytesOf b ∈ S) :
    AppOk (applyB S b d) b d (applyI S b d).1 ∧ bytesOf (applyI S b d).1 ∈ applyB S b d ∧ Ext S (applyB S b d) ∧ (applyB S b d).length ≤ S.length + 2 ∧ (applyI S b d).1.size ≤ 524288 := by
  by_cases h0 : rightI d = true
  case neg =>
    have := (applyI_no (S := S) (b := b) (d := d) (by simpa using h0)).1
    rw [this] at h; cases h
  by_cases h1 : ((mkI S b).toList == d.basis.toList) = true
  case neg =>
    have := (applyI_basis (S := S) (b := b) (d := d) h0 (by simpa using h1)).1
    rw [this] at h; cases h
  by_cases h2 : (runS b d.steps ByteArray.empty).2 = 0
  case neg =>
    have := (applyI_run (S := S) (b := b) (d := d) h0 h1 h2).1
    rw [this] at h; exact absurd h h2
  by_cases h3 : ((mkI (addS S (bytesOf b)) (runS b d.steps ByteArray.empty).1).toList == d.mark.toList) = true
  case neg =>
    have := (applyI_sum (S := S) (b := b) (d := d) h0 h1 h2 (by simpa using h3)).1
    rw [this] at h; cases h
  obtain ⟨e1, e2⟩ := applyI_ok (S := S) (b := b) (d := d) h0 h1 h2 h3
  rw [e1, e2, addS_mem hm]
  rw [addS_mem hm] at h3
  have hE : Ext S (addS S (bytesOf (runS b d.steps ByteArray.empty).1)) := (Ext.refl S).add _
  refine ⟨⟨rightI_iff.1 h0, ?_, ?_, ?_⟩, ?_, hE, Nat.le_trans (addS_len _ _) (by omega), ?_⟩
  · rw [mkI_ext hE hm]; exact (beqS_iff.1 h1).symm
  · exact Prod.ext rfl h2
  · rw [← beqS_iff.1 h3]
    unfold mkI
    congr 2
    by_cases hin : bytesOf (runS b d.steps ByteArray.empty).1 ∈ S
    · rw [addS_mem hin]
    · unfold addS; rw [if_neg hin, List.idxOf_append, if_neg hin, List.idxOf_cons_self, List.idxOf_eq_length hin]; omega
  · unfold addS; split
    · assumption
    · exact List.mem_append_right _ (List.mem_cons_self ..)
  · exact runI_size b d.steps ByteArray.empty (Nat.zero_le _)
theorem applyB_ext (S : Bk) (b : ByteArray) (d : Dl) : Ext S (applyB S b d) ∧ (applyB S b d).length ≤ S.length + 2 := by
  unfold applyB
  split
  · split
    · refine ⟨((Ext.refl S).add _).add _, ?_⟩
      have h1 := addS_len (addS S (bytesOf b)) (bytesOf (runS b d.steps ByteArray.empty).1)
      have h2 := addS_len S (bytesOf b)
      omega
    · exact ⟨(Ext.refl S).add _, by have h2 := addS_len S (bytesOf b); omega⟩
  · exact ⟨Ext.refl S, by omega⟩
/-- what is left right -/
structure DoI (S : Bk) (l : List Gn) (im : Int → ByteArray) (z : DoT) : Prop where
  inv : Inv z.2.2.2 z.2.1 z.2.2.1
  ext : Ext S z.2.2.2
  slen : z.2.2.2.length ≤ S.length + 2
  llen : z.2.1.length ≤ l.length + 1
  bad : z.1 ≠ 0 → z.2.1 = l ∧ z.2.2.1 = im
theorem DoI.same {S : Bk} {l : List Gn} {im : Int → ByteArray} {e : Int} (h : Inv S l im) : DoI S l im (e, l, im, S) :=
  ⟨h, Ext.refl S, Nat.le_add_right _ _, Nat.le_succ _, fun _ => ⟨rfl, rfl⟩⟩
theorem DoI.app {S : Bk} {l : List Gn} {im : Int → ByteArray} {e : Int} (h : Inv S l im) (b : ByteArray) (d : Dl) : DoI S l im (e, l, im, applyB S b d) :=
  ⟨h.ext (applyB_ext S b d).1, (applyB_ext S b d).1, (applyB_ext S b d).2, Nat.le_succ _, fun _ => ⟨rfl, rfl⟩⟩
theorem Inv.filter {S : Bk} {l : List Gn} {im : Int → ByteArray} (h : Inv S l im) {f c : Int} (hst : ¬ ∃ g ∈ l, staysN f c g.gen = true ∧ staysN f c g.basis = false) : Inv S (l.filter (fun g => staysN f c g.gen)) im := by
  refine ⟨?_, ?_, Nat.le_trans (List.length_filter_le _ _) h.len⟩
  · exact List.Pairwise.sublist ((List.filter_sublist).map Gn.gen) h.up
  · intro g hg
    obtain ⟨hgl, hgs⟩ := List.mem_filter.1 hg
    have hG := h.each g hgl
    refine ⟨hG.lo, hG.hi, hG.blo, hG.len, hG.ilen, hG.mem, hG.mark, ?_⟩
    rcases hG.way with h1 | ⟨h1, ⟨x, hx, hxg⟩, h2⟩
    · exact .inl h1
    · refine .inr ⟨h1, ⟨x, List.mem_filter.2 ⟨hx, ?_⟩, hxg⟩, h2⟩
      rw [hxg]
      cases hs : staysN f c g.basis with
      | true => rfl
      | false => exact absurd ⟨g, hgl, hgs, hs⟩ hst
theorem bs_sz (l : List UInt8) : (mkB l).size = l.length := by simp [mkB, ByteArray.size]
theorem stRaw_lenle (n : Nat) (z : RSt) : (stRaw n z).1.length ≤ z.1.length := by
  unfold stRaw
  split
  · split
    · exact Nat.zero_le _
    · simp; omega
  · exact Nat.zero_le _
theorem doW_inv {S : Bk} {l : List Gn} {im : Int → ByteArray} (h : Inv S l im) (hl : l.length < 4096) (hS : S.length ≤ 90000000) (z : RSt) : DoI S l im (doW S l im z) := by
  unfold doW
  simp only
  split
  · exact .same h
  split
  · exact .same h
  rename_i h1 h2
  split
  · exact .same h
  rename_i h3
  split
  · exact .same h
  rename_i h4
  have h5 : takesI S (mkB (stRaw (stRaw 32 (stNum z).2).2.1.length (stRaw 32 (stNum z).2).2).1) (mkB (stRaw 32 (stNum z).2).1) := Classical.not_not.1 h3
  have hsz := bs_sz (stRaw (stRaw 32 (stNum z).2).2.1.length (stRaw 32 (stNum z).2).2).1
  have hnl := stNum_le z
  refine ⟨h.set (by omega) (by omega) (by omega) (by omega) (by omega) (by omega) h5.1 h5.2 (.inl ⟨rfl, rfl⟩) h4 hl, Ext.refl S, Nat.le_add_right _ _, setN_len _ _, fun e => absurd rfl e⟩
theorem doD_inv {S : Bk} {l : List Gn} {im : Int → ByteArray} (h : Inv S l im) (hl : l.length < 4096) (hS : S.length ≤ 90000000) (z : RSt) (hz : z.1.length ≤ 524288) : DoI S l im (doD S l im z) := by
  unfold doD
  simp only
  have hlen : (stRaw (stRaw 32 (stNum (stNum z).2).2).2.1.length (stRaw 32 (stNum (stNum z).2).2).2).1.length ≤ 524288 := by
    have a0 := (stNum_left z).len
    have a1 := (stNum_left (stNum z).2).len
    have a2 := (stRaw_left 32 (stNum (stNum z).2).2).len
    have a3 := stRaw_lenle (stRaw 32 (stNum (stNum z).2).2).2.1.length (stRaw 32 (stNum (stNum z).2).2).2
    omega
  have hn0 := stNum_le z
  have hn1 := stNum_le (stNum z).2
  obtain ⟨X, hX⟩ : ∃ X, X = (stRaw (stRaw 32 (stNum (stNum z).2).2).2.1.length (stRaw 32 (stNum (stNum z).2).2).2).1 := ⟨_, rfl⟩
  obtain ⟨n, hn⟩ : ∃ n, n = (stNum z).1 := ⟨_, rfl⟩
  obtain ⟨b, hb⟩ : ∃ n, n = (stNum (stNum z).2).1 := ⟨_, rfl⟩
  rw [← hX] at hlen ⊢
  rw [← hb] at hn1 ⊢
  rw [← hn] at hn0 ⊢
  split
  · exact .same h
  split
  · exact .same h
  rename_i h1 h2
  split
  · exact .same h
  rename_i h3
  split
  · exact .same h
  rename_i h4
  split
  · exact .app h _ _
  rename_i h5
  split
  · exact .app h _ _
  rename_i h6
  split
  · exact .app h _ _
  rename_i h7
  have hh : hasN l (b : Int) = true := by simpa using h4
  obtain ⟨g, hg, hgn⟩ := hasN_at hh
  have hgl := List.mem_of_getElem? hg
  have hG := h.each g hgl
  have hmem : bytesOf (im b) ∈ S := by rw [← hgn]; exact hG.mem
  obtain ⟨e1, e2, e3, e4, e5⟩ := applyI_inv (S := S) (b := im b) (d := (readD X).1) (by simpa using h5) hmem
  have hsz := bs_sz X
  refine ⟨(h.ext e3).set (by omega) (by omega) (by omega) (by omega) (by omega) e5 e2 ?_ (.inr ⟨by omega, ⟨g, hgl, hgn⟩, (readD X).1, ?_, e1⟩) h7 hl, e3, e4, setN_len _ _, fun e => absurd rfl e⟩
  · have h8 : (readD X).1.mark = mkB (stRaw 32 (stNum (stNum z).2).2).1 := by simpa using h6
    rw [← h8]; exact e1.2.2.2
  · rw [mkB_list]; exact Prod.ext rfl (by simpa using h3)
theorem doG_inv {S : Bk} {l : List Gn} {im : Int → ByteArray} (h : Inv S l im) (z : RSt) : DoI S l im (doG S l im z) := by
  unfold doG
  simp only
  split
  · exact .same h
  split
  · exact .same h
  rename_i h1 h2
  exact ⟨h.filter h2, Ext.refl S, Nat.le_add_right _ _, Nat.le_trans (List.length_filter_le _ _) (Nat.le_succ _), fun e => absurd rfl e⟩
theorem doS_inv {S : Bk} {l : List Gn} {im : Int → ByteArray} (h : Inv S l im) (hl : l.length < 4096) (hS : S.length ≤ 90000000) (s : List UInt8) (hs : s.length ≤ 524288) : DoI S l im (doS S l im s) := by
  cases s with
  | nil => exact .same h
  | cons c r =>
    have hr : r.length ≤ 524288 := by simp only [List.length_cons] at hs; omega
    have e : doS S l im (c :: r) = if c = 87 then doW S l im (r, 0) else if c = 68 then doD S l im (r, 0) else if c = 71 then doG S l im (r, 0) else (5, l, im, S) := rfl
    rw [e]
    by_cases h1 : c = 87
    · rw [if_pos h1]; exact doW_inv h hl hS _
    rw [if_neg h1]
    by_cases h2 : c = 68
    · rw [if_pos h2]; exact doD_inv h hl hS _ hr
    rw [if_neg h2]
    by_cases h3 : c = 71
    · rw [if_pos h3]; exact doG_inv h _
    rw [if_neg h3]
    exact .same h
/-- what the records do -/
theorem stRaw_all (l : List UInt8) : stRaw l.length (l, 0) = (l, ([], 0)) := by
  have h := stRaw_back l.length l [] rfl
  rwa [List.append_nil] at h
open Classical in
theorem doW_at {S : Bk} {l : List Gn} {im : Int → ByteArray} {z z1 z2 z3 : RSt} {n : Nat} {b2 b3 : List UInt8} (h1 : stNum z = (n, z1)) (h2 : stRaw 32 z1 = (b2, z2)) (h3 : stRaw z2.1.length z2 = (b3, z3)) :
    doW S l im z = if z3.2 ≠ 0 then ((z3.2 : Int), l, im, S) else if 524288 < b3.length then (4, l, im, S) else if ¬ takesI S (mkB b3) (mkB b2) then (6, l, im, S)
      else if blockN l n (mkB b2) then (15, l, im, S) else (0, setN l ⟨n, n, mkB b2, mkB b3⟩, updI im n (mkB b3), S) := by
  unfold doW
  rw [h1]; dsimp only
  rw [h2]; dsimp only
  rw [h3]
open Classical in
theorem doD_at {S : Bk} {l : List Gn} {im : Int → ByteArray} {z z0 z1 z2 z3 : RSt} {n b : Nat} {b2 b3 : List UInt8} {d : Dl} {e : Nat} {A : ByteArray × Int} {S' : Bk} (h0 : stNum z = (n, z0)) (h1 : stNum z0 = (b, z1)) (h2 : stRaw 32 z1 = (b2, z2)) (h3 : stRaw z2.1.length z2 = (b3, z3)) (hd : readD b3 = (d, e)) (hA : applyI S (im b) d = A) (hS : applyB S (im b) d = S') :
    doD S l im z = if z3.2 ≠ 0 then ((z3.2 : Int), l, im, S) else if n ≤ b then (2, l, im, S) else if e ≠ 0 then ((e : Int), l, im, S) else if hasN l b = false then (8, l, im, S)
      else if A.2 ≠ 0 then (A.2, l, im, S') else if d.mark ≠ mkB b2 then (6, l, im, S') else if blockN l n (mkB b2) then (15, l, im, S') else (0, setN l ⟨n, b, mkB b2, mkB b3⟩, updI im n A.1, S') := by
  unfold doD
  rw [h0]; dsimp only
  rw [h1]; dsimp only
  rw [h2]; dsimp only
  rw [h3]; dsimp only
  rw [hd]; dsimp only
  rw [hA, hS]
open Classical in
theorem doG_at {S : Bk} {l : List Gn} {im : Int → ByteArray} {z z0 z1 z2 : RSt} {f c : Nat} (h0 : stNum z = (f, z0)) (h1 : stNum z0 = (c, z1)) (h2 : stEnd z1 = z2) :
    doG S l im z = if z2.2 ≠ 0 then ((z2.2 : Int), l, im, S) else if (∃ g ∈ l, staysN f c g.gen = true ∧ staysN f c g.basis = false) then (13, l, im, S) else (0, l.filter (fun g => staysN f c g.gen), im, S) := by
  unfold doG
  rw [h0]; dsimp only
  rw [h1]; dsimp only
  rw [h2]
theorem doS_W {S : Bk} {l : List Gn} {im : Int → ByteArray} {n : Nat} {t : ByteArray} (hn : n ≤ 4611686018427387903) (ht : t.size ≤ 524288) (hm : bytesOf t ∈ S) :
    (blockN l n (mkI S t) → doS S l im (recW n (mkI S t) t).data.toList = (15, l, im, S)) ∧ (¬ blockN l n (mkI S t) → doS S l im (recW n (mkI S t) t).data.toList = (0, setN l ⟨n, n, mkI S t, t⟩, updI im n t, S)) := by
  have e1 : (recW n (mkI S t) t).data.toList = 87 :: (numL n ++ ((mkI S t).data.toList ++ t.data.toList)) := by
    unfold recW; simp [ByteArray.data_append, numBs]
  have hml : (mkI S t).data.toList.length = 32 := by have := numS_size (S.idxOf (bytesOf t) + 1); rw [Array.length_toList]; exact this
  have e2 : doS S l im (recW n (mkI S t) t).data.toList = doW S l im (numL n ++ ((mkI S t).data.toList ++ t.data.toList), 0) := by rw [e1]; rfl
  have htk : takesI S t (mkI S t) := ⟨hm, rfl⟩
  have hb : ∀ x : ByteArray, mkB x.data.toList = x := fun x => rfl
  have hl : t.data.toList.length = t.size := Array.length_toList
  rw [e2, doW_at (stNum_back n _ hn) (stRaw_back 32 _ _ hml) (stRaw_all _), hb, hb]
  constructor
  · intro h
    rw [if_neg (by simp), if_neg (by show ¬ 524288 < t.data.toList.length; omega), if_neg (fun h => h htk), if_pos h]
  · intro h
    rw [if_neg (by simp), if_neg (by show ¬ 524288 < t.data.toList.length; omega), if_neg (fun h => h htk), if_neg h]
theorem doS_D {S : Bk} {l : List Gn} {im : Int → ByteArray} {n b : Nat} {d : Dl} {x t : ByteArray} (hn : n ≤ 4611686018427387903) (hbn : b < n) (hh : hasN l b = true) (hd : readD x.data.toList = (d, 0)) (ha : AppOk S (im b) d t) (hmb : bytesOf (im b) ∈ S) (hmt : bytesOf t ∈ S) :
    (blockN l n d.mark → doS S l im (recD n b d.mark x).data.toList = (15, l, im, S)) ∧ (¬ blockN l n d.mark → doS S l im (recD n b d.mark x).data.toList = (0, setN l ⟨n, b, d.mark, x⟩, updI im n t, S)) := by
  have e1 : (recD n b d.mark x).data.toList = 68 :: (numL n ++ (numL b ++ (d.mark.data.toList ++ x.data.toList))) := by
    unfold recD; simp [ByteArray.data_append, numBs]
  have hml : d.mark.data.toList.length = 32 := by have := ha.1.2.1; rw [Array.length_toList]; exact this
  have e2 : doS S l im (recD n b d.mark x).data.toList = doD S l im (numL n ++ (numL b ++ (d.mark.data.toList ++ x.data.toList)), 0) := by rw [e1]; rfl
  have hb : ∀ x : ByteArray, mkB x.data.toList = x := fun x => rfl
  have hap := ha.apply hmb hmt
  have e3 : (applyI S (im b) d).2 = 0 := by rw [hap.1]
  rw [e2, doD_at (stNum_back n _ hn) (stNum_back b _ (by omega : b ≤ 4611686018427387903)) (stRaw_back 32 _ _ hml) (stRaw_all _) hd hap.1 hap.2, hb, hb]
  constructor
  · intro h
    rw [if_neg (by simp), if_neg (by omega), if_neg (by simp), if_neg (by rw [hh]; simp), if_neg (by simp), if_neg (fun h => h rfl), if_pos h]
  · intro h
    rw [if_neg (by simp), if_neg (by omega), if_neg (by simp), if_neg (by rw [hh]; simp), if_neg (by simp), if_neg (fun h => h rfl), if_neg h]
theorem doS_G {S : Bk} {l : List Gn} {im : Int → ByteArray} {f c : Nat} (hf : f ≤ 4611686018427387903) (hc : c ≤ 4611686018427387903) :
    ((∃ g ∈ l, staysN f c g.gen = true ∧ staysN f c g.basis = false) → doS S l im (recG f c).data.toList = (13, l, im, S)) ∧ (¬ (∃ g ∈ l, staysN f c g.gen = true ∧ staysN f c g.basis = false) → doS S l im (recG f c).data.toList = (0, l.filter (fun g => staysN f c g.gen), im, S)) := by
  have e1 : (recG f c).data.toList = 71 :: (numL f ++ (numL c ++ [])) := by
    unfold recG; simp [ByteArray.data_append, numBs]
  have e2 : doS S l im (recG f c).data.toList = doG S l im (numL f ++ (numL c ++ []), 0) := by rw [e1]; rfl
  have e3 : stEnd (([], 0) : RSt) = ([], 0) := rfl
  rw [e2, doG_at (stNum_back f _ hf) (stNum_back c _ hc) e3]
  constructor
  · intro h
    rw [if_neg (by simp), if_pos h]
  · intro h
    rw [if_neg (by simp), if_neg h]
end Go.Proofs.YtgkcnocfijckoaaGreat
namespace Go.Proofs.YtgkcnocfijckoaaGreat
open Go.RowKit
set_option linter.unusedVariables false
theorem run_append_none {P : Program} (w : World) (t ty e : TypeId) (i : TypeInfo) (ht : P.underlying t = some (.slice e)) (hi : P.info? e = some i) (g c : Nat) (ao : Option Addr) :
    (Builtin.append_ #[t, t] ty #[.slice (some ⟨g, 0, none⟩) 0 0, .slice ao 0 c]).run P w = .ok (.slice (some ⟨g, 0, none⟩) 0 0) w := by
  cases ao with
  | none => simp [go_sem, Builtin.append_, run_underlying ht, sizeOf, typeInfo, hi]
  | some a => simp [go_sem, Builtin.append_, run_underlying ht, sizeOf, typeInfo, hi]
theorem wpList_append_row {P : Program} {w : World} {ops : Array Oper} {rest : List Oper} {o : Oper} {a : Act} {Q : Exit → Act → World → Prop} (hgd : o.guard = none) (s x : Operand) (t : TypeId)
    (ho : o.op = .call { callee := .builtin .append, args := #[s, x], argTypes := #[t, t] })
    (base : Nat) (e : TypeId) (i : TypeInfo) (z : Value) (size bytes : Nat) (ht : P.underlying t = some (.slice e)) (hi : P.info? e = some i) (hz : i.zero = some z)
    (hsize : i.size = size) (hby : i.bytes = bytes) (hzs : z.cells.size = size) (hsz : 0 < size)
    (g : Nat) (hs : a.eval s = .slice (some ⟨g, 0, none⟩) 0 0) (hown : w.ownsRow base e size (.slice (some ⟨g, 0, none⟩) 0 0) 0 [])
    (ao : Option Addr) (m c : Nat) (news : List Value) (hx : a.eval x = .slice ao m c) (hl : news.length = m * size) (hnews : 0 < m → ∃ ad, ao = some ad ∧ ∀ j u, news[j]? = some u → w.cell? (ad.add j) = some u) (h1 : ∀ u ∈ news, u.oneCell' = true)
    (h63 : m ≤ maxLen) (hbytes : m * bytes ≤ 140737488355328) (hbase : base ≤ w.heap.size)
    (h : ∀ v' w', w'.ownsRow base e size v' m news → w.grownBy w' (some g) → wpList P ops Q rest (a.put o.dst v') w') : wpList P ops Q (o :: rest) a w := by
  by_cases hm : 0 < m
  · obtain ⟨ad, rfl, hc⟩ := hnews hm
    refine wpList_append_own w hgd s x t ho base e i z size bytes ht hi hz hsize hby hzs hsz _ 0 [] hs hown ad m c news hx hl hc h1 (by omega) (by rw [Nat.zero_add]; exact hbytes) hbase ?_
    intro v' w' h2 h3 _
    rw [Nat.zero_add, List.nil_append] at h2
    exact h v' w' h2 h3
  · have hm0 : m = 0 := by omega
    subst hm0
    have hn : news = [] := List.eq_nil_of_length_eq_zero (by rw [hl]; omega)
    subst hn
    refine wpList_plain hgd fun K hK => ?_
    unfold Oper.wp execOp
    simp only [ho, resolve, invoke, builtin, Sem.run_bind, Sem.run_pure, Result.andThen_ok, List.map_toArray, List.map_cons, List.map_nil, hs, hx, run_append_none w t o.type e i ht hi g c ao]
    exact hK _ _ (h _ _ hown (grown_refl _ _))
theorem Rs.cellsAt {α : Type} {f : α → List Value} {size : Nat} (hf : ∀ x, (f x).length = size) (hs : 0 < size) {w : World} {ao : Option Addr} {m c : Nat} {rs : List α} (h : Rs w ao m c size rs f) : 0 < m → ∃ ad, ao = some ad ∧ ∀ j u, (rs.flatMap f)[j]? = some u → w.cell? (ad.add j) = some u := by
  intro h0
  obtain ⟨b, off, e, hb, hc⟩ := h.2.2.2 h0
  refine ⟨⟨b, off, none⟩, e, fun j u hu => ?_⟩
  rw [add_off']
  have hj : j < rs.length * size := by rw [← flatLen f size hf]; exact (List.getElem?_eq_some_iff.1 hu).1
  have hi : j / size < rs.length := Nat.div_lt_of_lt_mul (by rw [Nat.mul_comm]; exact hj)
  have hr : j % size < size := Nat.mod_lt _ hs
  have e2 : j / size * size + j % size = j := by rw [Nat.mul_comm]; exact Nat.div_add_mod j size
  have h3 := flatAt f size hf rs (j / size) hi (j % size) hr
  rw [e2, hu] at h3
  have h4 := hc (j / size) hi (j % size) u h3.symm
  rwa [e2] at h4
end Go.Proofs.YtgkcnocfijckoaaGreat
namespace Go.Proofs.YtgkcnocfijckoaaGreat
open Go.RowKit
set_option linter.unusedVariables false
set_option linter.unusedSimpArgs false
theorem run_append_nil {P : Program} (w : World) (t ty e : TypeId) (i : TypeInfo) (ht : P.underlying t = some (.slice e)) (hi : P.info? e = some i) (d : Option Addr) (n cap c : Nat) (hn : n ≤ maxLen) (hnc : n ≤ cap) :
    (Builtin.append_ #[t, t] ty #[.slice d n cap, .slice none 0 c]).run P w = .ok (.slice d n cap) w := by
  cases d with
  | none => simp [go_sem, Builtin.append_, run_underlying ht, sizeOf, typeInfo, hi, hnc, hn]
  | some a => simp [go_sem, Builtin.append_, run_underlying ht, sizeOf, typeInfo, hi, hnc, hn]
theorem wpList_append_rows {P : Program} {w : World} {ops : Array Oper} {rest : List Oper} {o : Oper} {a : Act} {Q : Exit → Act → World → Prop} (hgd : o.guard = none) (s x : Operand) (t : TypeId)
    (ho : o.op = .call { callee := .builtin .append, args := #[s, x], argTypes := #[t, t] })
    (base : Nat) (e : TypeId) (i : TypeInfo) (z : Value) (size bytes : Nat) (ht : P.underlying t = some (.slice e)) (hi : P.info? e = some i) (hz : i.zero = some z)
    (hsize : i.size = size) (hby : i.bytes = bytes) (hzs : z.cells.size = size) (hsz : 0 < size)
    (v : Value) (n : Nat) (xs : List Value) (hs : a.eval s = v) (hown : w.ownsRow base e size v n xs)
    (ao : Option Addr) (m c : Nat) (news : List Value) (hx : a.eval x = .slice ao m c) (hl : news.length = m * size) (hnews : 0 < m → ∃ ad, ao = some ad ∧ ∀ j u, news[j]? = some u → w.cell? (ad.add j) = some u) (h1 : ∀ u ∈ news, u.oneCell' = true)
    (h63 : n + m ≤ maxLen) (hbytes : (n + m) * bytes ≤ 140737488355328) (hbase : base ≤ w.heap.size)
    (h : ∀ v' w', w'.ownsRow base e size v' (n + m) (xs ++ news) → w.grownBy w' v.ownBlock → (v'.ownBlock = v.ownBlock ∨ v'.ownBlock = some w.heap.size) → wpList P ops Q rest (a.put o.dst v') w') : wpList P ops Q (o :: rest) a w := by
  have hown0 := hown
  cases ao with
  | some ad =>
    have hn2 : ∀ j u, news[j]? = some u → w.cell? (ad.add j) = some u := by
      intro j u hj
      by_cases hm : 0 < m
      · obtain ⟨ad', e1, h2⟩ := hnews hm
        cases e1
        exact h2 j u hj
      · have hn : news = [] := List.eq_nil_of_length_eq_zero (by rw [hl, show m = 0 by omega]; simp)
        rw [hn] at hj; simp at hj
    exact wpList_append_own_at w hgd s x t ho base e i z size bytes ht hi hz hsize hby hzs hsz v n xs hs hown ad m c news hx hl hn2 h1 h63 hbytes hbase (fun v' w' h2 h3 _ h4 => h v' w' h2 h3 h4)
  | none =>
    have hm : m = 0 := by
      rcases Nat.eq_zero_or_pos m with h0 | h0
      · exact h0
      · obtain ⟨ad, e1, _⟩ := hnews h0
        cases e1
    subst hm
    have hn : news = [] := List.eq_nil_of_length_eq_zero (by rw [hl]; omega)
    subst hn
    obtain ⟨d, cap, rfl, hnc⟩ : ∃ d cap, v = .slice d n cap ∧ n ≤ cap := by
      rcases hown.2 with ⟨rfl, h0⟩ | ⟨g, cap, cur, rfl, _, _, hnc, _⟩
      · exact ⟨none, 0, by rw [h0], by omega⟩
      · exact ⟨_, cap, rfl, hnc⟩
    refine wpList_plain hgd fun K hK => ?_
    unfold Oper.wp execOp
    simp only [ho, resolve, invoke, builtin, Sem.run_bind, Sem.run_pure, Result.andThen_ok, List.map_toArray, List.map_cons, List.map_nil, hs, hx, run_append_nil w t o.type e i ht hi d n cap c (by omega) hnc]
    exact hK _ _ (h _ _ (by simpa using hown0) (grown_refl _ _) (.inl rfl))
end Go.Proofs.YtgkcnocfijckoaaGreat
namespace Go.Proofs.YtgkcnocfijckoaaGreat
open Go.RowKit Sg
set_option linter.unusedVariables false
set_option linter.unusedSimpArgs false
set_option maxRecDepth 100000 in
set_option maxHeartbeats 1000000 in
theorem clone_any (w : World) (base : Nat) (v : Value) (l : List Gn) (hO : w.ownsRow base 92 4 v l.length (l.flatMap Gn.c)) (hl : l.length ≤ 100000) :
    Calls Tryz.prog 68 #[v] w fun e w' => ∃ v', e = .returned v' ∧ w'.ownsRow w.heap.size 92 4 v' l.length (l.flatMap Gn.c) ∧ Below w.heap.size w w' := by
  obtain ⟨i1, hj, hy0, hy1, hy2⟩ := info_parts infoGn
  have hu := underGs
  have e0 : ∀ w, (binOp .eql 86 (.slice none 0 0) (.slice none 0 0)).run Tryz.prog w = .ok (.bool true) w := fun w => by first | kernel_rfl | rfl
  have e1 : ∀ a n k w, (binOp .eql 86 (.slice (some a) n k) (.slice none 0 0)).run Tryz.prog w = .ok (.bool false) w := fun a n k w => by first | kernel_rfl | rfl
  rcases blk_of_own hO with ⟨rfl, h0⟩ | ⟨g, cap, cs, rfl, hbg, hB, hnc, hcm, hcl, hct⟩
  · have hnil : l = [] := List.eq_nil_of_length_eq_zero h0
    subst hnil
    clear hO h0
    go_enter Tryz.func68, Tryz.ntmps68
    go_wp2
    go_ret
    exact ⟨_, rfl, World.ownsRow_nil _ _ _ _, Below.refl _ _⟩
  · obtain ⟨N, hN⟩ : ∃ N, N = l.length := ⟨_, rfl⟩
    obtain ⟨xs, hxs⟩ : ∃ xs, xs = l.flatMap Gn.c := ⟨_, rfl⟩
    have hxl : xs.length = N * 4 := by rw [hxs, gnFlat_len, hN]
    have h1 : ∀ u ∈ xs, u.oneCell' = true := by rw [hxs]; exact flat_one l
    have hcell : ∀ W : World, Below w.heap.size w W → ∀ j u, xs[j]? = some u → W.cell? ((⟨g, 0, none⟩ : Addr).add j) = some u := fun W hW j u hu => by
      rw [Addr.add_lit, Nat.zero_add]
      have h2 : cs[j]? = some u := by
        rw [hxs, ← hct, List.getElem?_take] at hu
        split at hu
        · exact hu
        · cases hu
      exact (hB.below hW hB.lt).cell h2
    rw [← hN, ← hxs]
    rw [← hN] at hl
    have hown : (w.alloc (Obj.cells #[] 92)).ownsRow w.heap.size 92 4 (.slice (some ⟨w.heap.size, 0, none⟩) 0 0) 0 [] := own_of_blk (cs := []) (Blk.new w [] _) (Nat.le_refl _) (Nat.le_refl _) (Nat.zero_le _) rfl rfl rfl
    have hbA : Below w.heap.size w (w.alloc (Obj.cells #[] 92)) := below_alloc _ _
    have HB := Lib.hid (And.intro hbA (And.intro hcell (And.intro hown h1)))
    clear hO hB hcl hct hN hxs hbA hcell hown h1 hbg hnc hcm
    go_enter Tryz.func68, Tryz.ntmps68
    go_wp2_with (at_builtin; refine wpList_append_row rfl _ _ 86 rfl w.heap.size 92 i1 _ 4 48 hu hj hy0 hy1 hy2 rfl (by decide) w.heap.size rfl HB.out.2.2.1 (some ⟨g, 0, none⟩) N cap xs rfl hxl (fun _ => ⟨_, rfl, HB.out.2.1 _ HB.out.1⟩) HB.out.2.2.2 (by unfold maxLen; omega) (by omega) (by simp) ?_)
    intro v' w' h2 h3
    have HF : Hid (w'.ownsRow w.heap.size 92 4 v' N xs ∧ Below w.heap.size w w') := Lib.hid ⟨h2, HB.out.1.grown h3 (by simp) (fun j hj => by injection hj with hj; omega)⟩
    clear h2 h3
    go_wp2
    go_ret
    exact ⟨_, rfl, HF.out.1, HF.out.2⟩
end Go.Proofs.YtgkcnocfijckoaaGreat
namespace Go.Proofs.YtgkcnocfijckoaaGreat
open Go.RowKit Sg
set_option linter.unusedVariables false
set_option linter.unusedSimpArgs false
set_option maxRecDepth 100000 in
set_option maxHeartbeats 1000000 in
theorem stCopy_any (w : World) (ps p base : Nat) (v : Value) (l : List Gn) (h : StB w ps p base v l) (hl : l.length ≤ 100000) :
    Calls Tryz.prog 37 #[.pointer (some ⟨ps, 0, none⟩)] w fun e w' => ∃ q v', e = .returned (.pointer (some ⟨q, 0, none⟩)) ∧ StB w' q p w.heap.size v' l ∧ Below w.heap.size w w' ∧ w.heap.size ≤ q := by
  have s0 := h.1.cell (i := 0) rfl
  have s1 := h.1.cell (i := 1) rfl
  have hlt := h.lt
  have HC : Hid (Calls Tryz.prog 68 #[v] w.drew fun e w' => ∃ v', e = .returned v' ∧ w'.ownsRow w.heap.size 92 4 v' l.length (l.flatMap Gn.c) ∧ Below w.heap.size w w') := Lib.hid (by
    refine (clone_any w.drew base v l (h.next (Below.refl _ w).drew).2 hl).mono ?_
    rintro e w' ⟨v', rfl, h1, h2⟩
    exact ⟨v', rfl, h1, (Below.refl _ w).drew.trans h2⟩)
  clear h
  go_enter Tryz.func37, Tryz.ntmps37
  go_upto_region 3 with fail
  go_region_held3 (fun w' => w'.cell? ⟨ps, 0, none⟩ = some (.pointer (some ⟨p, 0, none⟩)) ∧ w'.cell? ⟨ps, 1, none⟩ = some v)
    (first | exact ⟨s0, s1⟩ | go_keep)
    (first
      | (go_at_call 68; refine HC.out.mono ?_; rintro e w6 ⟨v6, rfl, hO6, hb6⟩; obtain ⟨a6, k6, rfl⟩ := owns_slice hO6; replace s0 := (hb6.cell (p := ⟨ps, 0, none⟩) hlt).trans s0; replace s1 := (hb6.cell (p := ⟨ps, 1, none⟩) hlt).trans s1))
  all_goals (
    obtain ⟨V, hV⟩ : ∃ V, V = w6.alloc (Obj.cells #[.pointer (some ⟨p, 0, none⟩), .slice a6 l.length k6] 88) := ⟨_, rfl⟩
    have HF : Hid (StB V w6.heap.size p w.heap.size (.slice a6 l.length k6) l ∧ Below w.heap.size w V ∧ w.heap.size ≤ w6.heap.size) := Lib.hid ⟨⟨by rw [hV]; exact Blk.new _ _ _, by rw [hV]; exact World.ownsRow.alloc hO6 _⟩, by rw [hV]; exact bl_nx hb6 (below_alloc _ _), hb6.size⟩
    rw [← hV]
    clear hV hO6 hb6
    go_wp2
    go_ret
    exact ⟨_, _, rfl, HF.out⟩)
end Go.Proofs.YtgkcnocfijckoaaGreat
namespace Go.Proofs.YtgkcnocfijckoaaGreat
open Go.RowKit Sg
set_option linter.unusedVariables false
set_option linter.unusedSimpArgs false
theorem bel_kept {w W X : World} {T : Nat → Prop} (h : Below w.heap.size w W) (k : Kept T W X) (ht : ∀ k, T k → w.heap.size ≤ k) : Below w.heap.size w X :=
  Kept.below h k h.size (fun i hi e => by have := ht i e; omega)
theorem mkI_add (S : Bk) (t : ByteArray) : mkI (addS S (bytesOf t)) t = mkI S t := by
  unfold mkI
  congr 2
  by_cases hin : bytesOf t ∈ S
  · rw [addS_mem hin]
  · unfold addS; rw [if_neg hin, List.idxOf_append, if_neg hin, List.idxOf_cons_self, List.idxOf_eq_length hin]; omega
theorem inAddS (S : Bk) (t : List UInt8) : t ∈ addS S t := by
  unfold addS; split
  · assumption
  · exact List.mem_append_right _ (List.mem_cons_self ..)
structure SW (w : World) (ps p m : Nat) (v : Value) (S : Bk) (l : List Gn) (im : Int → ByteArray) : Prop where
  st : StB w ps p (ps + 1) v l
  bk : BookI w p m S
  inv : Inv S l im
  lt : p < ps ∧ m < ps
theorem SW.psl {w : World} {ps p m : Nat} {v : Value} {S : Bk} {l : List Gn} {im : Int → ByteArray} (h : SW w ps p m v S l im) : ps + 1 ≤ w.heap.size := h.st.lt
theorem SW.own {w : World} {ps p m : Nat} {v : Value} {S : Bk} {l : List Gn} {im : Int → ByteArray} (h : SW w ps p m v S l im) {k : Nat} (e : v.ownBlock = some k) : ps + 1 ≤ k ∧ k < w.heap.size := World.ownsRow.lt h.st.2 k e
theorem SW.below {w w' : World} {ps p m : Nat} {v : Value} {S : Bk} {l : List Gn} {im : Int → ByteArray} (h : SW w ps p m v S l im) (hb : Below w.heap.size w w') : SW w' ps p m v S l im :=
  ⟨h.st.next hb, h.bk.next hb, h.inv, h.lt⟩
theorem SW.keep {w w' : World} {ps p m : Nat} {v : Value} {S : Bk} {l : List Gn} {im : Int → ByteArray} (h : SW w ps p m v S l im) {T : Nat → Prop} (hk : Kept T w w') (h1 : ¬ T ps) (h2 : ∀ k, v.ownBlock = some k → ¬ T k) (h3 : ¬ T p) (h4 : ¬ T m) : SW w' ps p m v S l im :=
  ⟨h.st.keptT hk h1 h2, h.bk.kept hk h3 h4, h.inv, h.lt⟩
theorem SW.book {w w' : World} {ps p m : Nat} {v : Value} {S S' : Bk} {l : List Gn} {im : Int → ByteArray} (h : SW w ps p m v S l im) (hk : Kept (fun k => some m = some k) w w') (hI : BookI w' p m S') (hE : Ext S S') : SW w' ps p m v S' l im :=
  ⟨h.st.kept hk (by have := h.lt.2; omega) (by have := h.lt.2; omega), hI, h.inv.ext hE, h.lt⟩
theorem SW.new {w : World} {ps p m : Nat} {S : Bk} (hB : Blk w ps [.pointer (some ⟨p, 0, none⟩), .slice none 0 0] 88) (hI : BookI w p m S) (h : p < ps ∧ m < ps) (im : Int → ByteArray) : SW w ps p m (.slice none 0 0) S [] im :=
  ⟨⟨hB, World.ownsRow_nil _ _ _ _⟩, hI, Inv.nil S im, h⟩
/-- what Do leaves -/
structure SWD (w : World) (ps p m : Nat) (v : Value) (S : Bk) (l : List Gn) (im : Int → ByteArray) (s : ByteArray) (w' : World) (e : Int) (v' : Value) (S' : Bk) (l' : List Gn) (im' : Int → ByteArray) : Prop where
  eq : doS S l im s.data.toList = (e, l', im', S')
  sw : SW w' ps p m v' S' l' im'
  kept : Kept (TouchS ps m v) w w'
  own : v'.ownBlock = v.ownBlock ∨ ∃ k, v'.ownBlock = some k ∧ w.heap.size ≤ k
  ext : Ext S S'
  slen : S'.length ≤ S.length + 2
  llen : l'.length ≤ l.length + 1
  bad : e ≠ 0 → l' = l ∧ im' = im
theorem SW.do_ {w : World} {ps p m : Nat} {v : Value} {S : Bk} {l : List Gn} {im : Int → ByteArray} (h : SW w ps p m v S l im) (hS : S.length ≤ 90000000) (hl : l.length < 4096) (s : ByteArray) (hs : s.size ≤ 524288) :
    Calls Tryz.prog 13 #[.pointer (some ⟨ps, 0, none⟩), .string s] w fun e w' => ∃ x v' S' l' im', e = .returned (.int .i64 x) ∧ SWD w ps p m v S l im s w' x v' S' l' im' := by
  have h1 := h.lt
  have h2 := h.psl
  refine (stDo_any w ps p m (ps + 1) v S l im s h.st h.bk h.inv hS (by omega) ⟨by omega, by omega, by omega, h2⟩ ⟨by omega, by omega⟩).mono ?_
  rintro e w' ⟨rfl, v', a1, a2, a3, a4⟩
  have hi := doS_inv h.inv hl hS s.data.toList (by rw [Array.length_toList]; exact hs)
  obtain ⟨D, hD⟩ : ∃ D, D = doS S l im s.data.toList := ⟨_, rfl⟩
  rw [← hD] at hi a1 a2 ⊢
  obtain ⟨x, l', im', S'⟩ := D
  exact ⟨x, v', S', l', im', rfl, hD.symm, ⟨a1, a2, hi.inv, h.lt⟩, a3, a4, hi.ext, hi.slen, hi.llen, hi.bad⟩
theorem SWD.below {w0 w w' : World} {ps p m : Nat} {v v' : Value} {S S' : Bk} {l l' : List Gn} {im im' : Int → ByteArray} {s : ByteArray} {e : Int} (h : SWD w ps p m v S l im s w' e v' S' l' im') (hb : Below w0.heap.size w0 w) (hm : w0.heap.size ≤ m) (hp : w0.heap.size ≤ ps) (hv : ∀ k, v.ownBlock = some k → w0.heap.size ≤ k) : Below w0.heap.size w0 w' ∧ ∀ k, v'.ownBlock = some k → w0.heap.size ≤ k := by
  refine ⟨bel_kept hb h.kept ?_, ?_⟩
  · rintro k (e | e | e)
    · omega
    · omega
    · exact hv k e
  · intro k e
    rcases h.own with h1 | ⟨j, h1, h2⟩
    · exact hv k (by rw [← h1]; exact e)
    · rw [h1] at e; injection e with e; have := hb.size; omega
end Go.Proofs.YtgkcnocfijckoaaGreat
namespace Go.Proofs.YtgkcnocfijckoaaGreat
open Go.RowKit Sg
set_option linter.unusedVariables false
set_option linter.unusedSimpArgs false
theorem recW_size (n : Nat) (mk t : ByteArray) : (recW n mk t).size = 1 + (numL n).length + mk.size + t.size := by
  unfold recW
  rw [ByteArray.size_append, ByteArray.size_append, ByteArray.size_append, numBs_size]; rfl
theorem recD_size (n b : Nat) (mk t : ByteArray) : (recD n b mk t).size = 1 + (numL n).length + (numL b).length + mk.size + t.size := by
  unfold recD
  rw [ByteArray.size_append, ByteArray.size_append, ByteArray.size_append, ByteArray.size_append, numBs_size, numBs_size]; rfl
theorem mkI_size (S : Bk) (t : ByteArray) : (mkI S t).size = 32 := numS_size _
theorem BeR.small {S : Bk} {l : List Gn} {im : Int → ByteArray} {n deep : Int} {t rec : ByteArray} (h : BeR S l im n t deep rec) (ht : t.size ≤ 64) : rec = recW n.toNat (mkI S t) t := by
  rcases h with h | ⟨g, d, _, _, hr, hd, ha, _, hs⟩
  · exact h
  · exfalso
    have h1 := ha.1.2.1
    have h2 := numL_pos g.gen.toNat
    have h0 : d.basis.size = 32 := ha.1.1
    have h3 : 64 ≤ (bytesD d).length := by
      unfold bytesD headL
      simp only [List.length_append, Array.length_toList]
      have : d.basis.data.size = 32 := h0
      have : d.mark.data.size = 32 := h1
      omega
    rw [hr, recW_size, recD_size, mkI_size, h1] at hs
    have h4 : (⟨(bytesD d).toArray⟩ : ByteArray).size = (bytesD d).length := by simp [ByteArray.size]
    rw [h4] at hs
    omega
theorem no_block_nil (n : Int) (mk : ByteArray) : ¬ blockN [] n mk := by rintro ⟨g, hg, _⟩; simp at hg
theorem blkX : (⟨#[120]⟩ : ByteArray).size = 1 := rfl
def awX : ByteArray := ⟨#[120]⟩
def awY : ByteArray := ⟨#[121]⟩
def awG (S : Bk) : Gn := ⟨0, 0, mkI S awX, awX⟩
theorem setN_one (g : Gn) : setN [] g = [g] := rfl
theorem setN_two {g x : Gn} (h : g.gen < x.gen) : setN [g] x = [g, x] := by
  have ha : atN [g] x.gen = 1 := by simp [atN, h]
  have hh : hasN [g] x.gen = false := by unfold hasN; rw [ha]; rfl
  unfold setN; rw [hh, ha]; rfl
theorem no_block_one {g : Gn} {n : Int} (h : g.gen < n) (mk : ByteArray) : ¬ blockN [g] n mk := by
  rintro ⟨x, hx, _⟩
  have ha : atN [g] n = 1 := by simp [atN, h]
  rw [ha] at hx; simp at hx
set_option maxRecDepth 100000 in
set_option maxHeartbeats 4000000 in
theorem awake_any (w : World) : Calls Tryz.prog 11 #[] w fun e w' => e = .returned (.bool true) ∧ Below w.heap.size w w' := by
  go_enter Tryz.func11, Tryz.ntmps11
  go_wp2_with fail
  refine (ideal_any w).mono ?_
  rintro e w1 ⟨rfl, hI1, hb1⟩
  obtain ⟨p, hp⟩ : ∃ q, q = w.heap.size + 1 := ⟨_, rfl⟩
  obtain ⟨m, hm⟩ : ∃ q, q = w.heap.size := ⟨_, rfl⟩
  rw [← hp] at hI1 ⊢
  rw [← hm] at hI1
  have HPM := Lib.hid (And.intro hp hm)
  clear hp hm
  have HNW := Lib.hid (stNew_any w1 (some ⟨p, 0, none⟩))
  go_wp2_with fail
  refine HNW.out.mono ?_
  rintro e w2 ⟨rfl, hB2, hb2⟩
  obtain ⟨ps, hps⟩ : ∃ q, q = w1.heap.size := ⟨_, rfl⟩
  rw [← hps] at hB2 ⊢
  have hps2 : p < ps ∧ m < ps := by rw [hps]; exact hI1.2.2.2.2.1
  have HS2 : Hid (SW w2 ps p m (.slice none 0 0) [] [] (fun _ => ByteArray.empty)) := Lib.hid (SW.new hB2 (hI1.next hb2) hps2 _)
  have HB2 := Lib.hid (bl_nx hb1 hb2)
  have HGE : Hid (w.heap.size ≤ m ∧ w.heap.size ≤ ps) := Lib.hid (by have := HPM.out; omega)
  clear hps hB2 hb2 hb1 hI1 hps2 HNW
  have HWH := Lib.hid (stWhole_any w2 ps p m (ps + 1) _ [] [] HS2.out.st HS2.out.bk (by simp) 0 (by decide) awX (by decide))
  go_wp2_with fail
  refine HWH.out.mono ?_
  rintro e w3 ⟨hk3, ⟨hno, _, _⟩ | ⟨_, hbig, _⟩ | ⟨_, _, rfl, hI3⟩⟩
  · exact absurd ⟨by decide, by decide⟩ hno
  · exact absurd hbig (by decide)
  obtain ⟨S1, hS1⟩ : ∃ S1, S1 = addS ([] : Bk) (bytesOf awX) := ⟨_, rfl⟩
  rw [← hS1] at hI3
  have hE1 : Ext [] S1 := by rw [hS1]; exact (Ext.refl []).add _
  have hm1 : bytesOf awX ∈ S1 := by rw [hS1]; exact inAddS _ _
  have hmk : mkI [] awX = mkI S1 awX := by rw [hS1, mkI_add]
  have hl1 : S1.length ≤ 1 := by rw [hS1]; exact addS_len _ _
  rw [hmk]
  have HS3 := Lib.hid (HS2.out.book hk3 hI3 hE1)
  have HB3 := Lib.hid (bel_kept HB2.out hk3 (fun k e => by injection e with e; rw [← e]; exact HGE.out.1))
  obtain ⟨R1, hR1⟩ : ∃ R, R = recW (Int.toNat 0) (mkI S1 awX) awX := ⟨_, rfl⟩
  rw [← hR1]
  have HR1 := Lib.hid hR1
  have hR1s : R1.size ≤ 524288 := by rw [hR1, recW_size, mkI_size]; have := numL_le9 0 (by omega); show 1 + (numL 0).length + 32 + 1 ≤ 524288; omega
  have HX1 := Lib.hid (And.intro hm1 hl1)
  have HD1 := Lib.hid (HS3.out.do_ (by omega) (by simp) R1 hR1s)
  clear hk3 hI3 hS1 hE1 hm1 hmk hl1 hR1 hR1s HWH
  go_wp2_with fail
  refine HD1.out.mono ?_
  rintro e w4 ⟨x1, v1, S2, l1, im1, rfl, hD1⟩
  have hq : x1 = 0 ∧ l1 = [awG S1] ∧ S2 = S1 := by
    have h1 := hD1.eq
    rw [HR1.out, show Int.toNat 0 = 0 from rfl] at h1
    have h2 := (doS_W (S := S1) (l := []) (im := fun _ => ByteArray.empty) (n := 0) (t := awX) (by omega) (by decide) HX1.out.1).2 (no_block_nil _ _)
    replace h1 := h2.symm.trans h1
    rw [setN_one] at h1
    exact ⟨(congrArg Prod.fst h1).symm, (congrArg (fun z : DoT => z.2.1) h1).symm, (congrArg (fun z : DoT => z.2.2.2) h1).symm⟩
  obtain ⟨rfl, hl1, rfl⟩ := hq
  have HL1 := Lib.hid hl1
  have HS4 := Lib.hid hD1.sw
  have HB4 := Lib.hid (hD1.below HB3.out HGE.out.1 HGE.out.2 (fun k e => by cases e))
  clear hD1 hl1 HD1
  have hll : l1.length ≤ 4096 := HS4.out.inv.len
  have HBE := Lib.hid (stBest_any w4 ps p m (ps + 1) v1 S2 l1 im1 HS4.out.st HS4.out.bk HS4.out.inv (by have := HX1.out.2; omega) (by have := HS4.out.lt.2; omega) HS4.out.psl (by have := HS4.out.lt.2; omega) 1 6 (by decide) (by decide) awY (by decide))
  clear hll
  go_wp2_with fail
  refine HBE.out.mono ?_
  rintro e w5 ⟨hk5, ⟨hno, _, _⟩ | ⟨_, S3, R2, rfl, hI5, hE5, hm5, hl5, hR2⟩⟩
  · exact absurd ⟨by decide, by decide⟩ hno
  replace hR2 := hR2.small (by decide)
  have HS5 := Lib.hid (HS4.out.book hk5 hI5 hE5)
  have HB5 := Lib.hid (bel_kept HB4.out.1 hk5 (fun k e => by injection e with e; rw [← e]; exact HGE.out.1))
  have HR2 := Lib.hid hR2
  have hR2s : R2.size ≤ 524288 := by rw [hR2, recW_size, mkI_size]; have := numL_le9 1 (by omega); show 1 + (numL 1).length + 32 + 1 ≤ 524288; omega
  have hl1l : l1.length = 1 := by rw [HL1.out]; rfl
  have HX2 := Lib.hid (And.intro hm5 hl5)
  have HD2 := Lib.hid (HS5.out.do_ (by have := HX1.out.2; omega) (by omega) R2 hR2s)
  clear hk5 hI5 hE5 hm5 hl5 hR2 hR2s hl1l HBE
  go_wp2_with fail
  refine HD2.out.mono ?_
  rintro e w6 ⟨x2, v2, S4, l2, im2, rfl, hD2⟩
  have hq : x2 = 0 ∧ l2 = [awG S2, ⟨1, 1, mkI S3 awY, awY⟩] := by
    have h1 := hD2.eq
    rw [HR2.out, HL1.out, show Int.toNat 1 = 1 from rfl] at h1
    have h2 := (doS_W (S := S3) (l := [awG S2]) (im := im1) (n := 1) (t := awY) (by omega) (by decide) HX2.out.1).2 (no_block_one (g := awG S2) (n := 1) (by show (0 : Int) < 1; decide) _)
    replace h1 := h2.symm.trans h1
    rw [setN_two (by show (0 : Int) < 1; decide)] at h1
    exact ⟨(congrArg Prod.fst h1).symm, (congrArg (fun z : DoT => z.2.1) h1).symm⟩
  obtain ⟨rfl, hl2⟩ := hq
  have HL2 := Lib.hid hl2
  have HS6 := Lib.hid hD2.sw
  have HB6 := Lib.hid (hD2.below HB5.out HGE.out.1 HGE.out.2 HB4.out.2)
  clear hD2 hl2 HD2
  have hll : l2.length ≤ 100000 := by have := HS6.out.inv.len; omega
  have HGN := Lib.hid (stGens_any w6 ps p (ps + 1) v2 l2 HS6.out.st hll (fun g hg => Nat.le_trans (HS6.out.inv.each g hg).len (by decide)))
  clear hll
  go_wp2_with fail
  refine HGN.out.mono ?_
  rintro e w7 ⟨v7, rfl, hO7, hb7⟩
  obtain ⟨a7, k7, rfl⟩ := owns_slice hO7
  have hl2l : (gsG l2).length = 2 := by rw [gsG_len, HL2.out]; rfl
  rw [hl2l] at hO7 ⊢
  have hR7 := RowG.rs (n := 2) (gs := gsG l2) hO7 hl2l
  obtain ⟨_, _, _, h4⟩ := hR7
  obtain ⟨b, off, rfl, hbl, hc⟩ := h4 (by omega)
  have c5 : w7.cell? ⟨b, off + 4 + 1, none⟩ = some (.int .i64 1) := by
    have h := hc 1 (by omega) 1 (.int .i64 1) (by
      have : (gsG l2)[1]'(by omega) = ⟨1, 1, 1, mkI S3 awY⟩ := by
        simp only [HL2.out]; rfl
      rw [this]; rfl)
    simpa [Nat.add_assoc] using h
  have c5' : w7.cell? ⟨b, off + 5, none⟩ = some (.int .i64 1) := by simpa [Nat.add_assoc] using c5
  have HB7 := Lib.hid (bl_nx HB6.out.1 hb7)
  clear hc hO7 hb7 hl2l
  go_wp2
  go_ret
  exact ⟨rfl, HB7.out⟩
end Go.Proofs.YtgkcnocfijckoaaGreat
namespace Go.Proofs.YtgkcnocfijckoaaGreat
open Go.RowKit Sg
set_option linter.unusedVariables false
set_option linter.unusedSimpArgs false
/-- a generation of the plain model -/
structure Kp where
  gen : Int
  s : ByteArray
deriving Inhabited
def Kp.c (k : Kp) : List Value := [.int .i64 k.gen, .string k.s]
theorem kp_len (k : Kp) : k.c.length = 2 := rfl
theorem kp_one (k : Kp) : ∀ u ∈ k.c, u.oneCell' = true := by
  intro u hu
  simp only [Kp.c, List.mem_cons, List.not_mem_nil, or_false] at hu
  rcases hu with rfl | rfl <;> rfl
def modelK (l : List Gn) (im : Int → ByteArray) : List Kp := l.map (fun g => ⟨g.gen, im g.gen⟩)
/-- the law's world lies at pw -/
structure WW (w : World) (pw ps p m : Nat) (v vl : Value) (S : Bk) (l : List Gn) (im : Int → ByteArray) (K : List Kp) : Prop where
  ob : Blk w pw [.pointer (some ⟨ps, 0, none⟩), .pointer (some ⟨p, 0, none⟩), vl] 28
  sw : SW w ps p m v S l im
  row : w.ownsRow (pw + 1) 112 2 vl K.length (K.flatMap Kp.c)
  ne : pw ≠ ps ∧ pw ≠ p ∧ pw ≠ m ∧ v.ownBlock ≠ some pw ∧ vl.ownBlock ≠ some ps ∧ vl.ownBlock ≠ some p ∧ vl.ownBlock ≠ some m ∧ ∀ k, vl.ownBlock = some k → v.ownBlock ≠ some k
theorem WW.below {w w' : World} {pw ps p m : Nat} {v vl : Value} {S : Bk} {l : List Gn} {im : Int → ByteArray} {K : List Kp} (h : WW w pw ps p m v vl S l im K) (hb : Below w.heap.size w w') : WW w' pw ps p m v vl S l im K :=
  ⟨h.ob.below hb h.ob.lt, h.sw.below hb, row_below h.row hb, h.ne⟩
theorem kpZ_run (w : World) : (zeroValue 112).run Tryz.prog w = .ok (.agg #[.int .i64 0, .string ByteArray.empty]) w := by kernel_rfl
set_option maxRecDepth 100000 in
set_option maxHeartbeats 2000000 in
theorem fresh_any (w : World) : Calls Tryz.prog 12 #[] w fun e w' => ∃ pw ps p m, e = .returned (.pointer (some ⟨pw, 0, none⟩)) ∧ WW w' pw ps p m (.slice none 0 0) (.slice none 0 0) [] [] (fun _ => ByteArray.empty) [] ∧ Below w.heap.size w w' ∧ w.heap.size ≤ m ∧ w.heap.size ≤ ps ∧ w.heap.size ≤ pw := by
  go_enter Tryz.func12, Tryz.ntmps12
  go_wp2_with fail
  refine (ideal_any w).mono ?_
  rintro e w1 ⟨rfl, hI1, hb1⟩
  obtain ⟨p, hp⟩ : ∃ q, q = w.heap.size + 1 := ⟨_, rfl⟩
  obtain ⟨m, hm⟩ : ∃ q, q = w.heap.size := ⟨_, rfl⟩
  rw [← hp] at hI1 ⊢
  rw [← hm] at hI1
  have HPM := Lib.hid (And.intro hp hm)
  clear hp hm
  have HNW := Lib.hid (stNew_any w1 (some ⟨p, 0, none⟩))
  go_wp2_with fail
  refine HNW.out.mono ?_
  rintro e w2 ⟨rfl, hB2, hb2⟩
  obtain ⟨ps, hps⟩ : ∃ q, q = w1.heap.size := ⟨_, rfl⟩
  rw [← hps] at hB2 ⊢
  have hps2 : p < ps ∧ m < ps := by rw [hps]; exact hI1.2.2.2.2.1
  obtain ⟨V, hV⟩ : ∃ V, V = w2.alloc (Obj.cells #[.pointer (some ⟨ps, 0, none⟩), .pointer (some ⟨p, 0, none⟩), .slice none 0 0] 28) := ⟨_, rfl⟩
  obtain ⟨pw, hpw⟩ : ∃ q, q = w2.heap.size := ⟨_, rfl⟩
  have hlt : ps < w2.heap.size := hB2.lt
  have HF : Hid (WW V pw ps p m (.slice none 0 0) (.slice none 0 0) [] [] (fun _ => ByteArray.empty) [] ∧ Below w.heap.size w V ∧ w.heap.size ≤ m ∧ w.heap.size ≤ ps ∧ w.heap.size ≤ pw) := Lib.hid (by
    have hbV : Below w2.heap.size w2 V := by rw [hV]; exact below_alloc _ _
    have h0 := HPM.out
    refine ⟨⟨by rw [hV, hpw]; exact Blk.new _ _ _, (SW.new hB2 (hI1.next hb2) hps2 _).below hbV, World.ownsRow_nil _ _ _ _, by omega, by omega, by omega, (fun e => by cases e), (fun e => by cases e), (fun e => by cases e), (fun e => by cases e), (fun k e => by cases e)⟩, bl_nx (bl_nx hb1 hb2) hbV, by omega, by omega, by omega⟩)
  have HV := Lib.hid (And.intro hV hpw)
  clear hV hpw hps hB2 hb2 hb1 hI1 hps2 HNW hlt
  go_wp2
  rw [← HV.out.1, ← HV.out.2]
  go_ret
  exact ⟨_, _, _, _, rfl, HF.out⟩
end Go.Proofs.YtgkcnocfijckoaaGreat
