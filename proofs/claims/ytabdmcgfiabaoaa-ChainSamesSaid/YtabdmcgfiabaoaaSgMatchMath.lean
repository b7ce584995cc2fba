/- Which block a text is: the plain law of Match. No conditions. -/
import Derived.Test.YtabdmcgfiabaoaaSgTabTail
namespace Go.Proofs.Ytabdmcgfiabaoaa.Sg
open Go.RowKit
set_option linter.unusedVariables false
set_option linter.unusedSimpArgs false
theorem matchGo_eq (T : List ByteArray) (MK : ByteArray) (wanted : Int) : ∀ (l : List Int) (fd : Int), (∀ x ∈ l, 0 ≤ x) → matchGo T MK wanted l fd = if wanted ∈ l.filter (eqM T MK) then wanted else if fd < 0 then (l.filter (eqM T MK)).head?.getD fd else fd := by
  intro l
  induction l with
  | nil => intro fd _; simp [matchGo]
  | cons i l ih =>
    intro fd h
    have hi := h i (by simp)
    have ih' := fun fd => ih fd (fun x hx => h x (List.mem_cons_of_mem _ hx))
    rw [matchGo]
    by_cases e : eqM T MK i = true
    · rw [if_pos e, List.filter_cons_of_pos e]
      by_cases w : i = wanted
      · rw [if_pos w, if_pos (by rw [w]; simp)]; exact w
      · have hnm : wanted ∈ i :: l.filter (eqM T MK) ↔ wanted ∈ l.filter (eqM T MK) := by
          rw [List.mem_cons]
          exact ⟨fun q => q.elim (fun q => absurd q.symm w) id, .inr⟩
        rw [if_neg w, ih']
        by_cases m : wanted ∈ l.filter (eqM T MK)
        · rw [if_pos m, if_pos (hnm.2 m)]
        · rw [if_neg m, if_neg (fun q => m (hnm.1 q))]
          by_cases f : fd < 0
          · simp only [if_pos f]
            rw [if_neg (by omega)]; rfl
          · simp only [if_neg f]
    · rw [if_neg e, List.filter_cons_of_neg e, ih']
theorem bytes_len (t : ByteArray) : (bytesOf t).length = t.size := by unfold bytesOf; exact Array.length_toList
theorem piece_sizeB (s : ByteArray) (B k : Nat) (hB : 0 < B) : (piece s B k).size = B ↔ k < s.size / B := by
  unfold piece
  rw [ByteArray.size_extract, show (k < s.size / B ↔ k + 1 ≤ s.size / B) from Iff.rfl, Nat.le_div_iff_mul_le hB, Nat.add_mul, Nat.one_mul]
  omega
theorem pieces_get (s : ByteArray) (B n k : Nat) (h : k < n) : (pieces s B n)[k]? = some (piece s B k) := by
  unfold pieces; rw [List.getElem?_map, List.getElem?_range h]; rfl
theorem div_le_cnt (s : ByteArray) (B : Nat) (hB : 0 < B) : s.size / B ≤ cnt s.size B := by
  unfold cnt; exact Nat.div_le_div_right (by omega)
/-- is the block k the text? -/
def okAt (s : ByteArray) (B : Nat) (t : ByteArray) (weak : Int) (k : Nat) : Bool := decide ((piece s B k).size = B ∧ bytesOf (piece s B k) = bytesOf t ∧ weakI t = weak)
def upFrom (s : ByteArray) (B : Nat) (t : ByteArray) (weak : Int) (n j : Nat) : List Nat := (List.range' j (n - j)).filter (okAt s B t weak)
theorem mem_upFrom {s : ByteArray} {B : Nat} {t : ByteArray} {weak : Int} {n k : Nat} : k ∈ upFrom s B t weak n 0 ↔ k < n ∧ okAt s B t weak k = true := by
  unfold upFrom
  rw [List.mem_filter, List.mem_range'_1]
  constructor
  · rintro ⟨⟨_, h⟩, ho⟩; exact ⟨by omega, ho⟩
  · rintro ⟨h, ho⟩; exact ⟨⟨by omega, by omega⟩, ho⟩
/-- what the law's loop holds, from the block j on -/
def lawM (s : ByteArray) (B : Nat) (t : ByteArray) (weak : Int) (n j : Nat) : Int := ((upFrom s B t weak n j).head?.map (fun k : Nat => (k : Int))).getD (-1)
def lawIs (s : ByteArray) (B : Nat) (t : ByteArray) (weak wanted : Int) (n j : Nat) : Bool := (upFrom s B t weak n j).any (fun k => decide ((k : Int) = wanted))
theorem eqM_iff {s : ByteArray} {B n k : Nat} {t : ByteArray} {SN : Bk} {T : List ByteArray} (hT : (SN, T) = marksOf [] (pieces s B n)) (hn : n ≤ 1000000) (hk : k < n) : eqM T (numS (SN.idxOf (bytesOf t) + 1)) (k : Int) = true ↔ bytesOf (piece s B k) = bytesOf t := by
  have h1 : SN = (marksOf [] (pieces s B n)).1 := by rw [← hT]
  have h2 : T = (marksOf [] (pieces s B n)).2 := by rw [← hT]
  have hl : T.length = n := by rw [h2, marksOf_len, pieces_len]
  have hSl : SN.length ≤ n := by
    have := fold_addS_len ((pieces s B n).map bytesOf) []
    rw [← marksOf_seen, List.length_map, pieces_len] at this
    rw [h1]; simpa using this
  obtain ⟨mk, hmk⟩ : ∃ mk, T[k]? = some mk := ⟨_, List.getElem?_eq_getElem (by omega)⟩
  have := marks_take [] (pieces s B n) k (piece s B k) mk (pieces_get s B n k hk) (by rw [← h2]; exact hmk)
  rw [← h1] at this
  obtain ⟨hm, he⟩ := this
  have hg : T.getD (k : Int).toNat ByteArray.empty = mk := by simp only [Int.toNat_natCast]; rw [List.getD_eq_getElem?_getD, hmk]; rfl
  unfold eqM
  rw [hg, decide_eq_true_eq, he]
  constructor
  · intro h
    have a1 : SN.idxOf (bytesOf (piece s B k)) ≤ SN.length := List.idxOf_le_length
    have a2 : SN.idxOf (bytesOf t) ≤ SN.length := List.idxOf_le_length
    have a3 := numS_inj _ _ (by omega) (by omega) h
    have a4 := List.idxOf_lt_length_of_mem hm
    have a5 : bytesOf t ∈ SN := List.idxOf_lt_length_iff.1 (by omega)
    exact idx_inj hm a5 (by omega)
  · intro h; rw [h]
/-- the program's answer is the law's -/
theorem match_law {s : ByteArray} {B n : Nat} {t : ByteArray} {weak wanted : Int} {SN : Bk} {T : List ByteArray} (hB : 0 < B) (hn : n = cnt s.size B) (hn2 : n ≤ 1000000) (hT : (SN, T) = marksOf [] (pieces s B n)) :
    (if t.size = B then matchGo T (numS (SN.idxOf (bytesOf t) + 1)) wanted (findL ((pieces s B n).map weakI) (s.size / B) weak) (-1) else -1) = if lawIs s B t weak wanted n 0 = true then wanted else lawM s B t weak n 0 := by
  have hw : ∀ v : Nat, v < n → wtOf ((pieces s B n).map weakI) (v : Int) = weakI (piece s B v) := by
    intro v hv
    simp only [wtOf, Int.toNat_natCast]
    rw [List.getD_eq_getElem?_getD, List.getElem?_map, pieces_get s B n v hv]; rfl
  have hNn : s.size / B ≤ n := by rw [hn]; exact div_le_cnt s B hB
  by_cases hs : t.size = B
  · rw [if_pos hs, matchGo_eq _ _ _ _ _ (fun x hx => by obtain ⟨v, _, rfl, _⟩ := findL_mem.1 hx; omega)]
    have hFE : (findL ((pieces s B n).map weakI) (s.size / B) weak).filter (eqM T (numS (SN.idxOf (bytesOf t) + 1))) = (upFrom s B t weak n 0).map (fun k : Nat => (k : Int)) := by
      refine incr_ext _ _ ((findL_inc _ _ _).sublist List.filter_sublist) ?_ fun x => ?_
      · rw [List.pairwise_map]
        refine List.Pairwise.imp (fun h => by omega) (List.Pairwise.sublist List.filter_sublist (List.pairwise_lt_range' (s := 0) (n := n - 0) 1 (by omega)))
      · rw [List.mem_filter, findL_mem, List.mem_map]
        constructor
        · rintro ⟨⟨v, hv, rfl, hwv⟩, he⟩
          have hvn : v < n := by omega
          have he2 := (eqM_iff (t := t) hT hn2 hvn).1 he
          refine ⟨v, mem_upFrom.2 ⟨hvn, ?_⟩, rfl⟩
          unfold okAt
          rw [decide_eq_true_eq]
          refine ⟨(piece_sizeB s B v hB).2 hv, he2, ?_⟩
          rw [hw v hvn] at hwv
          rw [← hwv]; unfold weakI; rw [he2]
        · rintro ⟨v, hv, rfl⟩
          obtain ⟨hvn, ho⟩ := mem_upFrom.1 hv
          unfold okAt at ho
          rw [decide_eq_true_eq] at ho
          refine ⟨⟨v, (piece_sizeB s B v hB).1 ho.1, rfl, ?_⟩, (eqM_iff (t := t) hT hn2 hvn).2 ho.2.1⟩
          rw [hw v hvn, ← ho.2.2]; unfold weakI; rw [ho.2.1]
    rw [hFE]
    have hmem : (wanted ∈ (upFrom s B t weak n 0).map (fun k : Nat => (k : Int))) ↔ lawIs s B t weak wanted n 0 = true := by
      unfold lawIs
      rw [List.any_eq_true, List.mem_map]
      simp only [decide_eq_true_eq]
    by_cases hm : lawIs s B t weak wanted n 0 = true
    · rw [if_pos (hmem.2 hm), if_pos hm]
    · rw [if_neg (fun h => hm (hmem.1 h)), if_neg hm, if_pos (by omega)]
      unfold lawM
      rw [List.head?_map]
  · rw [if_neg hs]
    have hnil : upFrom s B t weak n 0 = [] := by
      apply List.eq_nil_iff_forall_not_mem.2
      intro k hk
      obtain ⟨_, ho⟩ := mem_upFrom.1 hk
      unfold okAt at ho
      rw [decide_eq_true_eq] at ho
      have := congrArg List.length ho.2.1
      have e : (bytesOf (piece s B k)).length = (piece s B k).size := bytes_len _
      have e2 : (bytesOf t).length = t.size := bytes_len _
      omega
    unfold lawIs lawM
    rw [hnil]
    simp
/-- the last block, where it is not whole -/
theorem piece_last (s : ByteArray) (B : Nat) (hB : 0 < B) (hr : 0 < s.size % B) : cnt s.size B - 1 = s.size / B ∧ 0 < cnt s.size B ∧ bytesOf (piece s B (s.size / B)) = bytesOf (s.extract (s.size - s.size % B) s.size) := by
  have hd := Nat.div_add_mod s.size B
  have hm := Nat.mod_lt s.size hB
  have hc : cnt s.size B = s.size / B + 1 := by
    unfold cnt
    have h1 : s.size + B - 1 = (s.size % B - 1) + B * (s.size / B + 1) := by
      have h2 : B * (s.size / B + 1) = B * (s.size / B) + B := by rw [Nat.mul_add, Nat.mul_one]
      rw [h2]
      generalize B * (s.size / B) = P at hd ⊢
      generalize s.size % B = r at hd hr hm ⊢
      omega
    rw [h1, Nat.add_mul_div_left _ _ hB, Nat.div_eq_of_lt (by omega)]
    omega
  refine ⟨by rw [hc]; exact Nat.add_sub_cancel _ _, by rw [hc]; exact Nat.succ_pos _, ?_⟩
  have e1 : s.size / B * B = s.size - s.size % B := by rw [Nat.mul_comm]; omega
  have e2 : s.size ≤ (s.size / B + 1) * B := by rw [Nat.add_mul, e1]; omega
  unfold bytesOf piece
  rw [e1]
  apply congrArg
  apply congrArg
  apply ByteArray.ext
  rw [ByteArray.data_extract, ByteArray.data_extract]
  have : s.data.size = s.size := rfl
  apply Array.ext
  · simp only [Array.size_extract]; omega
  · intro k h1 h2; simp
/-- the program's Tail is the law's -/
theorem tail_law {s : ByteArray} {B n : Nat} {t : ByteArray} {SN : Bk} {T : List ByteArray} (hB : 0 < B) (hn : n = cnt s.size B) (hn2 : n ≤ 1000000) (hT : (SN, T) = marksOf [] (pieces s B n)) :
    tailB B s.size ((pieces s B n).map weakI) T t (numS (SN.idxOf (bytesOf t) + 1)) = decide (0 < s.size % B ∧ bytesOf t = bytesOf (s.extract (s.size - s.size % B) s.size)) := by
  unfold tailB
  by_cases hr : 0 < s.size % B
  · obtain ⟨h1, h2, h3⟩ := piece_last s B hB hr
    rw [List.length_map, pieces_len]
    rw [← hn] at h1 h2
    have hk : n - 1 < n := by omega
    have hq := eqM_iff (t := t) hT hn2 hk
    unfold eqM at hq
    rw [decide_eq_true_eq] at hq
    simp only [Int.toNat_natCast] at hq
    rw [← h3, ← h1]
    have hg : ((pieces s B n).map weakI).getD (n - 1) 0 = weakI (piece s B (n - 1)) := by
      rw [List.getD_eq_getElem?_getD, List.getElem?_map, pieces_get s B n _ hk]; rfl
    rw [hg, decide_eq_decide]
    constructor
    · rintro ⟨a, b, c, d⟩; exact ⟨a, (hq.1 d).symm⟩
    · rintro ⟨a, b⟩
      refine ⟨a, ?_, by unfold weakI; rw [b], hq.2 b.symm⟩
      have e2 : (bytesOf t).length = t.size := bytes_len _
      rw [← e2, b, h1, h3]
      simp only [bytesOf, Array.length_toList]
      show (s.extract (s.size - s.size % B) s.size).size = s.size % B
      rw [ByteArray.size_extract]
      have := Nat.mod_le s.size B
      omega
  · rw [decide_eq_false (fun h => hr h.1), decide_eq_false (fun h => hr h.1)]
end Go.Proofs.Ytabdmcgfiabaoaa.Sg
