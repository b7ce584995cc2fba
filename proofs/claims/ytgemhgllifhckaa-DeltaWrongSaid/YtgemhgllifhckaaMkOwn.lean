/- The steps for a text by its own signature: the plain law. No conditions. -/
import Derived.Test.YtgemhgllifhckaaMkMake
namespace Go.Proofs.Ytgemhgllifhckaa
open Go.RowKit Sg
set_option linter.unusedVariables false
set_option linter.unusedSimpArgs false

/-- a book that has numbered more -/
def Ext (SN S : Bk) : Prop := ∃ R, S = SN ++ R
theorem Ext.refl (S : Bk) : Ext S S := ⟨[], by simp⟩
theorem Ext.add {SN S : Bk} (h : Ext SN S) (t : List UInt8) : Ext SN (addS S t) := by
  obtain ⟨R, rfl⟩ := h
  unfold addS
  split
  · exact ⟨R, rfl⟩
  · exact ⟨R ++ [t], by rw [List.append_assoc]⟩
theorem Ext.trans {A B C : Bk} (h : Ext A B) (k : Ext B C) : Ext A C := by
  obtain ⟨R, rfl⟩ := h
  obtain ⟨Q, rfl⟩ := k
  exact ⟨R ++ Q, by rw [List.append_assoc]⟩
theorem Ext.mem {A B : Bk} (h : Ext A B) {x : List UInt8} (hx : x ∈ A) : x ∈ B := by
  obtain ⟨R, rfl⟩ := h
  exact List.mem_append_left _ hx
theorem Ext.idx {A B : Bk} (h : Ext A B) {x : List UInt8} (hx : x ∈ A) : B.idxOf x = A.idxOf x := by
  obtain ⟨R, rfl⟩ := h
  rw [List.idxOf_append, if_pos hx]
theorem Ext.no {A B : Bk} (h : Ext A B) {x : List UInt8} (hx : x ∉ A) : A.length ≤ B.idxOf x := by
  obtain ⟨R, rfl⟩ := h
  rw [List.idxOf_append, if_neg hx]; omega
theorem fold_ext (l : Bk) : ∀ S : Bk, Ext S (l.foldl addS S) := by
  induction l with
  | nil => intro S; exact .refl S
  | cons t l ih => intro S; exact ((Ext.refl S).add t).trans (ih _)
theorem eqM_gen {s : ByteArray} {B n k : Nat} {t : ByteArray} {S0 SN S : Bk} {T : List ByteArray} (hT : (SN, T) = marksOf S0 (pieces s B n)) (hE : Ext SN S) (hb : S.length ≤ 100000000) (hk : k < n) : eqM T (numS (S.idxOf (bytesOf t) + 1)) (k : Int) = true ↔ bytesOf (piece s B k) = bytesOf t := by
  have h1 : SN = (marksOf S0 (pieces s B n)).1 := by rw [← hT]
  have h2 : T = (marksOf S0 (pieces s B n)).2 := by rw [← hT]
  have hl : T.length = n := by rw [h2, marksOf_len, pieces_len]
  have hSl : SN.length ≤ S.length := by obtain ⟨R, rfl⟩ := hE; simp
  obtain ⟨mk, hmk⟩ : ∃ mk, T[k]? = some mk := ⟨_, List.getElem?_eq_getElem (by omega)⟩
  have := marks_take S0 (pieces s B n) k (piece s B k) mk (pieces_get s B n k hk) (by rw [← h2]; exact hmk)
  rw [← h1] at this
  obtain ⟨hm, he⟩ := this
  have hg : T.getD (k : Int).toNat ByteArray.empty = mk := by simp only [Int.toNat_natCast]; rw [List.getD_eq_getElem?_getD, hmk]; rfl
  have a4 := List.idxOf_lt_length_of_mem hm
  unfold eqM
  rw [hg, decide_eq_true_eq, he]
  constructor
  · intro h
    have a2 : S.idxOf (bytesOf t) ≤ S.length := List.idxOf_le_length
    have a3 := numS_inj _ _ (by omega) (by omega) h
    by_cases ht : bytesOf t ∈ SN
    · rw [hE.idx ht] at a3
      exact idx_inj hm ht (by omega)
    · have := hE.no ht; omega
  · intro h
    rw [← h, hE.idx hm]
theorem matchGo_congr {T T' : List ByteArray} {MK MK' : ByteArray} (wn : Int) : ∀ (l : List Int) (fd : Int), (∀ i ∈ l, eqM T MK i = eqM T' MK' i) → matchGo T MK wn l fd = matchGo T' MK' wn l fd := by
  intro l
  induction l with
  | nil => intro fd _; rfl
  | cons i l ih =>
    intro fd h
    have h1 := h i (by simp)
    have h2 := fun fd => ih fd (fun j hj => h j (by simp [hj]))
    rw [matchGo, matchGo, h1, h2, h2]
/-- which block a text is -/
def mfI (s : ByteArray) (B : Nat) (t : ByteArray) (wn : Int) : Int := if lawIs s B t (weakI t) wn (cnt s.size B) 0 = true then wn else lawM s B t (weakI t) (cnt s.size B) 0
def tfI (s : ByteArray) (B : Nat) (t : ByteArray) : Bool := decide (0 < s.size % B ∧ bytesOf t = bytesOf (s.extract (s.size - s.size % B) s.size))
theorem match_gen {s : ByteArray} {B n : Nat} {t : ByteArray} {wn : Int} {S0 SN S : Bk} {T : List ByteArray} (hB : 0 < B) (hn : n = cnt s.size B) (hn2 : n ≤ 1000000) (hT : (SN, T) = marksOf S0 (pieces s B n)) (hE : Ext SN S) (hb : S.length ≤ 100000000) :
    (if t.size = B then matchGo T (numS (S.idxOf (bytesOf t) + 1)) wn (findL ((pieces s B n).map weakI) (s.size / B) (weakI t)) (-1) else -1) = mfI s B t wn := by
  obtain ⟨Q, hQ⟩ : ∃ Q, Q = marksOf [] (pieces s B n) := ⟨_, rfl⟩
  obtain ⟨SN', T'⟩ := Q
  have hml := match_law (weak := weakI t) (wanted := wn) (t := t) hB hn hn2 hQ
  unfold mfI
  rw [← hn, ← hml]
  by_cases hs : t.size = B
  · rw [if_pos hs, if_pos hs]
    refine matchGo_congr wn _ _ (fun i hi => ?_)
    obtain ⟨v, hv, rfl, _⟩ := findL_mem.1 hi
    have hvn : v < n := Nat.lt_of_lt_of_le hv (by rw [hn]; exact div_le_cnt s B hB)
    rw [Bool.eq_iff_iff, eqM_gen hT hE hb hvn, eqM_iff hQ hn2 hvn]
  · rw [if_neg hs, if_neg hs]
theorem tail_gen {s : ByteArray} {B n : Nat} {t : ByteArray} {S0 SN S : Bk} {T : List ByteArray} (hB : 0 < B) (hn : n = cnt s.size B) (hn2 : n ≤ 1000000) (hT : (SN, T) = marksOf S0 (pieces s B n)) (hE : Ext SN S) (hb : S.length ≤ 100000000) :
    tailB B s.size ((pieces s B n).map weakI) T t (numS (S.idxOf (bytesOf t) + 1)) = tfI s B t := by
  obtain ⟨Q, hQ⟩ : ∃ Q, Q = marksOf [] (pieces s B n) := ⟨_, rfl⟩
  obtain ⟨SN', T'⟩ := Q
  have htl := tail_law (t := t) hB hn hn2 hQ
  unfold tfI
  rw [← htl]
  unfold tailB
  by_cases hr : 0 < s.size % B
  · obtain ⟨h1, h2, h3⟩ := piece_last s B hB hr
    rw [List.length_map, pieces_len]
    have hk : n - 1 < n := by omega
    have a := eqM_gen (t := t) hT hE hb hk
    have b := eqM_iff (t := t) hQ hn2 hk
    unfold eqM at a b
    simp only [Int.toNat_natCast, decide_eq_true_eq] at a b
    rw [decide_eq_decide, a, b]
  · rw [decide_eq_false (fun h => hr h.1), decide_eq_false (fun h => hr h.1)]
theorem lawM_lt (s : ByteArray) (B : Nat) (hB : 0 < B) (t : ByteArray) (weak : Int) (n : Nat) : lawM s B t weak n 0 < ((s.size / B : Nat) : Int) := by
  unfold lawM
  cases h : (upFrom s B t weak n 0).head? with
  | none => exact Int.lt_of_lt_of_le (show (-1 : Int) < 0 by decide) (Int.natCast_nonneg _)
  | some k =>
    have hk : k ∈ upFrom s B t weak n 0 := List.mem_of_head? h
    obtain ⟨_, ho⟩ := mem_upFrom.1 hk
    unfold okAt at ho
    rw [decide_eq_true_eq] at ho
    have := (piece_sizeB s B k hB).1 ho.1
    simp only [Option.map_some, Option.getD_some]; omega
theorem mfI_lt (s : ByteArray) (B : Nat) (hB : 0 < B) (t : ByteArray) (wn : Int) : mfI s B t wn < ((s.size / B : Nat) : Int) := by
  unfold mfI
  split
  · rename_i h
    unfold lawIs at h
    rw [List.any_eq_true] at h
    obtain ⟨k, hk, hw⟩ := h
    obtain ⟨_, ho⟩ := mem_upFrom.1 hk
    unfold okAt at ho
    rw [decide_eq_true_eq] at ho
    have := (piece_sizeB s B k hB).1 ho.1
    have := of_decide_eq_true hw
    omega
  · exact lawM_lt s B hB t _ _
/-- the book with these texts marked, and perhaps t -/
def BkT (p m : Nat) (SN : Bk) (t : ByteArray) (w : World) : Prop := ∃ S, (S = SN ∨ S = addS SN (bytesOf t)) ∧ BookI w p m S
theorem markC_ideal {w : World} {p m : Nat} {SN : Bk} {t : ByteArray} (h : BkT p m SN t w) (ht : t.size ≤ maxLen) (hn : SN.length ≤ 100000000) :
    MarkC w p (some m) t (numS (SN.idxOf (bytesOf t) + 1)) (BkT p m SN t) (BkT p m SN t) where
  k0 := h
  next := fun a b ⟨S, hS, hB⟩ hb => ⟨S, hS, hB.next hb⟩
  next' := fun a b ⟨S, hS, hB⟩ hb => ⟨S, hS, hB.next hb⟩
  mark := by
    rintro a ⟨S, hS, hB⟩ -
    have hlen : S.length ≤ 1000000000000 := by
      rcases hS with rfl | rfl
      · omega
      · have := addS_len SN (bytesOf t); omega
    have e1 : S.idxOf t.data.toList + 1 = SN.idxOf (bytesOf t) + 1 := by
      rcases hS with rfl | rfl
      · rfl
      · have := idx_self SN (bytesOf t)
        show (addS SN (bytesOf t)).idxOf (bytesOf t) + 1 = _
        rw [this]
    have e2 : addS S t.data.toList = addS SN (bytesOf t) := by
      rcases hS with rfl | rfl
      · rfl
      · show addS (addS SN (bytesOf t)) (bytesOf t) = _
        rw [addS, if_pos ((mem_addS SN (bytesOf t) (bytesOf t)).2 (.inr rfl))]
    refine (mark_as hB ht hlen _ _ e1 e2).mono ?_
    rintro e w' ⟨rfl, h1, h2⟩
    exact ⟨rfl, ⟨_, .inr rfl, h1⟩, h2⟩
/-- the book behind a signature, and some questions -/
def KSI (p m : Nat) (SN : Bk) (c : Nat) (w : World) : Prop := ∃ S, Ext SN S ∧ S.length ≤ SN.length + c ∧ BookI w p m S
theorem bkc_ideal {s : ByteArray} {B n p m B0 : Nat} {S0 SN : Bk} {T : List ByteArray} (hB : 16 ≤ B) (hB2 : B ≤ 1024) (hs : s.size ≤ 524288) (hn : n = cnt s.size B) (hT : (SN, T) = marksOf S0 (pieces s B n)) (hSN : SN.length ≤ 10000000) (hp : p < B0) (hm : m < B0) :
    BkC p (some m) B0 B s.size ((pieces s B n).map weakI) T (s.size / B) (KSI p m SN) (mfI s B) (tfI s B) := by
  have hn2 : n ≤ 524288 := by rw [hn]; exact Nat.le_trans (cnt_le (by omega)) hs
  have hNn : s.size / B ≤ n := by rw [hn]; exact div_le_cnt s B (by omega)
  have hTl : T.length = n := by rw [show T = (marksOf S0 (pieces s B n)).2 by rw [← hT], marksOf_len, pieces_len]
  have turn : ∀ c w' S t, Ext SN S → S.length ≤ SN.length + c → BkT p m S t w' ∨ BkT p m S t w' → KSI p m SN (c + 1) w' := by
    rintro c w' S t hE hl h
    obtain ⟨S', hS', hb⟩ := h.elim id id
    rcases hS' with rfl | rfl
    · exact ⟨S', hE, by omega, hb⟩
    · exact ⟨_, hE.add _, by have := addS_len S (bytesOf t); omega, hb⟩
  refine ⟨?_, ?_, mfI_lt s B (by omega), ?_, ?_, ?_⟩
  · rintro c a w' ⟨S, h1, h2, h3⟩ hk
    exact ⟨S, h1, h2, h3.kept hk (by omega) (by omega)⟩
  · intro j hj; injection hj with hj; omega
  · intro t ht; exact (of_decide_eq_true ht).1
  · rintro c W t wn pt vI vS kv pv f ⟨S, h1, h2, h3⟩ hc ht hTb hS hI
    have hb : S.length ≤ 100000000 := by omega
    refine (tabMatch_any W B0 pt p (some m) B s.size vI vS kv pv _ T (s.size / B) f (weakI t) wn t _ _ _ hTb hS hI (by omega) (by omega) (by omega) hB2 (by intro j hj; injection hj with hj; omega) (markC_ideal (SN := S) ⟨S, .inl rfl, h3⟩ (by unfold maxLen; omega) hb)).mono ?_
    rintro e w' ⟨rfl, h5, h6⟩
    rw [match_gen (by omega) hn (by omega) hT h1 hb]
    exact ⟨rfl, turn c w' S t h1 h2 h5, h6⟩
  · rintro c W t pt vI vS kv pv f ⟨S, h1, h2, h3⟩ hc ht hTb hS hI
    have hb : S.length ≤ 100000000 := by omega
    refine (tabTail_any W B0 pt p (some m) B s.size vI vS kv pv _ T _ t _ _ _ hTb (by rw [List.length_map, pieces_len]; omega) (by rw [List.length_map, pieces_len]; exact hTl) (by omega) hB2 hs ?_ (by omega) (by intro j hj; injection hj with hj; omega) (markC_ideal (SN := S) ⟨S, .inl rfl, h3⟩ (by unfold maxLen; omega) hb)).mono ?_
    · intro h7
      rw [List.length_map, pieces_len]
      have := (piece_last s B (by omega) h7).2.1
      omega
    · rintro e w' ⟨rfl, h5, h6⟩
      rw [tail_gen (by omega) hn (by omega) hT h1 hb]
      exact ⟨rfl, turn c w' S t h1 h2 h5, h6⟩
end Go.Proofs.Ytgemhgllifhckaa

namespace Go.Proofs.Ytgemhgllifhckaa
open Go.RowKit Sg
set_option linter.unusedVariables false
set_option linter.unusedSimpArgs false

def ownL (n : Nat) : List St := if n = 0 then [] else [⟨0, (n : Nat), ByteArray.empty⟩]
theorem copy_own (k n : Nat) (hk : k ≤ 1000000) (hn : 0 < n) : copyL (ownL k) (k : Int) (n : Int) = ownL (k + n) := by
  unfold ownL
  by_cases h : k = 0
  · subst h
    rw [if_pos rfl, if_neg (by omega), copyL_nil]
    simp
  · rw [if_neg h, if_neg (by omega), show ([⟨0, (k : Nat), ByteArray.empty⟩] : List St) = [] ++ [⟨0, (k : Nat), ByteArray.empty⟩] from rfl, copyL_snoc, if_pos ⟨rfl, by show w64 (0 + (k : Int)) = (k : Int); rw [Int.zero_add]; exact w64_in (WalkArith.wf_i64 (by omega))⟩]
    simp
theorem toS_nil : toS [] = ByteArray.empty := rfl
theorem mf_own (s : ByteArray) (B k : Nat) (hB : 0 < B) (hk : k * B + B ≤ s.size) : mfI s B (s.extract (k * B) (k * B + B)) (k : Int) = (k : Int) := by
  have hp : s.extract (k * B) (k * B + B) = piece s B k := by unfold piece; rw [Nat.add_mul, Nat.one_mul]
  have hkn : k < s.size / B := by rw [show (k < s.size / B ↔ k + 1 ≤ s.size / B) from Iff.rfl, Nat.le_div_iff_mul_le hB, Nat.add_mul, Nat.one_mul]; exact hk
  have hmem : k ∈ upFrom s B (piece s B k) (weakI (piece s B k)) (cnt s.size B) 0 := by
    refine mem_upFrom.2 ⟨Nat.lt_of_lt_of_le hkn (div_le_cnt s B hB), ?_⟩
    unfold okAt
    rw [decide_eq_true_eq]
    exact ⟨(piece_sizeB s B k hB).2 hkn, rfl, rfl⟩
  rw [hp]
  unfold mfI
  rw [if_pos]
  unfold lawIs
  rw [List.any_eq_true]
  exact ⟨k, hmem, decide_eq_true rfl⟩
theorem run_own (s : ByteArray) (B : Nat) (hB : 0 < B) (hs : s.size ≤ 524288) : ∀ j : Nat, j * B ≤ s.size → mkRun (mfI s B) s B ms0 = mkRun (mfI s B) s B ⟨ownL (j * B), [], j * B, j⟩ := by
  intro j
  induction j with
  | zero => intro _; simp [ownL, ms0]
  | succ j ih =>
    intro hj
    rw [Nat.add_mul, Nat.one_mul] at hj
    rw [ih (by omega), mkRun_go hB (by show j * B + B ≤ s.size; omega)]
    unfold mkStep
    simp only
    rw [mf_own s B j hB hj, if_neg (by omega)]
    congr 1
    rw [toS_nil, texts_nil, List.append_nil, ← Int.natCast_mul, copy_own _ _ (by omega) hB, Nat.add_mul, Nat.one_mul]
    simp
theorem steps_own (s : ByteArray) (B : Nat) (hB : 0 < B) (hs : s.size ≤ 524288) : stepsM (mfI s B) (tfI s B) s s.size B = ownL s.size := by
  have hd := Nat.div_add_mod s.size B
  have hm := Nat.mod_lt s.size hB
  have hNB : s.size / B * B = s.size - s.size % B := by rw [Nat.mul_comm]; omega
  have hr := run_own s B hB hs (s.size / B) (by omega)
  rw [mkRun_end (x := ⟨ownL (s.size / B * B), [], s.size / B * B, (s.size / B : Nat)⟩) (by show ¬ s.size / B * B + B ≤ s.size; omega)] at hr
  unfold stepsM
  rw [hr]
  simp only
  rw [hNB]
  obtain ⟨r, hrr⟩ : ∃ r, r = s.extract (s.size - s.size % B) s.size := ⟨_, rfl⟩
  have hrs : r.size = s.size % B := by rw [hrr, ByteArray.size_extract]; have := Nat.mod_le s.size B; omega
  rw [← hrr]
  unfold endL
  rw [hrs, Nat.sub_self, show r.extract 0 (s.size % B) = r by rw [← hrs]; exact ByteArray.extract_zero_size]
  unfold tfI
  rw [← hrr]
  have hle := Nat.mod_le s.size B
  by_cases h0 : 0 < s.size % B
  · rw [if_pos ⟨Nat.le_refl _, decide_eq_true ⟨h0, rfl⟩⟩, List.take_zero, List.append_nil, toS_nil, texts_nil, List.append_nil, copy_own _ _ (by omega) h0]
    congr 1; omega
  · rw [if_neg (fun h => h0 (of_decide_eq_true h.2).1)]
    have hr0 : r.data.toList = [] := by
      apply List.eq_nil_of_length_eq_zero
      rw [Array.length_toList]
      show r.size = 0
      omega
    rw [hr0, List.append_nil, toS_nil, texts_nil, List.append_nil]
    congr 1; omega
end Go.Proofs.Ytgemhgllifhckaa
