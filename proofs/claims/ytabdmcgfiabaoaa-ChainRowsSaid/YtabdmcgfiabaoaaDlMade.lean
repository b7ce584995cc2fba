/- What the steps made under an ideal book make of the basis: the text. The plain law. No conditions. -/
import Derived.Test.YtabdmcgfiabaoaaDlRun
namespace Go.Proofs.Ytabdmcgfiabaoaa
open Go.RowKit Sg
set_option linter.unusedVariables false
set_option linter.unusedSimpArgs false
/-- the bytes n from a on -/
def cutL (b : ByteArray) (a n : Nat) : List UInt8 := (b.data.toList.drop a).take n
def made1 (b : ByteArray) (x : St) : List UInt8 := cutL b x.pos.toNat x.len.toNat ++ x.text.data.toList
def made (b : ByteArray) (L : List St) : List UInt8 := L.flatMap (made1 b)
def InL (z : Nat) (L : List St) : Prop := ∀ x ∈ L, x.pos + x.len ≤ z
theorem made_append (b : ByteArray) (L M : List St) : made b (L ++ M) = made b L ++ made b M := by unfold made; rw [List.flatMap_append]
theorem made_one (b : ByteArray) (x : St) : made b [x] = made1 b x := by simp [made]
theorem cutL_ext (b : ByteArray) (a n : Nat) : (b.extract a (a + n)).data.toList = cutL b a n := by
  unfold cutL
  rw [ByteArray.data_extract]
  simp [List.extract]
theorem cutL_len {b : ByteArray} {a n : Nat} (h : a + n ≤ b.size) : (cutL b a n).length = n := by
  unfold cutL
  rw [List.length_take, List.length_drop, bs_len]; omega
theorem cutL_add (b : ByteArray) (a m n : Nat) : cutL b a (m + n) = cutL b a m ++ cutL b (a + m) n := by
  unfold cutL
  rw [List.take_add, List.drop_drop]
theorem okS_right {x : St} (h : okS x) : rightS x := by
  unfold okS at h
  unfold rightS textS copyS
  omega
theorem okS_nn {x : St} (h : okS x) : 0 ≤ x.pos ∧ 0 ≤ x.len ∧ x.pos + x.len ≤ 524288 := by
  unfold okS at h; omega
theorem InL.append {z : Nat} {L M : List St} (h : InL z L) (k : InL z M) : InL z (L ++ M) := by
  intro x hx
  rw [List.mem_append] at hx
  exact hx.elim (h x) (k x)
theorem InL.texts (z : Nat) (s : ByteArray) : InL z (texts s) := by
  intro x hx
  unfold Go.Proofs.Ytabdmcgfiabaoaa.texts at hx
  rw [List.mem_map] at hx
  obtain ⟨i, _, rfl⟩ := hx
  show (0 : Int) + 0 ≤ z
  omega
theorem InL.copy {z : Nat} {L : List St} (h : InL z L) (hs : ShL L) {a n : Nat} (hn : a + n ≤ z) : InL z (copyL L (a : Int) (n : Int)) := by
  rcases List.eq_nil_or_concat L with rfl | ⟨o, x, rfl⟩
  · rw [copyL_nil]
    intro x hx
    obtain rfl := List.mem_singleton.1 hx
    show (a : Int) + n ≤ z
    omega
  · rw [List.concat_eq_append] at h hs ⊢
    rw [copyL_snoc]
    have ho := okS_nn (hs x (by simp))
    split
    · rename_i hc
      rw [w64_in (WalkArith.wf_i64 (by omega))] at hc
      intro y hy
      rw [List.mem_append] at hy
      rcases hy with hy | hy
      · exact h y (by simp [hy])
      · obtain rfl := List.mem_singleton.1 hy
        show x.pos + (x.len + n) ≤ z
        omega
    · intro y hy
      rw [List.mem_append] at hy
      rcases hy with hy | hy
      · exact h y hy
      · obtain rfl := List.mem_singleton.1 hy
        show (a : Int) + n ≤ z
        omega
theorem made_copy (b : ByteArray) {L : List St} (hs : ShL L) {a n : Nat} (hn : 0 < n) (hb : a + n ≤ 524288) : made b (copyL L (a : Int) (n : Int)) = made b L ++ cutL b a n := by
  have h1 : made1 b ⟨(a : Int), (n : Int), ByteArray.empty⟩ = cutL b a n := by
    unfold made1
    simp
  rcases List.eq_nil_or_concat L with rfl | ⟨o, x, rfl⟩
  · rw [copyL_nil, made_one, h1]; simp [made]
  · rw [List.concat_eq_append] at hs ⊢
    rw [copyL_snoc]
    have ho := okS_nn (hs x (by simp))
    split
    · rename_i hc
      rw [w64_in (WalkArith.wf_i64 (by omega))] at hc
      rw [made_append, made_append, made_one, made_one, List.append_assoc]
      congr 1
      have ht : x.text.data.toList = [] := by
        apply List.eq_nil_of_length_eq_zero; rw [bs_len]; exact hc.1
      unfold made1
      simp only
      rw [ht, List.append_nil, List.append_nil, show (x.len + (n : Int)).toNat = x.len.toNat + n by omega, cutL_add, show x.pos.toNat + x.len.toNat = a by omega]
    · rw [made_append _ (o ++ [x]), made_one, h1]
theorem made_textsN (b s : ByteArray) (k : Nat) : made b (textsN s k) = s.data.toList.take (4096 * k) := by
  induction k with
  | zero => simp [textsN, made]
  | succ k ih =>
    rw [textsN_succ, made_append, ih, made_one, Nat.mul_add, Nat.mul_one, List.take_add]
    congr 1
    unfold made1
    rw [cutL_ext]
    unfold cutL
    simp
theorem made_texts (b s : ByteArray) : made b (texts s) = s.data.toList := by
  rw [texts_eq s _ rfl, made_textsN, List.take_of_length_le]
  rw [bs_len]; omega
theorem sent_append (L M : List St) : sentL (L ++ M) = sentL L + sentL M := by unfold sentL; rw [List.map_append, List.sum_append]
theorem sent_copy (L : List St) (a n : Int) : sentL (copyL L a n) = sentL L := by
  rcases List.eq_nil_or_concat L with rfl | ⟨o, x, rfl⟩
  · rw [copyL_nil]; rfl
  · rw [List.concat_eq_append, copyL_snoc]
    split
    · rw [sent_append, sent_append]; rfl
    · rw [sent_append _ [_]]; rfl
theorem sent_made (b : ByteArray) (L : List St) (h : ∀ x ∈ L, x.len = 0) : sentL L = (made b L).length := by
  induction L with
  | nil => rfl
  | cons x L ih =>
    rw [show x :: L = [x] ++ L from rfl, sent_append, made_append, List.length_append, ih (fun y hy => h y (by simp [hy])), made_one]
    unfold made1 cutL
    rw [h x (by simp)]
    simp [sentL]
theorem sent_texts (s : ByteArray) : sentL (texts s) = s.size := by
  rw [sent_made ByteArray.empty, made_texts, bs_len]
  intro x hx
  unfold texts at hx
  rw [List.mem_map] at hx
  obtain ⟨i, _, rfl⟩ := hx
  rfl
theorem sum2_made (b : ByteArray) {L : List St} (h : ShL L) (hi : InL b.size L) : sum2 L = (made b L).length := by
  induction L with
  | nil => rfl
  | cons x L ih =>
    have ho := okS_nn (h x (by simp))
    have hx := hi x (by simp)
    have h2 := ih (fun y hy => h y (by simp [hy])) (fun y hy => hi y (by simp [hy]))
    rw [show x :: L = [x] ++ L from rfl, made_append, made_one, List.length_append, ← h2]
    have e : sum2 ([x] ++ L) = sum1 x + sum2 L := by simp [sum2]
    rw [e]
    unfold made1 sum1
    rw [List.length_append, cutL_len (by omega), bs_len]; omega
theorem runS_made (b : ByteArray) : ∀ (L : List St) (o : ByteArray), ShL L → InL b.size L → o.size + (made b L).length ≤ 524288 → runS b L o = (⟨(o.data.toList ++ made b L).toArray⟩, 0) := by
  intro L
  induction L with
  | nil => intro o _ _ _; simp [runS, made]
  | cons x L ih =>
    intro o h hi hl
    have ho := okS_nn (h x (by simp))
    have hx := hi x (by simp)
    rw [show x :: L = [x] ++ L from rfl, made_append, made_one] at hl ⊢
    have e1 : (made1 b x).length = x.len.toNat + x.text.size := by unfold made1; rw [List.length_append, cutL_len (by omega), bs_len]
    rw [List.length_append, e1] at hl
    show runS b (x :: L) o = _
    rw [runS_go ⟨okS_right (h x (by simp)), hx⟩ (by omega), ih _ (fun y hy => h y (by simp [hy])) (fun y hy => hi y (by simp [hy]))]
    · rw [app3, show (x.pos + x.len).toNat = x.pos.toNat + x.len.toNat by omega, cutL_ext]
      unfold made1
      simp [List.append_assoc]
    · rw [wr3_size, ByteArray.size_extract]; omega
theorem mfI_yes {b : ByteArray} {B : Nat} (hB : 0 < B) {t : ByteArray} {wn : Int} (h : 0 ≤ mfI b B t wn) : ∃ k : Nat, mfI b B t wn = k ∧ k * B + B ≤ b.size ∧ cutL b (k * B) B = bytesOf t := by
  have key : ∀ k : Nat, okAt b B t (weakI t) k = true → k * B + B ≤ b.size ∧ cutL b (k * B) B = bytesOf t := by
    intro k ho
    unfold okAt at ho
    rw [decide_eq_true_eq] at ho
    obtain ⟨h1, h2, _⟩ := ho
    have h3 := (piece_sizeB b B k hB).1 h1
    have h4 : k * B + B ≤ b.size := by
      have : (k + 1) * B ≤ b.size := (Nat.le_div_iff_mul_le hB).1 h3
      rw [Nat.add_mul, Nat.one_mul] at this; exact this
    refine ⟨h4, ?_⟩
    rw [← h2]
    unfold piece bytesOf
    rw [Nat.add_mul, Nat.one_mul, cutL_ext]
  unfold mfI at h ⊢
  by_cases hi : lawIs b B t (weakI t) wn (cnt b.size B) 0 = true
  · rw [if_pos hi]
    unfold lawIs at hi
    rw [List.any_eq_true] at hi
    obtain ⟨k, hk, hw⟩ := hi
    have hw := of_decide_eq_true hw
    exact ⟨k, hw.symm, key k (mem_upFrom.1 hk).2⟩
  · rw [if_neg hi] at h ⊢
    unfold lawM at h ⊢
    cases hh : (upFrom b B t (weakI t) (cnt b.size B) 0).head? with
    | none => rw [hh] at h; exact absurd h (by decide)
    | some k => exact ⟨k, rfl, key k (mem_upFrom.1 (List.mem_of_head? hh)).2⟩
/-- what holds of what was made so far -/
structure MI (b s : ByteArray) (x : Ms) : Prop where
  sh : ShL x.L
  inn : InL b.size x.L
  le : x.at_ ≤ s.size
  made : made b x.L ++ x.t = s.data.toList.take x.at_
  sent : sentL x.L + x.t.length ≤ x.at_
theorem MI.start (b s : ByteArray) : MI b s ms0 := ⟨fun x h => (by cases h), fun x h => (by cases h), Nat.zero_le _, by simp [ms0, Go.Proofs.Ytabdmcgfiabaoaa.made], Nat.le_refl _⟩
theorem MI.step {b s : ByteArray} {B : Nat} (hB : 0 < B) (hb : b.size ≤ 524288) {x : Ms} (h : MI b s x) (hx : x.at_ + B ≤ s.size) : MI b s (mkStep (mfI b B) s B x) := by
  unfold mkStep
  by_cases hm : mfI b B (s.extract x.at_ (x.at_ + B)) x.wn < 0
  · rw [if_pos hm]
    refine ⟨h.sh, h.inn, by show x.at_ + 1 ≤ s.size; omega, ?_, ?_⟩
    · show Go.Proofs.Ytabdmcgfiabaoaa.made b x.L ++ (x.t ++ _) = _
      rw [← List.append_assoc, h.made, List.take_add]
    · show sentL x.L + (x.t ++ _).length ≤ x.at_ + 1
      have := h.sent
      have := List.length_take_le 1 (s.data.toList.drop x.at_)
      rw [List.length_append]; omega
  · rw [if_neg hm]
    obtain ⟨k, hk, hkb, hc⟩ := mfI_yes hB (Int.not_lt.1 hm)
    rw [hk, ← Int.natCast_mul]
    have hs2 := h.sh.append (ShL.texts (toS x.t))
    refine ⟨hs2.copy (by omega) (by omega) (by omega), (h.inn.append (InL.texts _ _)).copy hs2 hkb, hx, ?_, ?_⟩
    · show Go.Proofs.Ytabdmcgfiabaoaa.made b (copyL _ _ _) ++ [] = _
      rw [List.append_nil, made_copy b hs2 hB (by omega), made_append, made_texts, hc, List.take_add, ← h.made]
      congr 1
      unfold bytesOf
      rw [cutL_ext]; rfl
    · show sentL (copyL _ _ _) + 0 ≤ x.at_ + B
      rw [sent_copy, sent_append, sent_texts, toS_size]
      have := h.sent; omega
theorem MI.run {b s : ByteArray} {B : Nat} (hB : 0 < B) (hb : b.size ≤ 524288) : ∀ (n : Nat) (x : Ms), s.size - x.at_ ≤ n → MI b s x → MI b s (mkRun (mfI b B) s B x) := by
  intro n
  induction n with
  | zero =>
    intro x hn h
    rw [mkRun_end (by omega)]; exact h
  | succ n ih =>
    intro x hn h
    by_cases hx : x.at_ + B ≤ s.size
    · rw [mkRun_go hB hx]
      have := mkStep_at (mfI b B) s B x hB
      exact ih _ (by omega) (h.step hB hb hx)
    · rw [mkRun_end hx]; exact h
theorem rest_bytes (s : ByteArray) (a : Nat) : (s.extract a s.size).data.toList = s.data.toList.drop a := by
  rw [ByteArray.data_extract]
  simp [List.extract]
  exact List.take_of_length_le (by rw [List.length_drop, bs_len]; omega)
theorem stepsI_made (b s : ByteArray) (B : Nat) (hB : 0 < B) (hb : b.size ≤ 524288) : ShL (stepsI b s B) ∧ InL b.size (stepsI b s B) ∧ made b (stepsI b s B) = s.data.toList ∧ sentL (stepsI b s B) ≤ s.size := by
  have h := MI.run (s := s) hB hb s.size ms0 (Nat.sub_le _ _) (MI.start b s)
  unfold stepsI stepsM
  obtain ⟨x, hx⟩ : ∃ x, x = mkRun (mfI b B) s B ms0 := ⟨_, rfl⟩
  rw [← hx] at h ⊢
  obtain ⟨r, hr⟩ : ∃ r, r = s.extract x.at_ s.size := ⟨_, rfl⟩
  have hrb : r.data.toList = s.data.toList.drop x.at_ := by rw [hr, rest_bytes]
  have hrs : r.size = s.size - x.at_ := by rw [hr, ByteArray.size_extract]; omega
  have hle := h.le
  have hsent := h.sent
  rw [← hr]
  unfold endL
  by_cases hc : b.size % B ≤ r.size ∧ tfI b B (r.extract (r.size - b.size % B) r.size) = true
  · rw [if_pos hc]
    have ht := of_decide_eq_true hc.2
    obtain ⟨m, hm⟩ : ∃ m, m = b.size % B := ⟨_, rfl⟩
    have hmb : m ≤ b.size := by rw [hm]; exact Nat.mod_le _ _
    rw [← hm] at ht hc ⊢
    obtain ⟨ht1, ht2⟩ := ht
    unfold bytesOf at ht2
    have hs2 := h.sh.append (ShL.texts (toS (x.t ++ r.data.toList.take (r.size - m))))
    have e1 : r.data.toList.drop (r.size - m) = cutL b (b.size - m) m := by
      rw [← rest_bytes, ht2]
      have := cutL_ext b (b.size - m) m
      rw [show b.size - m + m = b.size by omega] at this
      exact this
    refine ⟨hs2.copy (by omega) (by omega) (by omega), (h.inn.append (InL.texts _ _)).copy hs2 (by omega), ?_, ?_⟩
    · rw [made_copy b hs2 ht1 (by omega), made_append, made_texts, ← e1]
      show made b x.L ++ (x.t ++ r.data.toList.take (r.size - m)) ++ _ = _
      rw [List.append_assoc, List.append_assoc, List.take_append_drop, ← List.append_assoc, h.made, hrb, List.take_append_drop]
    · rw [sent_copy, sent_append, sent_texts, toS_size, List.length_append, List.length_take, bs_len]; omega
  · rw [if_neg hc]
    refine ⟨h.sh.append (ShL.texts _), h.inn.append (InL.texts _ _), ?_, ?_⟩
    · rw [made_append, made_texts]
      show made b x.L ++ (x.t ++ r.data.toList) = _
      rw [← List.append_assoc, h.made, hrb, List.take_append_drop]
    · rw [sent_append, sent_texts, toS_size, List.length_append, bs_len]; omega
/-- the delta made: it may be, and it makes the text -/
theorem stepsI_right (b s : ByteArray) (B : Nat) (i j : Nat) (hB : 0 < B) (hb : b.size ≤ 524288) (hs : s.size ≤ 524288) : RightP ⟨numS i, numS j, s.size, stepsI b s B⟩ ∧ runS b (stepsI b s B) ByteArray.empty = (s, 0) ∧ sentL (stepsI b s B) ≤ s.size ∧ (stepsI b s B).length ≤ s.size ∧ ∀ x ∈ stepsI b s B, x.ok := by
  obtain ⟨h1, h2, h3, h4⟩ := stepsI_made b s B hB hb
  have h5 := sum2_made b h1 h2
  rw [h3, bs_len] at h5
  have h6 : ∀ x ∈ stepsI b s B, rightS x := fun x hx => okS_right (h1 x hx)
  refine ⟨⟨numS_size _, numS_size _, by show (0 : Int) ≤ (s.size : Int); omega, by show (s.size : Int) ≤ 524288; omega, h6, by show ((sum2 (stepsI b s B) : Nat) : Int) = (s.size : Int); rw [h5]⟩, ?_, h4, by rw [← h5]; exact sum2_len h6, ?_⟩
  · rw [runS_made b _ _ h1 h2 (by rw [h3, bs_len]; show 0 + s.size ≤ 524288; omega), h3]
    simp
  · intro x hx
    obtain ⟨a1, a2, a3, a4, a5⟩ := rightS_pos (h6 x hx)
    exact ⟨wfI _ (by omega) (by omega), wfI _ (by omega) (by omega), by unfold maxLen; omega⟩
end Go.Proofs.Ytabdmcgfiabaoaa
