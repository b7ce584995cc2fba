/- What the steps made under an ideal book make of the basis: the text. The plain law. No conditions. -/
import Derived.Test.YtgkcnocfijckoaaGreatDlRun
import Derived.Deep.RegionHeld3
namespace Go.Proofs.YtgkcnocfijckoaaGreat
open Go.RowKit Sg
set_option linter.unusedVariables false
set_option linter.unusedSimpArgs false
/-- the bytes n from a on -/
def cutL (b : ByteArray) (a n : Nat) : List UInt8 := (b.data.toList.drop a).take n
def made1 (b : ByteArray) (x : St) : List UInt8 := cutL b x.pos.toNat x.len.toNat ++ x.text.data.toList
def made (b : ByteArray) (L : List St) : List UInt8 := L.flatMap (made1 b)
def InL (z : Nat) (L : List St) : Prop := ∀ x ∈ L, x.pos + x.len ≤ z
theorem made_append (b : ByteArray) (L M : List St) : made b (L ++ M) = made b L ++ made b M := by unfold made; rw [List.flatMap_append]
theorem made_one (b : ByteArray) (x : St) : made b [x] = made1 b x := by simp [made]
theorem cutL_ext (b : ByteArray) (a n : Nat) : (b.extract a (a + n)).data.toList = cutL b a n := by
  unfold cutL
  rw [ByteArray.data_extract]
  simp [List.extract]
theorem cutL_len {b : ByteArray} {a n : Nat} (h : a + n ≤ b.size) : (cutL b a n).length = n := by
  unfold cutL
  rw [List.length_take, List.length_drop, bs_len]; omega
theorem cutL_add (b : ByteArray) (a m n : Nat) : cutL b a (m + n) = cutL b a m ++ cutL b (a + m) n := by
  unfold cutL
  rw [List.take_add, List.drop_drop]
theorem okS_right {x : St} (h : okS x) : rightS x := by
  unfold okS at h
  unfold rightS textS copyS
  omega
theorem okS_nn {x : St} (h : okS x) : 0 ≤ x.pos ∧ 0 ≤ x.len ∧ x.pos + x.len ≤ 524288 := by
  unfold okS at h; omega
theorem InL.append {z : Nat} {L M : List St} (h : InL z L) (k : InL z M) : InL z (L ++ M) := by
  intro x hx
  rw [List.mem_append] at hx
  exact hx.elim (h x) (k x)
theorem InL.texts (z : Nat) (s : ByteArray) : InL z (texts s) := by
  intro x hx
  unfold Go.Proofs.YtgkcnocfijckoaaGreat.texts at hx
  rw [List.mem_map] at hx
  obtain ⟨i, _, rfl⟩ := hx
  show (0 : Int) + 0 ≤ z
  omega
theorem InL.copy {z : Nat} {L : List St} (h : InL z L) (hs : ShL L) {a n : Nat} (hn : a + n ≤ z) : InL z (copyL L (a : Int) (n : Int)) := by
  rcases List.eq_nil_or_concat L with rfl | ⟨o, x, rfl⟩
  · rw [copyL_nil]
    intro x hx
    obtain rfl := List.mem_singleton.1 hx
    show (a : Int) + n ≤ z
    omega
  · rw [List.concat_eq_append] at h hs ⊢
    rw [copyL_snoc]
    have ho := okS_nn (hs x (by simp))
    split
    · rename_i hc
      rw [w64_in (WalkArith.wf_i64 (by omega))] at hc
      intro y hy
      rw [List.mem_append] at hy
      rcases hy with hy | hy
      · exact h y (by simp [hy])
      · obtain rfl := List.mem_singleton.1 hy
        show x.pos + (x.len + n) ≤ z
        omega
    · intro y hy
      rw [List.mem_append] at hy
      rcases hy with hy | hy
      · exact h y hy
      · obtain rfl := List.mem_singleton.1 hy
        show (a : Int) + n ≤ z
        omega
theorem made_copy (b : ByteArray) {L : List St} (hs : ShL L) {a n : Nat} (hn : 0 < n) (hb : a + n ≤ 524288) : made b (copyL L (a : Int) (n : Int)) = made b L ++ cutL b a n := by
  have h1 : made1 b ⟨(a : Int), (n : Int), ByteArray.empty⟩ = cutL b a n := by
    unfold made1
    simp
  rcases List.eq_nil_or_concat L with rfl | ⟨o, x, rfl⟩
  · rw [copyL_nil, made_one, h1]; simp [made]
  · rw [List.concat_eq_append] at hs ⊢
    rw [copyL_snoc]
    have ho := okS_nn (hs x (by simp))
    split
    · rename_i hc
      rw [w64_in (WalkArith.wf_i64 (by omega))] at hc
      rw [made_append, made_append, made_one, made_one, List.append_assoc]
      congr 1
      have ht : x.text.data.toList = [] := by
        apply List.eq_nil_of_length_eq_zero; rw [bs_len]; exact hc.1
      unfold made1
      simp only
      rw [ht, List.append_nil, List.append_nil, show (x.len + (n : Int)).toNat = x.len.toNat + n by omega, cutL_add, show x.pos.toNat + x.len.toNat = a by omega]
    · rw [made_append _ (o ++ [x]), made_one, h1]
theorem made_textsN (b s : ByteArray) (k : Nat) : made b (textsN s k) = s.data.toList.take (4096 * k) := by
  induction k with
  | zero => simp [textsN, made]
  | succ k ih =>
    rw [textsN_succ, made_append, ih, made_one, Nat.mul_add, Nat.mul_one, List.take_add]
    congr 1
    unfold made1
    rw [cutL_ext]
    unfold cutL
    simp
theorem made_texts (b s : ByteArray) : made b (texts s) = s.data.toList := by
  rw [texts_eq s _ rfl, made_textsN, List.take_of_length_le]
  rw [bs_len]; omega
theorem sent_append (L M : List St) : sentL (L ++ M) = sentL L + sentL M := by unfold sentL; rw [List.map_append, List.sum_append]
theorem sent_copy (L : List St) (a n : Int) : sentL (copyL L a n) = sentL L := by
  rcases List.eq_nil_or_concat L with rfl | ⟨o, x, rfl⟩
  · rw [copyL_nil]; rfl
  · rw [List.concat_eq_append, copyL_snoc]
    split
    · rw [sent_append, sent_append]; rfl
    · rw [sent_append _ [_]]; rfl
theorem sent_made (b : ByteArray) (L : List St) (h : ∀ x ∈ L, x.len = 0) : sentL L = (made b L).length := by
  induction L with
  | nil => rfl
  | cons x L ih =>
    rw [show x :: L = [x] ++ L from rfl, sent_append, made_append, List.length_append, ih (fun y hy => h y (by simp [hy])), made_one]
    unfold made1 cutL
    rw [h x (by simp)]
    simp [sentL]
theorem sent_texts (s : ByteArray) : sentL (texts s) = s.size := by
  rw [sent_made ByteArray.empty, made_texts, bs_len]
  intro x hx
  unfold texts at hx
  rw [List.mem_map] at hx
  obtain ⟨i, _, rfl⟩ := hx
  rfl
theorem sum2_made (b : ByteArray) {L : List St} (h : ShL L) (hi : InL b.size L) : sum2 L = (made b L).length := by
  induction L with
  | nil => rfl
  | cons x L ih =>
    have ho := okS_nn (h x (by simp))
    have hx := hi x (by simp)
    have h2 := ih (fun y hy => h y (by simp [hy])) (fun y hy => hi y (by simp [hy]))
    rw [show x :: L = [x] ++ L from rfl, made_append, made_one, List.length_append, ← h2]
    have e : sum2 ([x] ++ L) = sum1 x + sum2 L := by simp [sum2]
    rw [e]
    unfold made1 sum1
    rw [List.length_append, cutL_len (by omega), bs_len]; omega
theorem runS_made (b : ByteArray) : ∀ (L : List St) (o : ByteArray), ShL L → InL b.size L → o.size + (made b L).length ≤ 524288 → runS b L o = (⟨(o.data.toList ++ made b L).toArray⟩, 0) := by
  intro L
  induction L with
  | nil => intro o _ _ _; simp [runS, made]
  | cons x L ih =>
    intro o h hi hl
    have ho := okS_nn (h x (by simp))
    have hx := hi x (by simp)
    rw [show x :: L = [x] ++ L from rfl, made_append, made_one] at hl ⊢
    have e1 : (made1 b x).length = x.len.toNat + x.text.size := by unfold made1; rw [List.length_append, cutL_len (by omega), bs_len]
    rw [List.length_append, e1] at hl
    show runS b (x :: L) o = _
    rw [runS_go ⟨okS_right (h x (by simp)), hx⟩ (by omega), ih _ (fun y hy => h y (by simp [hy])) (fun y hy => hi y (by simp [hy]))]
    · rw [app3, show (x.pos + x.len).toNat = x.pos.toNat + x.len.toNat by omega, cutL_ext]
      unfold made1
      simp [List.append_assoc]
    · rw [wr3_size, ByteArray.size_extract]; omega
theorem mfI_yes {b : ByteArray} {B : Nat} (hB : 0 < B) {t : ByteArray} {wn : Int} (h : 0 ≤ mfI b B t wn) : ∃ k : Nat, mfI b B t wn = k ∧ k * B + B ≤ b.size ∧ cutL b (k * B) B = bytesOf t := by
  have key : ∀ k : Nat, okAt b B t (weakI t) k = true → k * B + B ≤ b.size ∧ cutL b (k * B) B = bytesOf t := by
    intro k ho
    unfold okAt at ho
    rw [decide_eq_true_eq] at ho
    obtain ⟨h1, h2, _⟩ := ho
    have h3 := (piece_sizeB b B k hB).1 h1
    have h4 : k * B + B ≤ b.size := by
      have : (k + 1) * B ≤ b.size := (Nat.le_div_iff_mul_le hB).1 h3
      rw [Nat.add_mul, Nat.one_mul] at this; exact this
    refine ⟨h4, ?_⟩
    rw [← h2]
    unfold piece bytesOf
    rw [Nat.add_mul, Nat.one_mul, cutL_ext]
  unfold mfI at h ⊢
  by_cases hi : lawIs b B t (weakI t) wn (cnt b.size B) 0 = true
  · rw [if_pos hi]
    unfold lawIs at hi
    rw [List.any_eq_true] at hi
    obtain ⟨k, hk, hw⟩ := hi
    have hw := of_decide_eq_true hw
    exact ⟨k, hw.symm, key k (mem_upFrom.1 hk).2⟩
  · rw [if_neg hi] at h ⊢
    unfold lawM at h ⊢
    cases hh : (upFrom b B t (weakI t) (cnt b.size B) 0).head? with
    | none => rw [hh] at h; exact absurd h (by decide)
    | some k => exact ⟨k, rfl, key k (mem_upFrom.1 (List.mem_of_head? hh)).2⟩
/-- what holds of what was made so far -/
structure MI (b s : ByteArray) (x : Ms) : Prop where
  sh : ShL x.L
  inn : InL b.size x.L
  le : x.at_ ≤ s.size
  made : made b x.L ++ x.t = s.data.toList.take x.at_
  sent : sentL x.L + x.t.length ≤ x.at_
theorem MI.start (b s : ByteArray) : MI b s ms0 := ⟨fun x h => (by cases h), fun x h => (by cases h), Nat.zero_le _, by simp [ms0, Go.Proofs.YtgkcnocfijckoaaGreat.made], Nat.le_refl _⟩
theorem MI.step {b s : ByteArray} {B : Nat} (hB : 0 < B) (hb : b.size ≤ 524288) {x : Ms} (h : MI b s x) (hx : x.at_ + B ≤ s.size) : MI b s (mkStep (mfI b B) s B x) := by
  unfold mkStep
  by_cases hm : mfI b B (s.extract x.at_ (x.at_ + B)) x.wn < 0
  · rw [if_pos hm]
    refine ⟨h.sh, h.inn, by show x.at_ + 1 ≤ s.size; omega, ?_, ?_⟩
    · show Go.Proofs.YtgkcnocfijckoaaGreat.made b x.L ++ (x.t ++ _) = _
      rw [← List.append_assoc, h.made, List.take_add]
    · show sentL x.L + (x.t ++ _).length ≤ x.at_ + 1
      have := h.sent
      have := List.length_take_le 1 (s.data.toList.drop x.at_)
      rw [List.length_append]; omega
  · rw [if_neg hm]
    obtain ⟨k, hk, hkb, hc⟩ := mfI_yes hB (Int.not_lt.1 hm)
    rw [hk, ← Int.natCast_mul]
    have hs2 := h.sh.append (ShL.texts (toS x.t))
    refine ⟨hs2.copy (by omega) (by omega) (by omega), (h.inn.append (InL.texts _ _)).copy hs2 hkb, hx, ?_, ?_⟩
    · show Go.Proofs.YtgkcnocfijckoaaGreat.made b (copyL _ _ _) ++ [] = _
      rw [List.append_nil, made_copy b hs2 hB (by omega), made_append, made_texts, hc, List.take_add, ← h.made]
      congr 1
      unfold bytesOf
      rw [cutL_ext]; rfl
    · show sentL (copyL _ _ _) + 0 ≤ x.at_ + B
      rw [sent_copy, sent_append, sent_texts, toS_size]
      have := h.sent; omega
theorem MI.run {b s : ByteArray} {B : Nat} (hB : 0 < B) (hb : b.size ≤ 524288) : ∀ (n : Nat) (x : Ms), s.size - x.at_ ≤ n → MI b s x → MI b s (mkRun (mfI b B) s B x) := by
  intro n
  induction n with
  | zero =>
    intro x hn h
    rw [mkRun_end (by omega)]; exact h
  | succ n ih =>
    intro x hn h
    by_cases hx : x.at_ + B ≤ s.size
    · rw [mkRun_go hB hx]
      have := mkStep_at (mfI b B) s B x hB
      exact ih _ (by omega) (h.step hB hb hx)
    · rw [mkRun_end hx]; exact h
theorem rest_bytes (s : ByteArray) (a : Nat) : (s.extract a s.size).data.toList = s.data.toList.drop a := by
  rw [ByteArray.data_extract]
  simp [List.extract]
  exact List.take_of_length_le (by rw [List.length_drop, bs_len]; omega)
theorem stepsI_made (b s : ByteArray) (B : Nat) (hB : 0 < B) (hb : b.size ≤ 524288) : ShL (stepsI b s B) ∧ InL b.size (stepsI b s B) ∧ made b (stepsI b s B) = s.data.toList ∧ sentL (stepsI b s B) ≤ s.size := by
  have h := MI.run (s := s) hB hb s.size ms0 (Nat.sub_le _ _) (MI.start b s)
  unfold stepsI stepsM
  obtain ⟨x, hx⟩ : ∃ x, x = mkRun (mfI b B) s B ms0 := ⟨_, rfl⟩
  rw [← hx] at h ⊢
  obtain ⟨r, hr⟩ : ∃ r, r = s.extract x.at_ s.size := ⟨_, rfl⟩
  have hrb : r.data.toList = s.data.toList.drop x.at_ := by rw [hr, rest_bytes]
  have hrs : r.size = s.size - x.at_ := by rw [hr, ByteArray.size_extract]; omega
  have hle := h.le
  have hsent := h.sent
  rw [← hr]
  unfold endL
  by_cases hc : b.size % B ≤ r.size ∧ tfI b B (r.extract (r.size - b.size % B) r.size) = true
  · rw [if_pos hc]
    have ht := of_decide_eq_true hc.2
    obtain ⟨m, hm⟩ : ∃ m, m = b.size % B := ⟨_, rfl⟩
    have hmb : m ≤ b.size := by rw [hm]; exact Nat.mod_le _ _
    rw [← hm] at ht hc ⊢
    obtain ⟨ht1, ht2⟩ := ht
    unfold bytesOf at ht2
    have hs2 := h.sh.append (ShL.texts (toS (x.t ++ r.data.toList.take (r.size - m))))
    have e1 : r.data.toList.drop (r.size - m) = cutL b (b.size - m) m := by
      rw [← rest_bytes, ht2]
      have := cutL_ext b (b.size - m) m
      rw [show b.size - m + m = b.size by omega] at this
      exact this
    refine ⟨hs2.copy (by omega) (by omega) (by omega), (h.inn.append (InL.texts _ _)).copy hs2 (by omega), ?_, ?_⟩
    · rw [made_copy b hs2 ht1 (by omega), made_append, made_texts, ← e1]
      show made b x.L ++ (x.t ++ r.data.toList.take (r.size - m)) ++ _ = _
      rw [List.append_assoc, List.append_assoc, List.take_append_drop, ← List.append_assoc, h.made, hrb, List.take_append_drop]
    · rw [sent_copy, sent_append, sent_texts, toS_size, List.length_append, List.length_take, bs_len]; omega
  · rw [if_neg hc]
    refine ⟨h.sh.append (ShL.texts _), h.inn.append (InL.texts _ _), ?_, ?_⟩
    · rw [made_append, made_texts]
      show made b x.L ++ (x.t ++ r.data.toList) = _
      rw [← List.append_assoc, h.made, hrb, List.take_append_drop]
    · rw [sent_append, sent_texts, toS_size, List.length_append, bs_len]; omega
/-- the delta made: it may be, and it makes the text -/
theorem stepsI_right (b s : ByteArray) (B : Nat) (i j : Nat) (hB : 0 < B) (hb : b.size ≤ 524288) (hs : s.size ≤ 524288) : RightP ⟨numS i, numS j, s.size, stepsI b s B⟩ ∧ runS b (stepsI b s B) ByteArray.empty = (s, 0) ∧ sentL (stepsI b s B) ≤ s.size ∧ (stepsI b s B).length ≤ s.size ∧ ∀ x ∈ stepsI b s B, x.ok := by
  obtain ⟨h1, h2, h3, h4⟩ := stepsI_made b s B hB hb
  have h5 := sum2_made b h1 h2
  rw [h3, bs_len] at h5
  have h6 : ∀ x ∈ stepsI b s B, rightS x := fun x hx => okS_right (h1 x hx)
  refine ⟨⟨numS_size _, numS_size _, by show (0 : Int) ≤ (s.size : Int); omega, by show (s.size : Int) ≤ 524288; omega, h6, by show ((sum2 (stepsI b s B) : Nat) : Int) = (s.size : Int); rw [h5]⟩, ?_, h4, by rw [← h5]; exact sum2_len h6, ?_⟩
  · rw [runS_made b _ _ h1 h2 (by rw [h3, bs_len]; show 0 + s.size ≤ 524288; omega), h3]
    simp
  · intro x hx
    obtain ⟨a1, a2, a3, a4, a5⟩ := rightS_pos (h6 x hx)
    exact ⟨wfI _ (by omega) (by omega), wfI _ (by omega) (by omega), by unfold maxLen; omega⟩
end Go.Proofs.YtgkcnocfijckoaaGreat
namespace Go.Proofs.YtgkcnocfijckoaaGreat
open Go.RowKit Sg
set_option linter.unusedVariables false
set_option linter.unusedSimpArgs false
theorem below_g {w a b : World} {m : Nat} (hk : Kept (fun k => some m = some k) w a) (hg : a.grownBy b (some m)) : Kept (fun k => some m = some k) w b := hk.trans (Kept.of_grown hg) (fun _ _ h => h)
theorem kept_b {w a b : World} {m : Nat} (hk : Kept (fun k => some m = some k) w a) (hb : Below a.heap.size a b) : Kept (fun k => some m = some k) w b := hk.trans (Kept.of_below (fun k => some m = some k) hb) (fun _ _ h => h)
set_option maxRecDepth 100000 in
set_option maxHeartbeats 2000000 in
theorem apply_wrong (w : World) (p m : Nat) (S : Bk) (basis bm mk : ByteArray) (z : Int) (ao : Option Addr) (n cap : Nat) (l : List St) (hI : BookI w p m S) (hS : S.length ≤ 95000000) (hR : Rs w ao n cap 3 l St.c) (hok : ∀ x ∈ l, x.ok) (hP : RightP ⟨bm, mk, z, l⟩) (hbs : basis.size ≤ 140737488351232) (hne : numS (S.idxOf (bytesOf basis) + 1) ≠ bm) :
    Calls Tryz.prog 72 #[.pointer (some ⟨p, 0, none⟩), .string basis, .agg #[.string bm, .string mk, .int .i64 z, .slice ao n cap]] w fun e w' => e = .returned (.tuple #[.string ByteArray.empty, .int .i64 13]) ∧ Kept (fun k => some m = some k) w w' := by
  have hpm := hI.2.2.2.2.1
  have hz := hP.2.2.1
  have hz2 := hP.2.2.2.1
  have h32 := hP.1
  have h32' := hP.2.1
  simp only at hz hz2 h32 h32'
  obtain ⟨V1, hV1⟩ : ∃ V, V = w.alloc (Obj.cells #[.string bm, .string mk, .int .i64 z, .slice ao n cap] 55) := ⟨_, rfl⟩
  obtain ⟨pd, hpd⟩ : ∃ q, q = w.heap.size := ⟨_, rfl⟩
  have hb1 : Below w.heap.size w V1 := by rw [hV1]; exact below_alloc _ _
  have hG1 : Blk V1 pd [.string bm, .string mk, .int .i64 z, .slice ao n cap] 55 := by rw [hV1, hpd]; exact Blk.new _ _ _
  have HRI := Lib.hid (deltaRight_any V1 bm mk z ao n cap l (wfI _ (by omega) (by omega)) (by unfold maxLen; omega) (by unfold maxLen; omega) (hR.next hb1) hok)
  have q0 := hG1.cell (i := 0) rfl
  have q1 := hG1.cell (i := 1) rfl
  have q2 := hG1.cell (i := 2) rfl
  have q3 := hG1.cell (i := 3) rfl
  have hmp : m < pd := by rw [hpd]; exact hpm.2
  have HP := Lib.hid hP
  have HR := Lib.hid hR
  have HOK := Lib.hid hok
  have HI := Lib.hid hI
  have HV1 := Lib.hid hV1
  have HPD := Lib.hid hpd
  have HB1 := Lib.hid (And.intro hb1 hG1)
  have HPM := Lib.hid hpm
  clear hV1 hpd hb1 hG1 hR hok hP hI hpm h32 h32' hz hz2
  go_enter Tryz.func72, Tryz.ntmps72
  go_upto_region 1 with fail
  rw [← HPD.out, ← HV1.out]
  go_wp2_with fail
  refine HRI.out.mono ?_
  rintro e w2 ⟨⟨r, rfl, hr⟩, hb2⟩
  have hr1 : r = true := hr.2 HP.out
  subst hr1
  have hG2 := HB1.out.2.below hb2 HB1.out.2.lt
  have HI2 := Lib.hid ((HI.out.next HB1.out.1).next hb2)
  have HK2 := Lib.hid (kept_b (Kept.of_below (fun k => some m = some k) HB1.out.1) hb2)
  have HR2 := Lib.hid ((HR.out.next HB1.out.1).next hb2)
  have d0 := hG2.cell (i := 0) rfl
  have HG2 := Lib.hid hG2
  have HM1 : Hid (Calls Tryz.prog 46 #[.pointer (some ⟨p, 0, none⟩), .string basis] w2.drew fun e w' => e = .returned (.string (numS (S.idxOf (bytesOf basis) + 1))) ∧ BookI w' p m (addS S (bytesOf basis)) ∧ w2.drew.grownBy w' (some m)) := Lib.hid (mark_as (s := basis) (HI2.out.next (bl_drew (Below.refl _ w2))) (by unfold maxLen; omega) (by omega) _ _ rfl rfl)
  have HC1 : Hid (∀ w', w2.drew.grownBy w' (some m) → Blk w' pd [.string bm, .string mk, .int .i64 z, .slice ao n cap] 55) := Lib.hid (fun w' hg => (HG2.out.below (bl_drew (Below.refl _ w2)) HG2.out.lt).grown hg (by intro e; injection e with e; omega))
  obtain ⟨MK, hMK⟩ : ∃ M, M = numS (S.idxOf (bytesOf basis) + 1) := ⟨_, rfl⟩
  rw [← hMK] at HM1
  have HMK := Lib.hid hMK
  clear hMK hG2 hb2 hr q0 q1 q2 q3 HRI
  have hneq : (MK.toList == bm.toList) = false := beqS_f (fun h => by
    apply hne
    rw [← HMK.out]
    exact ByteArray.ext (Array.ext' h))
  clear hne
  go_upto_region 3 with fail
  go_region_held3 (fun w' => w'.cell? ⟨pd, 0, none⟩ = some (.string bm)) (first | exact HH | exact d0)
    (first | (go_at_call 46; refine HM1.out.mono ?_; rintro e w7 ⟨rfl, hK7, hG7⟩; have HH := (HC1.out w7 hG7).cell (i := 0) rfl))
  all_goals (
    have HE := Lib.hid (below_g (kept_b HK2.out (bl_drew (Below.refl _ w2))) hG7)
    go_wp2
    go_ret2
    exact ⟨rfl, HE.out⟩)
set_option maxRecDepth 100000 in
set_option maxHeartbeats 2000000 in
theorem apply_back (w : World) (p m : Nat) (S : Bk) (basis bm mk : ByteArray) (z : Int) (ao : Option Addr) (n cap : Nat) (l : List St) (t : ByteArray) (hI : BookI w p m S) (hS : S.length ≤ 95000000) (hR : Rs w ao n cap 3 l St.c) (hok : ∀ x ∈ l, x.ok) (hP : RightP ⟨bm, mk, z, l⟩) (hbs : basis.size ≤ 140737488351232) (hrk : ∀ W, Kept (fun k => some m = some k) w W → Rs W ao n cap 3 l St.c) (hb2 : basis.size ≤ 524288) (heq : numS (S.idxOf (bytesOf basis) + 1) = bm) (hrun : runS basis l ByteArray.empty = (t, 0)) (ht : t.size ≤ 524288) (hn : n ≤ 1000000) (hmk : numS ((addS S (bytesOf basis)).idxOf (bytesOf t) + 1) = mk) :
    Calls Tryz.prog 72 #[.pointer (some ⟨p, 0, none⟩), .string basis, .agg #[.string bm, .string mk, .int .i64 z, .slice ao n cap]] w fun e w' => e = .returned (.tuple #[.string t, .int .i64 0]) ∧ Kept (fun k => some m = some k) w w' := by
  have hpm := hI.2.2.2.2.1
  have hz := hP.2.2.1
  have hz2 := hP.2.2.2.1
  have h32 := hP.1
  have h32' := hP.2.1
  simp only at hz hz2 h32 h32'
  obtain ⟨V1, hV1⟩ : ∃ V, V = w.alloc (Obj.cells #[.string bm, .string mk, .int .i64 z, .slice ao n cap] 55) := ⟨_, rfl⟩
  obtain ⟨pd, hpd⟩ : ∃ q, q = w.heap.size := ⟨_, rfl⟩
  have hb1 : Below w.heap.size w V1 := by rw [hV1]; exact below_alloc _ _
  have hG1 : Blk V1 pd [.string bm, .string mk, .int .i64 z, .slice ao n cap] 55 := by rw [hV1, hpd]; exact Blk.new _ _ _
  have HRI := Lib.hid (deltaRight_any V1 bm mk z ao n cap l (wfI _ (by omega) (by omega)) (by unfold maxLen; omega) (by unfold maxLen; omega) (hR.next hb1) hok)
  have q0 := hG1.cell (i := 0) rfl
  have q1 := hG1.cell (i := 1) rfl
  have q2 := hG1.cell (i := 2) rfl
  have q3 := hG1.cell (i := 3) rfl
  have hmp : m < pd := by rw [hpd]; exact hpm.2
  have HP := Lib.hid hP
  have HR := Lib.hid hR
  have HOK := Lib.hid hok
  have HI := Lib.hid hI
  have HV1 := Lib.hid hV1
  have HPD := Lib.hid hpd
  have HB1 := Lib.hid (And.intro hb1 hG1)
  have HPM := Lib.hid hpm
  clear hV1 hpd hb1 hG1 hR hok hP hI hpm h32 h32' hz hz2
  go_enter Tryz.func72, Tryz.ntmps72
  go_upto_region 1 with fail
  rw [← HPD.out, ← HV1.out]
  go_wp2_with fail
  refine HRI.out.mono ?_
  rintro e w2 ⟨⟨r, rfl, hr⟩, hb2⟩
  have hr1 : r = true := hr.2 HP.out
  subst hr1
  have hG2 := HB1.out.2.below hb2 HB1.out.2.lt
  have HI2 := Lib.hid ((HI.out.next HB1.out.1).next hb2)
  have HK2 := Lib.hid (kept_b (Kept.of_below (fun k => some m = some k) HB1.out.1) hb2)
  have HR2 := Lib.hid ((HR.out.next HB1.out.1).next hb2)
  have d0 := hG2.cell (i := 0) rfl
  have HG2 := Lib.hid hG2
  have HM1 : Hid (Calls Tryz.prog 46 #[.pointer (some ⟨p, 0, none⟩), .string basis] w2.drew fun e w' => e = .returned (.string (numS (S.idxOf (bytesOf basis) + 1))) ∧ BookI w' p m (addS S (bytesOf basis)) ∧ w2.drew.grownBy w' (some m)) := Lib.hid (mark_as (s := basis) (HI2.out.next (bl_drew (Below.refl _ w2))) (by unfold maxLen; omega) (by omega) _ _ rfl rfl)
  have HC1 : Hid (∀ w', w2.drew.grownBy w' (some m) → Blk w' pd [.string bm, .string mk, .int .i64 z, .slice ao n cap] 55) := Lib.hid (fun w' hg => (HG2.out.below (bl_drew (Below.refl _ w2)) HG2.out.lt).grown hg (by intro e; injection e with e; omega))
  obtain ⟨MK, hMK⟩ : ∃ M, M = numS (S.idxOf (bytesOf basis) + 1) := ⟨_, rfl⟩
  rw [← hMK] at HM1
  have HMK := Lib.hid hMK
  clear hMK hG2 hb2 hr q0 q1 q2 q3 HRI
  rw [heq] at HMK
  obtain rfl := HMK.out
  have hneq : (MK.toList == MK.toList) = true := by simp
  go_upto_region 3 with fail
  go_region_held3 (fun w' => w'.cell? ⟨pd, 0, none⟩ = some (.string MK)) (first | exact HH | exact d0)
    (first | (go_at_call 46; refine HM1.out.mono ?_; rintro e w7 ⟨rfl, hK7, hG7⟩; have HH := (HC1.out w7 hG7).cell (i := 0) rfl))
  all_goals (
    have HE := Lib.hid (below_g (kept_b HK2.out (bl_drew (Below.refl _ w2))) hG7)
    have hG7b := HC1.out w7 hG7
    have hR7 : Rs w7 ao n cap 3 l St.c := hrk w7 HE.out
    have x3 := hG7b.cell (i := 3) rfl
    have HRUN := Lib.hid (run_any w7 basis ao n cap l hb2 hR7 hn HOK.out)
    rw [hrun] at HRUN
    simp only at HRUN
    have HI7 := Lib.hid hK7
    have HG7 := Lib.hid hG7b
    clear hrun hR7 hG7b hG7 hK7 HH HM1 HC1 d0
    go_wp2_with fail
    refine HRUN.out.mono ?_
    rintro e w8 ⟨rfl, hb8⟩
    have hG8 := HG7.out.below hb8 HG7.out.lt
    have HI8 := Lib.hid (HI7.out.next hb8)
    have HK8 := Lib.hid (kept_b HE.out hb8)
    have d1 := hG8.cell (i := 1) rfl
    have HG8 := Lib.hid hG8
    have HM2 : Hid (Calls Tryz.prog 46 #[.pointer (some ⟨p, 0, none⟩), .string t] w8.drew fun e w' => e = .returned (.string mk) ∧ BookI w' p m (addS (addS S (bytesOf basis)) (bytesOf t)) ∧ w8.drew.grownBy w' (some m)) := Lib.hid (by
      have := mark_as (s := t) (HI8.out.next (bl_drew (Below.refl _ w8))) (by unfold maxLen; omega) (by have := addS_len S (bytesOf basis); omega) _ _ rfl rfl
      rw [show (addS S (bytesOf basis)).idxOf t.data.toList = (addS S (bytesOf basis)).idxOf (bytesOf t) from rfl, hmk] at this
      exact this)
    have HC2 : Hid (∀ w', w8.drew.grownBy w' (some m) → Blk w' pd [.string MK, .string mk, .int .i64 z, .slice ao n cap] 55) := Lib.hid (fun w' hg => (HG8.out.below (bl_drew (Below.refl _ w8)) HG8.out.lt).grown hg (by intro e; injection e with e; omega))
    have hnm : (mk.toList == mk.toList) = true := by simp
    clear hmk hG8 hb8 x3 HRUN
    go_upto_region 8 with fail
    go_region_held3 (fun w' => w'.cell? ⟨pd, 1, none⟩ = some (.string mk)) (first | exact HH | exact d1)
      (first | (go_at_call 46; refine HM2.out.mono ?_; rintro e w7 ⟨rfl, hK7, hG7⟩; have HH := (HC2.out w7 hG7).cell (i := 1) rfl))
    all_goals (
      have HE2 := Lib.hid (below_g (kept_b HK8.out (bl_drew (Below.refl _ w8))) hG7)
      go_wp2
      go_ret2
      exact ⟨rfl, HE2.out⟩))
end Go.Proofs.YtgkcnocfijckoaaGreat
namespace Go.Proofs.YtgkcnocfijckoaaGreat
open Go.RowKit Sg
set_option linter.unusedVariables false
set_option linter.unusedSimpArgs false
open Classical in
noncomputable def rightI (d : Dl) : Bool := decide (RightP d)
open Classical in
theorem right_retI {d : Dl} {e : Ending} (h : RightR (RightP d) e) : e = .returned (.bool (rightI d)) := by
  obtain ⟨r, rfl, hr⟩ := h
  congr 2
  unfold rightI
  cases r with
  | true => exact (decide_eq_true (hr.1 rfl)).symm
  | false => exact (decide_eq_false (fun h => by have := hr.2 h; cases this)).symm
open Classical in
theorem rightI_iff {d : Dl} : rightI d = true ↔ RightP d := by unfold rightI; exact decide_eq_true_iff
def mkI (S : Bk) (t : ByteArray) : ByteArray := numS (S.idxOf (bytesOf t) + 1)
noncomputable def applyI (S : Bk) (b : ByteArray) (d : Dl) : ByteArray × Int :=
  if rightI d = true then (if ((mkI S b).toList == d.basis.toList) = true then (if (runS b d.steps ByteArray.empty).2 = 0 then (if ((mkI (addS S (bytesOf b)) (runS b d.steps ByteArray.empty).1).toList == d.mark.toList) = true then ((runS b d.steps ByteArray.empty).1, 0) else (ByteArray.empty, 6)) else (ByteArray.empty, (runS b d.steps ByteArray.empty).2)) else (ByteArray.empty, 13)) else (ByteArray.empty, 1)
noncomputable def applyB (S : Bk) (b : ByteArray) (d : Dl) : Bk :=
  if rightI d = true then (if ((mkI S b).toList == d.basis.toList) = true ∧ (runS b d.steps ByteArray.empty).2 = 0 then addS (addS S (bytesOf b)) (bytesOf (runS b d.steps ByteArray.empty).1) else addS S (bytesOf b)) else S
section
variable {S : Bk} {b : ByteArray} {d : Dl}
theorem applyI_no (h : rightI d = false) : applyI S b d = (ByteArray.empty, 1) ∧ applyB S b d = S := ⟨by unfold applyI; rw [h]; rfl, by unfold applyB; rw [h]; rfl⟩
theorem applyI_basis (h : rightI d = true) (h1 : ((mkI S b).toList == d.basis.toList) = false) : applyI S b d = (ByteArray.empty, 13) ∧ applyB S b d = addS S (bytesOf b) := by
  exact ⟨by unfold applyI; rw [if_pos h, h1]; rfl, by unfold applyB; rw [if_pos h, if_neg (fun h => by rw [h1] at h; cases h.1)]⟩
theorem applyI_run (h : rightI d = true) (h1 : ((mkI S b).toList == d.basis.toList) = true) (h2 : (runS b d.steps ByteArray.empty).2 ≠ 0) : applyI S b d = (ByteArray.empty, (runS b d.steps ByteArray.empty).2) ∧ applyB S b d = addS S (bytesOf b) := by
  exact ⟨by unfold applyI; rw [if_pos h, if_pos h1, if_neg h2], by unfold applyB; rw [if_pos h, if_neg (fun h => h2 h.2)]⟩
theorem applyI_sum (h : rightI d = true) (h1 : ((mkI S b).toList == d.basis.toList) = true) (h2 : (runS b d.steps ByteArray.empty).2 = 0) (h3 : ((mkI (addS S (bytesOf b)) (runS b d.steps ByteArray.empty).1).toList == d.mark.toList) = false) : applyI S b d = (ByteArray.empty, 6) ∧ applyB S b d = addS (addS S (bytesOf b)) (bytesOf (runS b d.steps ByteArray.empty).1) := by
  exact ⟨by unfold applyI; rw [if_pos h, if_pos h1, if_pos h2, h3]; rfl, by unfold applyB; rw [if_pos h, if_pos ⟨h1, h2⟩]⟩
theorem applyI_ok (h : rightI d = true) (h1 : ((mkI S b).toList == d.basis.toList) = true) (h2 : (runS b d.steps ByteArray.empty).2 = 0) (h3 : ((mkI (addS S (bytesOf b)) (runS b d.steps ByteArray.empty).1).toList == d.mark.toList) = true) : applyI S b d = ((runS b d.steps ByteArray.empty).1, 0) ∧ applyB S b d = addS (addS S (bytesOf b)) (bytesOf (runS b d.steps ByteArray.empty).1) := by
  exact ⟨by unfold applyI; rw [if_pos h, if_pos h1, if_pos h2, if_pos h3], by unfold applyB; rw [if_pos h, if_pos ⟨h1, h2⟩]⟩
end
theorem runI_size (b : ByteArray) : ∀ (l : List St) (o : ByteArray), o.size ≤ 524288 → (runS b l o).1.size ≤ 524288 := by
  intro l
  induction l with
  | nil => intro o h; exact h
  | cons x l ih =>
    intro o h
    by_cases h1 : rightS x ∧ x.pos + x.len ≤ b.size
    · by_cases h2 : 524288 < (o.size : Int) + x.len + x.text.size
      · rw [runS_long h1 h2]; exact Nat.zero_le _
      · rw [runS_go h1 h2]
        refine ih _ ?_
        obtain ⟨h3, h4, _⟩ := rightS_pos h1.1
        rw [wr3_size, ByteArray.size_extract]; omega
    · rw [runS_no h1]; exact Nat.zero_le _
set_option maxRecDepth 100000 in
set_option maxHeartbeats 2000000 in
theorem apply_i (w : World) (p m : Nat) (S : Bk) (hI : BookI w p m S) (hS : S.length ≤ 99000000) (basis bm mk : ByteArray) (z : Int) (ao : Option Addr) (n cap : Nat) (l : List St) (ws : (Lit.int .i64 z).wf = true) (hbm : bm.size ≤ maxLen) (hmk : mk.size ≤ maxLen) (hR : Rs w ao n cap 3 l St.c) (hok : ∀ x ∈ l, x.ok) (hn : n ≤ 1000000) (hb2 : basis.size ≤ 524288) (hrk : ∀ W, Kept (fun k => some m = some k) w W → Rs W ao n cap 3 l St.c) :
    Calls Tryz.prog 72 #[.pointer (some ⟨p, 0, none⟩), .string basis, .agg #[.string bm, .string mk, .int .i64 z, .slice ao n cap]] w fun e w' => e = .returned (.tuple #[.string (applyI S basis ⟨bm, mk, z, l⟩).1, .int .i64 (applyI S basis ⟨bm, mk, z, l⟩).2]) ∧ BookI w' p m (applyB S basis ⟨bm, mk, z, l⟩) ∧ Kept (fun k => some m = some k) w w' := by
  have hpm := hI.2.2.2.2.1
  obtain ⟨V1, hV1⟩ : ∃ V, V = w.alloc (Obj.cells #[.string bm, .string mk, .int .i64 z, .slice ao n cap] 55) := ⟨_, rfl⟩
  obtain ⟨pd, hpd⟩ : ∃ q, q = w.heap.size := ⟨_, rfl⟩
  have hb1 : Below w.heap.size w V1 := by rw [hV1]; exact below_alloc _ _
  have hG1 : Blk V1 pd [.string bm, .string mk, .int .i64 z, .slice ao n cap] 55 := by rw [hV1, hpd]; exact Blk.new _ _ _
  have HRI := Lib.hid (deltaRight_any V1 bm mk z ao n cap l ws hbm hmk (hR.next hb1) hok)
  have q0 := hG1.cell (i := 0) rfl
  have q1 := hG1.cell (i := 1) rfl
  have q2 := hG1.cell (i := 2) rfl
  have q3 := hG1.cell (i := 3) rfl
  have hmp : m < pd := by rw [hpd]; exact hpm.2
  have HR := Lib.hid hrk
  have HOK := Lib.hid hok
  have HI := Lib.hid hI
  have HV1 := Lib.hid hV1
  have HPD := Lib.hid hpd
  have HB1 := Lib.hid (And.intro hb1 hG1)
  clear hV1 hpd hb1 hG1 hR hok hI ws hbm hmk hrk hpm
  obtain ⟨D, hD⟩ : ∃ D : Dl, D = ⟨bm, mk, z, l⟩ := ⟨_, rfl⟩
  have e1 : D.basis = bm := by rw [hD]
  have e2 : D.mark = mk := by rw [hD]
  have e3 : D.steps = l := by rw [hD]
  rw [← hD] at HRI ⊢
  have HE := Lib.hid (And.intro e1 (And.intro e2 e3))
  obtain ⟨R, hRR⟩ : ∃ R, R = rightI D := ⟨_, rfl⟩
  have HRR := Lib.hid hRR
  obtain ⟨T, hT⟩ : ∃ T, T = (runS basis l ByteArray.empty).1 := ⟨_, rfl⟩
  obtain ⟨K, hK⟩ : ∃ K, K = (runS basis l ByteArray.empty).2 := ⟨_, rfl⟩
  have HT := Lib.hid (And.intro hT hK)
  obtain ⟨AR, hAR⟩ : ∃ AR, AR = applyI S basis D := ⟨_, rfl⟩
  have HAR : Hid (AR = applyI S basis D) := Lib.hid hAR
  rw [← hAR]
  obtain ⟨AB, hAB⟩ : ∃ AB, AB = applyB S basis D := ⟨_, rfl⟩
  have HAB : Hid (AB = applyB S basis D) := Lib.hid hAB
  rw [← hAB]
  obtain ⟨MB, hMB⟩ : ∃ M, M = mkI S basis := ⟨_, rfl⟩
  have HMB := Lib.hid hMB
  clear hD e1 e2 e3 hRR hT hK hAR hMB hAB
  go_enter Tryz.func72, Tryz.ntmps72
  go_upto_region 1 with fail
  rw [← HPD.out, ← HV1.out]
  go_wp2_with fail
  refine HRI.out.mono ?_
  rintro e w2 ⟨hr, hb2'⟩
  have hr2 := right_retI hr
  rw [← HRR.out] at hr2
  subst hr2
  have hG2 := HB1.out.2.below hb2' HB1.out.2.lt
  have HI2 := Lib.hid ((HI.out.next HB1.out.1).next hb2')
  have HK2 := Lib.hid (kept_b (Kept.of_below (fun k => some m = some k) HB1.out.1) hb2')
  have d0 := hG2.cell (i := 0) rfl
  have HG2 := Lib.hid hG2
  clear hr hb2' hG2 q0 q1 q2 q3 HRI
  cases R
  case false =>
    go_wp2
    go_ret2
    have h := applyI_no (S := S) (b := basis) HRR.out.symm
    refine ⟨?_, ?_, HK2.out⟩
    · rw [HAR.out, h.1]; rfl
    · rw [HAB.out, h.2]; exact HI2.out
  case true =>
    obtain ⟨F, hF⟩ : ∃ F, F = (MB.toList == bm.toList) := ⟨_, rfl⟩
    have HF := Lib.hid hF
    have HM1 : Hid (Calls Tryz.prog 46 #[.pointer (some ⟨p, 0, none⟩), .string basis] w2.drew fun e w' => e = .returned (.string (mkI S basis)) ∧ BookI w' p m (addS S (bytesOf basis)) ∧ w2.drew.grownBy w' (some m)) := Lib.hid (mark_as (s := basis) (HI2.out.next (bl_drew (Below.refl _ w2))) (by unfold maxLen; omega) (by omega) _ _ rfl rfl)
    have HC1 : Hid (∀ w', w2.drew.grownBy w' (some m) → Blk w' pd [.string bm, .string mk, .int .i64 z, .slice ao n cap] 55) := Lib.hid (fun w' hg => (HG2.out.below (bl_drew (Below.refl _ w2)) HG2.out.lt).grown hg (by intro e; injection e with e; omega))
    rw [← HMB.out] at HM1
    have hneq : (MB.toList == bm.toList) = F := hF.symm
    clear hF
    go_upto_region 3 with fail
    go_region_held3 (fun w' => w'.cell? ⟨pd, 0, none⟩ = some (.string bm)) (first | exact HH | exact d0)
      (first | (go_at_call 46; refine HM1.out.mono ?_; rintro e w7 ⟨rfl, hK7, hG7⟩; have HH := (HC1.out w7 hG7).cell (i := 0) rfl))
    all_goals (
      have HE3 := Lib.hid (below_g (kept_b HK2.out (bl_drew (Below.refl _ w2))) hG7)
      have hG7b := HC1.out w7 hG7
      have x3 := hG7b.cell (i := 3) rfl
      have HRUN := Lib.hid (run_any w7 basis ao n cap l hb2 (HR.out w7 HE3.out) hn HOK.out)
      rw [← HT.out.1, ← HT.out.2] at HRUN
      have HI7 := Lib.hid hK7
      have HG7 := Lib.hid hG7b
      clear hG7b hG7 HH HM1 HC1 d0 hK7
      cases F
      case false =>
        go_wp2
        go_ret2
        have h := applyI_basis (S := S) (b := basis) HRR.out.symm (by rw [← HMB.out, HE.out.1]; exact HF.out.symm)
        refine ⟨?_, ?_, HE3.out⟩
        · rw [HAR.out, h.1]; rfl
        · rw [HAB.out, h.2]; exact HI7.out
      case true =>
        go_wp2_with fail
        refine HRUN.out.mono ?_
        rintro e w8 ⟨rfl, hb8⟩
        have hG8 := HG7.out.below hb8 HG7.out.lt
        have HI8 := Lib.hid (HI7.out.next hb8)
        have HB8 := Lib.hid (kept_b HE3.out hb8)
        have d1 := hG8.cell (i := 1) rfl
        have HG8 := Lib.hid hG8
        clear hb8 hG8 x3 HRUN
        by_cases hK0 : K = 0
        case neg =>
          have hk : (K != 0) = true := by simpa using hK0
          go_wp2
          go_ret2
          have h := applyI_run (S := S) (b := basis) HRR.out.symm (by rw [← HMB.out, HE.out.1]; exact HF.out.symm) (by rw [HE.out.2.2, ← HT.out.2]; exact hK0)
          refine ⟨?_, ?_, HB8.out⟩
          · rw [HAR.out, h.1, HE.out.2.2, ← HT.out.2]; rfl
          · rw [HAB.out, h.2]; exact HI8.out
        case pos =>
          subst hK0
          have hts : T.size ≤ 524288 := by
            rw [HT.out.1]
            exact runI_size basis l ByteArray.empty (by decide)
          obtain ⟨MT, hMT⟩ : ∃ M, M = mkI (addS S (bytesOf basis)) T := ⟨_, rfl⟩
          have HMT := Lib.hid hMT
          obtain ⟨G, hG⟩ : ∃ G, G = (MT.toList == mk.toList) := ⟨_, rfl⟩
          have HG := Lib.hid hG
          have hne2 : (MT.toList == mk.toList) = G := hG.symm
          have HM2 : Hid (Calls Tryz.prog 46 #[.pointer (some ⟨p, 0, none⟩), .string T] w8.drew fun e w' => e = .returned (.string (mkI (addS S (bytesOf basis)) T)) ∧ BookI w' p m (addS (addS S (bytesOf basis)) (bytesOf T)) ∧ w8.drew.grownBy w' (some m)) := Lib.hid (mark_as (s := T) (HI8.out.next (bl_drew (Below.refl _ w8))) (by unfold maxLen; omega) (by have := addS_len S (bytesOf basis); omega) _ _ rfl rfl)
          have HC2 : Hid (∀ w', w8.drew.grownBy w' (some m) → Blk w' pd [.string bm, .string mk, .int .i64 z, .slice ao n cap] 55) := Lib.hid (fun w' hg => (HG8.out.below (bl_drew (Below.refl _ w8)) HG8.out.lt).grown hg (by intro e; injection e with e; omega))
          rw [← HMT.out] at HM2
          clear hMT hG
          go_upto_region 8 with fail
          go_region_held3 (fun w' => w'.cell? ⟨pd, 1, none⟩ = some (.string mk)) (first | exact HH | exact d1)
            (first | (go_at_call 46; refine HM2.out.mono ?_; rintro e w9 ⟨rfl, hK9, hG9⟩; have HH := (HC2.out w9 hG9).cell (i := 1) rfl))
          all_goals (
            have HE9 := Lib.hid (below_g (kept_b HB8.out (bl_drew (Below.refl _ w8))) hG9)
            have HI9 := Lib.hid hK9
            clear HH HM2 HC2 d1 hG9 hK9
            cases G
            case false =>
              go_wp2
              go_ret2
              have h := applyI_sum (S := S) (b := basis) HRR.out.symm (by rw [← HMB.out, HE.out.1]; exact HF.out.symm) (by rw [HE.out.2.2]; exact HT.out.2.symm) (by rw [HE.out.2.2, ← HT.out.1, ← HMT.out, HE.out.2.1]; exact HG.out.symm)
              refine ⟨?_, ?_, HE9.out⟩
              · rw [HAR.out, h.1]; rfl
              · rw [HAB.out, h.2, HE.out.2.2, ← HT.out.1]; exact HI9.out
            case true =>
              go_wp2
              go_ret2
              have h := applyI_ok (S := S) (b := basis) HRR.out.symm (by rw [← HMB.out, HE.out.1]; exact HF.out.symm) (by rw [HE.out.2.2]; exact HT.out.2.symm) (by rw [HE.out.2.2, ← HT.out.1, ← HMT.out, HE.out.2.1]; exact HG.out.symm)
              refine ⟨?_, ?_, HE9.out⟩
              · rw [HAR.out, h.1, HE.out.2.2, ← HT.out.1]; rfl
              · rw [HAB.out, h.2, HE.out.2.2, ← HT.out.1]; exact HI9.out))
end Go.Proofs.YtgkcnocfijckoaaGreat
