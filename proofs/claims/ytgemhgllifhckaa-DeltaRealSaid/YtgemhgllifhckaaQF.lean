/- The document's places are those of the texts, where its marks tell texts apart. Conditions: as named in each theorem. -/
import Derived.Test.YtgemhgllifhckaaQE
import Derived.Test.YtgemhgllifhckaaDlMade
import Derived.Test.YtgemhgllifhckaaDlOfReal
namespace Go.Proofs.Ytgemhgllifhckaa
open Go.RowKit Sg
set_option linter.unusedVariables false
set_option linter.unusedSimpArgs false
theorem mfR_eq {basis : ByteArray} {B : Nat} {t : ByteArray} {wn : Int} {em : ByteArray → Int → Bool} (hB : 0 < B) (hs : basis.size ≤ 524288) (hem : ∀ i : Nat, i < cnt basis.size B → em t (i : Int) = decide (bytesOf (piece basis B i) = bytesOf t)) :
    mfR B basis.size ((pieces basis B (cnt basis.size B)).map weakI) em t wn = mfI basis B t wn := by
  obtain ⟨Q, hQ⟩ : ∃ Q, Q = marksOf [] (pieces basis B (cnt basis.size B)) := ⟨_, rfl⟩
  obtain ⟨SN, T⟩ := Q
  have hn2 : cnt basis.size B ≤ 1000000 := Nat.le_trans (cnt_le hB) (by omega)
  have hl : SN.length ≤ 100000000 := by
    have := (marks_ext [] (pieces basis B (cnt basis.size B))).2
    rw [← hQ, pieces_len] at this
    simp only [List.length_nil] at this
    omega
  rw [← match_gen (wn := wn) (t := t) hB rfl hn2 hQ (Ext.refl SN) hl]
  unfold mfR
  by_cases h : t.size = B
  · rw [if_pos h, if_pos h, matchF_go findL_nn]
    refine matchF_congr fun x hx => ?_
    obtain ⟨v, hv, rfl, _⟩ := findL_mem.1 hx
    have hvn : v < cnt basis.size B := Nat.lt_of_lt_of_le hv (div_le_cnt basis B hB)
    rw [hem v hvn, Bool.eq_iff_iff, eqM_gen hQ (Ext.refl SN) hl hvn, decide_eq_true_iff]
  · rw [if_neg h, if_neg h]
theorem tailF_eq {basis : ByteArray} {B : Nat} {t : ByteArray} {em : ByteArray → Int → Bool} (hB : 0 < B) (hs : basis.size ≤ 524288) (hem : ∀ i : Nat, i < cnt basis.size B → em t (i : Int) = decide (bytesOf (piece basis B i) = bytesOf t)) :
    tailF B basis.size ((pieces basis B (cnt basis.size B)).map weakI) em t = tfI basis B t := by
  obtain ⟨Q, hQ⟩ : ∃ Q, Q = marksOf [] (pieces basis B (cnt basis.size B)) := ⟨_, rfl⟩
  obtain ⟨SN, T⟩ := Q
  have hn2 : cnt basis.size B ≤ 1000000 := Nat.le_trans (cnt_le hB) (by omega)
  have hl : SN.length ≤ 100000000 := by
    have := (marks_ext [] (pieces basis B (cnt basis.size B))).2
    rw [← hQ, pieces_len] at this
    simp only [List.length_nil] at this
    omega
  rw [← tail_gen (t := t) hB rfl hn2 hQ (Ext.refl SN) hl]
  unfold tailF tailB
  rw [List.length_map, pieces_len]
  by_cases hr : 0 < basis.size % B
  · have hk : cnt basis.size B - 1 < cnt basis.size B := by have := (piece_last basis B hB hr).2.1; omega
    have a := eqM_gen (t := t) hQ (Ext.refl SN) hl hk
    unfold eqM at a
    simp only [Int.toNat_natCast, decide_eq_true_eq] at a
    rw [decide_eq_decide, hem _ hk, decide_eq_true_iff, a]
  · rw [decide_eq_false (fun h => hr h.1), decide_eq_false (fun h => hr h.1)]
theorem mkRun_congr {mf mf' : ByteArray → Int → Int} {s : ByteArray} {b : Nat} (hb : 0 < b) (h : ∀ a wn, a + b ≤ s.size → mf (s.extract a (a + b)) wn = mf' (s.extract a (a + b)) wn) : ∀ (k : Nat) (x : Ms), s.size - x.at_ ≤ k → mkRun mf s b x = mkRun mf' s b x := by
  have hst : ∀ x : Ms, x.at_ + b ≤ s.size → mkStep mf s b x = mkStep mf' s b x := fun x hx => by
    unfold mkStep; rw [h x.at_ x.wn hx]
  intro k
  induction k with
  | zero =>
    intro x h1
    rw [mkRun_end (by omega), mkRun_end (by omega)]
  | succ k ih =>
    intro x h1
    by_cases h2 : x.at_ + b ≤ s.size
    · rw [mkRun_go hb h2, mkRun_go hb h2, hst x h2]
      exact ih _ (by have := mkStep_at mf' s b x hb; omega)
    · rw [mkRun_end h2, mkRun_end h2]
theorem mkRun_le (mf : ByteArray → Int → Int) (s : ByteArray) (b : Nat) (hb : 0 < b) : ∀ (k : Nat) (x : Ms), s.size - x.at_ ≤ k → x.at_ ≤ s.size → (mkRun mf s b x).at_ ≤ s.size := by
  intro k
  induction k with
  | zero =>
    intro x h1 h2
    rw [mkRun_end (by omega)]; exact h2
  | succ k ih =>
    intro x h1 h2
    by_cases h : x.at_ + b ≤ s.size
    · rw [mkRun_go hb h]
      have hst := mkStep_at mf s b x hb
      refine ih _ (by omega) ?_
      unfold mkStep; split <;> (simp only; omega)
    · rw [mkRun_end h]; exact h2
theorem stepsM_congr {mf mf' : ByteArray → Int → Int} {tf tf' : ByteArray → Bool} {s : ByteArray} {z b : Nat} (hb : 0 < b) (h : ∀ a wn, a + b ≤ s.size → mf (s.extract a (a + b)) wn = mf' (s.extract a (a + b)) wn) (ht : z % b ≤ s.size → tf (s.extract (s.size - z % b) s.size) = tf' (s.extract (s.size - z % b) s.size)) :
    stepsM mf tf s z b = stepsM mf' tf' s z b := by
  have h1 := mkRun_congr hb h s.size ms0 (Nat.sub_le _ _)
  have h2 := mkRun_le mf' s b hb s.size ms0 (Nat.sub_le _ _) (Nat.zero_le _)
  unfold stepsM
  rw [h1]
  obtain ⟨x, hx⟩ : ∃ x, x = mkRun mf' s b ms0 := ⟨_, rfl⟩
  rw [← hx] at h2 ⊢
  have hes : (s.extract x.at_ s.size).size = s.size - x.at_ := by rw [ByteArray.size_extract]; omega
  unfold endL
  by_cases hf : z % b ≤ (s.extract x.at_ s.size).size
  · have hcc : (s.extract x.at_ s.size).extract ((s.extract x.at_ s.size).size - z % b) (s.extract x.at_ s.size).size = s.extract (s.size - z % b) s.size := by
      rw [hes, cut_cut _ _ _ _ (by omega)]
      congr 1 <;> omega
    rw [hcc, ht (by omega)]
  · rw [if_neg (fun h => hf h.1), if_neg (fun h => hf h.1)]
end Go.Proofs.Ytgemhgllifhckaa
namespace Go.Proofs.Ytgemhgllifhckaa
open Go.RowKit Sg
set_option linter.unusedVariables false
set_option linter.unusedSimpArgs false
/-- the texts that delta.Of sums -/
def blksL (basis s : ByteArray) (B : Nat) : List ByteArray :=
  pieces basis B (cnt basis.size B) ++ (List.range (s.size + 1 - B)).map (fun i => s.extract i (i + B)) ++ (if basis.size % B ≤ s.size then [s.extract (s.size - basis.size % B) s.size] else [])
theorem apart_mem {l : List ByteArray} (h : ∀ (i k : Nat) x y, k < i → l[i]? = some x → l[k]? = some y → shaS x = shaS y → x = y) : ∀ x ∈ l, ∀ y ∈ l, shaS x = shaS y → x = y := by
  intro x hx y hy he
  obtain ⟨i, hi⟩ := List.getElem?_of_mem hx
  obtain ⟨k, hk⟩ := List.getElem?_of_mem hy
  rcases Nat.lt_trichotomy i k with h1 | h1 | h1
  · exact (h k i y x h1 hk hi he.symm).symm
  · subst h1; rw [hi] at hk; exact Option.some.inj hk
  · exact h i k x y h1 hi hk he
theorem bytes_inj {x y : ByteArray} (h : bytesOf x = bytesOf y) : x = y := by
  apply ByteArray.ext; apply Array.ext'; exact h
theorem piece_in {basis s : ByteArray} {B i : Nat} (h : i < cnt basis.size B) : piece basis B i ∈ blksL basis s B := by
  unfold blksL pieces
  exact List.mem_append_left _ (List.mem_append_left _ (List.mem_map.2 ⟨i, List.mem_range.2 h, rfl⟩))
theorem win_in {basis s : ByteArray} {B a : Nat} (h : a + B ≤ s.size) : s.extract a (a + B) ∈ blksL basis s B := by
  unfold blksL
  exact List.mem_append_left _ (List.mem_append_right _ (List.mem_map.2 ⟨a, List.mem_range.2 (by omega), rfl⟩))
theorem tail_in {basis s : ByteArray} {B : Nat} (h : basis.size % B ≤ s.size) : s.extract (s.size - basis.size % B) s.size ∈ blksL basis s B := by
  unfold blksL
  rw [if_pos h]
  exact List.mem_append_right _ (List.mem_singleton.2 rfl)
theorem emR_ok {basis s : ByteArray} {B : Nat} (hap : ∀ x ∈ blksL basis s B, ∀ y ∈ blksL basis s B, shaS x = shaS y → x = y) {t : ByteArray} (ht : t ∈ blksL basis s B) (i : Nat) (hi : i < cnt basis.size B) :
    emR (shasOf basis B) t (i : Int) = decide (bytesOf (piece basis B i) = bytesOf t) := by
  have hg : (shasOf basis B)[i]? = some (shaS (piece basis B i)) := by
    unfold shasOf pieces
    simp [hi]
  unfold emR
  rw [Bool.eq_iff_iff, decide_eq_true_iff]
  unfold eqM
  have hg2 : (shasOf basis B).getD i ByteArray.empty = shaS (piece basis B i) := by rw [List.getD_eq_getElem?_getD, hg]; rfl
  simp only [Int.toNat_natCast, decide_eq_true_eq]
  rw [hg2]
  constructor
  · intro h
    rw [hap _ (piece_in hi) _ ht (bytes_inj h)]
  · intro h
    rw [bytes_inj h]
theorem steps_real {basis s : ByteArray} {B : Nat} (hB : 0 < B) (hs : basis.size ≤ 524288) (hap : ∀ x ∈ blksL basis s B, ∀ y ∈ blksL basis s B, shaS x = shaS y → x = y) : stepsR basis s B = stepsI basis s B := by
  unfold stepsR stepsI
  refine stepsM_congr hB (fun a wn h => ?_) (fun h => ?_)
  · exact mfR_eq hB hs (fun i hi => emR_ok hap (win_in h) i hi)
  · exact tailF_eq hB hs (fun i hi => emR_ok hap (tail_in h) i hi)
end Go.Proofs.Ytgemhgllifhckaa
