/- The plain law of a table's Find. No conditions. -/
import Derived.Test.YtabdmcgfiabaoaaSortLast
namespace Go.Proofs.Ytabdmcgfiabaoaa
set_option linter.unusedVariables false
theorem incr_ext : ∀ (l m : List Int), l.Pairwise (· < ·) → m.Pairwise (· < ·) → (∀ x, x ∈ l ↔ x ∈ m) → l = m := by
  intro l
  induction l with
  | nil =>
    intro m _ _ h
    cases m with
    | nil => rfl
    | cons b m => exact absurd ((h b).2 (by simp)) (by simp)
  | cons a l ih =>
    intro m hl hm h
    cases m with
    | nil => exact absurd ((h a).1 (by simp)) (by simp)
    | cons b m =>
      rw [List.pairwise_cons] at hl hm
      have h1 : a = b := by
        rcases List.mem_cons.1 ((h a).1 (by simp)) with e | e
        · exact e
        · rcases List.mem_cons.1 ((h b).2 (by simp)) with e2 | e2
          · exact e2.symm
          · have := hl.1 b e2; have := hm.1 a e; omega
      subst h1
      congr 1
      refine ih m hl.2 hm.2 fun x => ⟨fun hx => ?_, fun hx => ?_⟩
      · rcases List.mem_cons.1 ((h x).1 (List.mem_cons_of_mem _ hx)) with e | e
        · have := hl.1 x hx; omega
        · exact e
      · rcases List.mem_cons.1 ((h x).2 (List.mem_cons_of_mem _ hx)) with e | e
        · have := hm.1 x hx; omega
        · exact e
theorem cnt_split (g : Nat → Int) (v : Int) : ∀ N, (∀ i j, i < j → j < N → g i ≤ g j) → ((List.range N).map g).countP (· < v) ≤ N ∧ (∀ i, i < ((List.range N).map g).countP (· < v) → g i < v) ∧ (∀ i, ((List.range N).map g).countP (· < v) ≤ i → i < N → v ≤ g i) := by
  intro N
  induction N with
  | zero => intro _; simp
  | succ N ih =>
    intro h
    obtain ⟨h1, h2, h3⟩ := ih fun i j hij hj => h i j hij (by omega)
    rw [List.range_succ, List.map_append, List.countP_append]
    by_cases e : g N < v
    · have hc : ((List.range N).map g).countP (· < v) = N := by
        rcases Nat.lt_or_ge (((List.range N).map g).countP (· < v)) N with k | k
        · have a1 := h3 _ (Nat.le_refl _) k
          have a2 := h _ N k (by omega)
          omega
        · omega
      rw [hc]
      have e1 : (List.map g [N]).countP (· < v) = 1 := by simp [e]
      rw [e1]
      refine ⟨by omega, fun i hi => ?_, fun i h1 h2 => by omega⟩
      by_cases q : i = N
      · rw [q]; exact e
      · have := h i N (by omega) (by omega); omega
    · have e1 : (List.map g [N]).countP (· < v) = 0 := by simp; omega
      rw [e1]
      refine ⟨by omega, fun i hi => h2 i (by omega), fun i k1 k2 => ?_⟩
      by_cases q : i = N
      · rw [q]; omega
      · exact h3 i (by omega) (by omega)
/-- the weight of a place -/
def wtOf (W : List Int) (i : Int) : Int := W.getD i.toNat 0
/-- the whole blocks of a weak sum, rising -/
def findL (W : List Int) (N : Nat) (weak : Int) : List Int := ((List.range N).filter (fun (i : Nat) => decide (wtOf W (i : Int) = weak))).map (fun (i : Nat) => (i : Int))
theorem findL_succ (W : List Int) (N : Nat) (weak : Int) : findL W (N + 1) weak = if wtOf W N = weak then findL W N weak ++ [(N : Int)] else findL W N weak := by
  unfold findL
  rw [List.range_succ, List.filter_append, List.map_append]
  by_cases e : wtOf W N = weak
  · rw [if_pos e]; simp [e]
  · rw [if_neg e]; simp [e]
theorem findL_len (W : List Int) (N : Nat) (weak : Int) : (findL W N weak).length ≤ N := by
  unfold findL
  rw [List.length_map]
  exact Nat.le_trans (List.length_filter_le _ _) (by simp)
theorem findL_mem {W : List Int} {N : Nat} {weak x : Int} : x ∈ findL W N weak ↔ ∃ v : Nat, v < N ∧ x = v ∧ wtOf W v = weak := by
  unfold findL
  simp only [List.mem_map, List.mem_filter, List.mem_range, decide_eq_true_eq]
  constructor
  · rintro ⟨v, ⟨h1, h2⟩, rfl⟩; exact ⟨v, h1, rfl, h2⟩
  · rintro ⟨v, h1, rfl, h2⟩; exact ⟨v, ⟨h1, h2⟩, rfl⟩
theorem findL_inc (W : List Int) (N : Nat) (weak : Int) : (findL W N weak).Pairwise (· < ·) := by
  induction N with
  | zero => simp [findL]
  | succ N ih =>
    rw [findL_succ]
    split
    · rw [List.pairwise_append]
      refine ⟨ih, by simp, fun a ha b hb => ?_⟩
      obtain ⟨v, hv, rfl, _⟩ := findL_mem.1 ha
      simp only [List.mem_singleton] at hb
      omega
    · exact ih
theorem srt_mono {wt : Int → Int} {f : Nat → Int} {N : Nat} (h : Srt wt f 0 N) : ∀ i j, i < j → j < N → wt (f i) ≤ wt (f j) := by
  intro i j hij hj
  have := h i j (Nat.zero_le _) hij hj
  unfold Ltw at this
  omega
/-- what the loop has gathered when it ends -/
theorem find_end {W : List Int} {f : Nat → Int} {N c d : Nat} {weak : Int} (hS : Srt (wtOf W) f 0 N) (hI : InB f 0 N) (hlo : ∀ i, i < c → wtOf W (f i) < weak) (hhi : ∀ i, c ≤ i → i < N → weak ≤ wtOf W (f i)) (hcd : c ≤ d) (hd : d ≤ N) (hin : ∀ i, c ≤ i → i < d → wtOf W (f i) = weak) (hend : d < N → wtOf W (f d) ≠ weak) :
    (List.range (d - c)).map (fun i => f (c + i)) = findL W N weak := by
  refine incr_ext _ _ ?_ (findL_inc _ _ _) fun x => ?_
  · rw [List.pairwise_map]
    rw [List.pairwise_iff_getElem]
    intro i j hi hj hij
    simp only [List.length_range] at hi hj
    simp only [List.getElem_range]
    have h1 := hin (c + i) (by omega) (by omega)
    have h2 := hin (c + j) (by omega) (by omega)
    have h3 := hS (c + i) (c + j) (by omega) (by omega) (by omega)
    unfold Ltw at h3
    omega
  · rw [findL_mem]
    simp only [List.mem_map, List.mem_range]
    constructor
    · rintro ⟨i, hi, rfl⟩
      have h1 := hI.1 (c + i) (by omega) (by omega)
      refine ⟨(f (c + i)).toNat, by omega, by omega, ?_⟩
      rw [Int.toNat_of_nonneg (by omega)]
      exact hin _ (by omega) (by omega)
    · rintro ⟨v, hv, rfl, hw⟩
      obtain ⟨i, -, hi, e⟩ := hI.2 v (by omega) hv
      rw [← e] at hw
      have h1 : c ≤ i := by
        rcases Nat.lt_or_ge i c with k | k
        · have := hlo i k; omega
        · exact k
      have h2 : i < d := by
        rcases Nat.lt_or_ge i d with k | k
        · exact k
        · have a1 := hend (by omega)
          have a2 := hhi d hcd (by omega)
          by_cases q : i = d
          · rw [q] at hw; exact absurd hw a1
          · have a3 := srt_mono hS d i (by omega) hi
            omega
      exact ⟨i - c, by omega, by rw [show c + (i - c) = i by omega]; exact e⟩
end Go.Proofs.Ytabdmcgfiabaoaa
