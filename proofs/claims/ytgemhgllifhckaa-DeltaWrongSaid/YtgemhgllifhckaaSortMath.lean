/- The stable sort of places by their weights: the plain law, by places. No conditions. -/
import Derived.WalkKit
namespace Go.Proofs.Ytgemhgllifhckaa
set_option linter.unusedVariables false

/-- x stands ahead of y: a smaller weight, or the same one and a smaller number -/
def Ltw (wt : Int → Int) (x y : Int) : Prop := wt x < wt y ∨ (wt x = wt y ∧ x < y)
theorem Ltw.trans {wt : Int → Int} {x y z : Int} (h : Ltw wt x y) (k : Ltw wt y z) : Ltw wt x z := by unfold Ltw at *; omega
theorem Ltw.irrefl {wt : Int → Int} {x : Int} : ¬ Ltw wt x x := by unfold Ltw; omega
theorem Ltw.total {wt : Int → Int} {x y : Int} (h : ¬ Ltw wt x y) (hne : x ≠ y) : Ltw wt y x := by unfold Ltw at *; omega
theorem ltw_lo {wt : Int → Int} {x y : Int} (h : x < y) : wt y - wt x < 0 ↔ Ltw wt y x := by unfold Ltw; omega

def Srt (wt : Int → Int) (f : Nat → Int) (a b : Nat) : Prop := ∀ i j, a ≤ i → i < j → j < b → Ltw wt (f i) (f j)
/-- g has the same between a and b as f, in another order; elsewhere just the same -/
structure SameOn (f g : Nat → Int) (a b : Nat) : Prop where
  to : ∀ i, a ≤ i → i < b → ∃ j, a ≤ j ∧ j < b ∧ g i = f j
  of : ∀ j, a ≤ j → j < b → ∃ i, a ≤ i ∧ i < b ∧ g i = f j
  out : ∀ i, ¬ (a ≤ i ∧ i < b) → g i = f i
theorem SameOn.refl (f : Nat → Int) (a b : Nat) : SameOn f f a b := ⟨fun i h1 h2 => ⟨i, h1, h2, rfl⟩, fun i h1 h2 => ⟨i, h1, h2, rfl⟩, fun i _ => rfl⟩
theorem SameOn.trans {f g h : Nat → Int} {a b : Nat} (p : SameOn f g a b) (q : SameOn g h a b) : SameOn f h a b := by
  refine ⟨fun i h1 h2 => ?_, fun j h1 h2 => ?_, fun i hi => (q.out i hi).trans (p.out i hi)⟩
  · obtain ⟨j, j1, j2, e⟩ := q.to i h1 h2
    obtain ⟨k, k1, k2, e2⟩ := p.to j j1 j2
    exact ⟨k, k1, k2, e.trans e2⟩
  · obtain ⟨j', j1, j2, e⟩ := p.of j h1 h2
    obtain ⟨k, k1, k2, e2⟩ := q.of j' j1 j2
    exact ⟨k, k1, k2, e2.trans e⟩
theorem SameOn.wide {f g : Nat → Int} {a b c d : Nat} (p : SameOn f g a b) (h1 : c ≤ a) (h2 : b ≤ d) : SameOn f g c d := by
  refine ⟨fun i hi hj => ?_, fun j hi hj => ?_, fun i hi => p.out i (by omega)⟩
  · by_cases h : a ≤ i ∧ i < b
    · obtain ⟨j, j1, j2, e⟩ := p.to i h.1 h.2
      exact ⟨j, by omega, by omega, e⟩
    · exact ⟨i, hi, hj, p.out i h⟩
  · by_cases h : a ≤ j ∧ j < b
    · obtain ⟨i, j1, j2, e⟩ := p.of j h.1 h.2
      exact ⟨i, by omega, by omega, e⟩
    · exact ⟨j, hi, hj, p.out j h⟩
/-- two neighbours (or any two) change places -/
def swp (f : Nat → Int) (i j : Nat) : Nat → Int := fun k => if k = i then f j else if k = j then f i else f k
theorem SameOn.swp (f : Nat → Int) {a b i j : Nat} (h1 : a ≤ i) (h2 : i < b) (h3 : a ≤ j) (h4 : j < b) : SameOn f (swp f i j) a b := by
  refine ⟨fun k k1 k2 => ?_, fun k k1 k2 => ?_, fun k hk => ?_⟩
  · unfold Proofs.Ytgemhgllifhckaa.swp
    split
    · exact ⟨j, h3, h4, rfl⟩
    · split
      · exact ⟨i, h1, h2, rfl⟩
      · exact ⟨k, k1, k2, rfl⟩
  · by_cases e1 : k = i
    · subst e1
      refine ⟨j, h3, h4, ?_⟩
      unfold Proofs.Ytgemhgllifhckaa.swp
      split
      · rename_i e; rw [e]
      · rw [if_pos rfl]
    · by_cases e2 : k = j
      · subst e2
        exact ⟨i, h1, h2, by unfold Proofs.Ytgemhgllifhckaa.swp; rw [if_pos rfl]⟩
      · exact ⟨k, k1, k2, by unfold Proofs.Ytgemhgllifhckaa.swp; rw [if_neg e1, if_neg e2]⟩
  · unfold Proofs.Ytgemhgllifhckaa.swp
    rw [if_neg (by omega), if_neg (by omega)]

/-! insertion -/
/-- x stands at j, what was between j and i one place on -/
def insAt (f : Nat → Int) (i j : Nat) : Nat → Int := fun k => if k = j then f i else if j < k ∧ k ≤ i then f (k - 1) else f k
theorem insAt_self (f : Nat → Int) (i : Nat) : insAt f i i = f := by
  funext k; unfold insAt
  split
  · rename_i e; rw [e]
  · rw [if_neg (by omega)]
theorem insAt_swp (f : Nat → Int) (i j : Nat) (h : 0 < j) (hj : j ≤ i) : swp (insAt f i j) j (j - 1) = insAt f i (j - 1) := by
  funext k; unfold swp insAt
  by_cases e1 : k = j
  · rw [if_pos e1, if_neg (by omega : ¬ j - 1 = j), if_neg (by omega), if_neg (by omega), if_pos (by omega)]
    rw [e1]
  · rw [if_neg e1]
    by_cases e2 : k = j - 1
    · rw [if_pos e2, if_pos rfl, if_pos e2]
    · rw [if_neg e2, if_neg e1, if_neg e2]
      by_cases e3 : j < k ∧ k ≤ i
      · rw [if_pos e3, if_pos (by omega)]
      · rw [if_neg e3, if_neg (by omega)]
theorem insAt_same (f : Nat → Int) {a i j : Nat} (h1 : a ≤ j) (h2 : j ≤ i) : SameOn f (insAt f i j) a (i + 1) := by
  refine ⟨fun k k1 k2 => ?_, fun k k1 k2 => ?_, fun k hk => ?_⟩
  · unfold insAt
    split
    · exact ⟨i, by omega, by omega, rfl⟩
    · split
      · exact ⟨k - 1, by omega, by omega, rfl⟩
      · exact ⟨k, k1, k2, rfl⟩
  · by_cases e1 : k = i
    · exact ⟨j, by omega, by omega, by unfold insAt; rw [if_pos rfl, e1]⟩
    · by_cases e2 : j ≤ k
      · exact ⟨k + 1, by omega, by omega, by unfold insAt; rw [if_neg (by omega), if_pos (by omega)]; rfl⟩
      · exact ⟨k, k1, k2, by unfold insAt; rw [if_neg (by omega), if_neg (by omega)]⟩
  · unfold insAt
    rw [if_neg (by omega), if_neg (by omega)]
/-- x stands in its place -/
theorem insAt_srt {wt : Int → Int} {f : Nat → Int} {a i j : Nat} (hs : Srt wt f a i) (h1 : a ≤ j) (h2 : j ≤ i) (hup : ∀ k, j ≤ k → k < i → Ltw wt (f i) (f k)) (hdn : a < j → Ltw wt (f (j - 1)) (f i)) : Srt wt (insAt f i j) a (i + 1) := by
  have hlow : ∀ k, a ≤ k → k < j → Ltw wt (f k) (f i) := by
    intro k k1 k2
    by_cases e : k = j - 1
    · rw [e]; exact hdn (by omega)
    · exact (hs k (j - 1) k1 (by omega) (by omega)).trans (hdn (by omega))
  intro p q hp hpq hq
  unfold insAt
  by_cases p1 : p = j
  · rw [if_pos p1, if_neg (by omega), if_pos (by omega)]
    exact hup (q - 1) (by omega) (by omega)
  · rw [if_neg p1]
    by_cases p2 : j < p ∧ p ≤ i
    · rw [if_pos p2, if_neg (by omega), if_pos (by omega)]
      exact hs (p - 1) (q - 1) (by omega) (by omega) (by omega)
    · rw [if_neg p2]
      by_cases q1 : q = j
      · rw [if_pos q1]; exact hlow p hp (by omega)
      · rw [if_neg q1]
        by_cases q2 : j < q ∧ q ≤ i
        · rw [if_pos q2]
          by_cases e : q - 1 = p
          · omega
          · exact hs p (q - 1) hp (by omega) (by omega)
        · rw [if_neg q2]; exact hs p q hp hpq (by omega)

/-! one element goes up into a sorted run behind it: delAt f a i: what stood at a stands at i - 1 -/
def delAt (f : Nat → Int) (a k : Nat) : Nat → Int := fun t => if t = k then f a else if a ≤ t ∧ t < k then f (t + 1) else f t
theorem delAt_self (f : Nat → Int) (a : Nat) : delAt f a a = f := by
  funext t; unfold delAt
  split
  · rename_i e; rw [e]
  · rw [if_neg (by omega)]
theorem delAt_swp (f : Nat → Int) (a k : Nat) (h : a ≤ k) : swp (delAt f a k) k (k + 1) = delAt f a (k + 1) := by
  funext t; unfold swp delAt
  by_cases e1 : t = k
  · rw [if_pos e1, if_neg (by omega), if_neg (by omega), if_neg (by omega), if_pos (by omega), e1]
  · rw [if_neg e1]
    by_cases e2 : t = k + 1
    · rw [if_pos e2, if_pos rfl, if_pos e2]
    · rw [if_neg e2, if_neg e1, if_neg e2]
      by_cases e3 : a ≤ t ∧ t < k
      · rw [if_pos e3, if_pos (by omega)]
      · rw [if_neg e3, if_neg (by omega)]
theorem delAt_same (f : Nat → Int) {a k b : Nat} (h1 : a ≤ k) (h2 : k < b) : SameOn f (delAt f a k) a b := by
  refine ⟨fun t t1 t2 => ?_, fun t t1 t2 => ?_, fun t ht => ?_⟩
  · unfold delAt
    split
    · exact ⟨a, by omega, by omega, rfl⟩
    · split
      · exact ⟨t + 1, by omega, by omega, rfl⟩
      · exact ⟨t, t1, t2, rfl⟩
  · by_cases e1 : t = a
    · exact ⟨k, by omega, by omega, by unfold delAt; rw [if_pos rfl, e1]⟩
    · by_cases e2 : t ≤ k
      · exact ⟨t - 1, by omega, by omega, by unfold delAt; rw [if_neg (by omega), if_pos (by omega), show t - 1 + 1 = t by omega]⟩
      · exact ⟨t, t1, t2, by unfold delAt; rw [if_neg (by omega), if_neg (by omega)]⟩
  · unfold delAt
    rw [if_neg (by omega), if_neg (by omega)]
theorem delAt_srt {wt : Int → Int} {f : Nat → Int} {a b i : Nat} (hs : Srt wt f (a + 1) b) (h1 : a + 1 ≤ i) (h2 : i ≤ b) (hdn : ∀ k, a + 1 ≤ k → k < i → Ltw wt (f k) (f a)) (hup : ∀ k, i ≤ k → k < b → Ltw wt (f a) (f k)) : Srt wt (delAt f a (i - 1)) a b := by
  intro p q hp hpq hq
  unfold delAt
  by_cases p1 : p = i - 1
  · rw [if_pos p1, if_neg (by omega), if_neg (by omega)]
    exact hup q (by omega) hq
  · rw [if_neg p1]
    by_cases p2 : a ≤ p ∧ p < i - 1
    · rw [if_pos p2]
      by_cases q1 : q = i - 1
      · rw [if_pos q1]; exact hdn (p + 1) (by omega) (by omega)
      · rw [if_neg q1]
        by_cases q2 : a ≤ q ∧ q < i - 1
        · rw [if_pos q2]; exact hs (p + 1) (q + 1) (by omega) (by omega) (by omega)
        · rw [if_neg q2]; exact hs (p + 1) q (by omega) (by omega) hq
    · rw [if_neg p2, if_neg (by omega), if_neg (by omega)]
      exact hs p q (by omega) hpq hq

/-! two runs of one length change places -/
def swr (f : Nat → Int) (a b n : Nat) : Nat → Int := fun t => if a ≤ t ∧ t < a + n then f (t - a + b) else if b ≤ t ∧ t < b + n then f (t - b + a) else f t
theorem swr_zero (f : Nat → Int) (a b : Nat) : swr f a b 0 = f := by
  funext t; unfold swr
  (repeat' split) <;> first | (exfalso; omega) | rfl | (congr 1; omega) | (congr 1; congr 1; omega)
theorem swr_succ (f : Nat → Int) (a b n : Nat) (h : a + n < b) : swp (swr f a b n) (a + n) (b + n) = swr f a b (n + 1) := by
  funext t; unfold swp swr
  (repeat' split) <;> first | (exfalso; omega) | rfl | (congr 1; omega) | (congr 1; congr 1; omega)
/-- rotation: what stood in [a, m) and in [m, b) changes places -/
def rot (f : Nat → Int) (a m b : Nat) : Nat → Int := fun t => if a ≤ t ∧ t < a + (b - m) then f (t + (m - a)) else if a + (b - m) ≤ t ∧ t < b then f (t - (b - m)) else f t
theorem rot_none (f : Nat → Int) {a m b : Nat} (h : a = m ∨ m = b) (h1 : a ≤ m) (h2 : m ≤ b) : rot f a m b = f := by
  funext t; unfold rot
  rcases h with rfl | rfl
  · by_cases e1 : a ≤ t ∧ t < a + (b - a)
    · rw [if_pos e1, show t + (a - a) = t by omega]
    · rw [if_neg e1, if_neg (by omega)]
  · rw [if_neg (by omega)]
    by_cases e2 : a + (m - m) ≤ t ∧ t < m
    · rw [if_pos e2, show t - (m - m) = t by omega]
    · rw [if_neg e2]
/-- the last step -/
theorem rot_eq (f : Nat → Int) (m i : Nat) (h : i ≤ m) : swr f (m - i) m i = rot f (m - i) m (m + i) := by
  funext t; unfold swr rot
  (repeat' split) <;> first | (exfalso; omega) | rfl | (congr 1; omega) | (congr 1; congr 1; omega)
/-- a step with the longer run ahead -/
theorem rot_gt (f : Nat → Int) (m i j : Nat) (h : j < i) (hi : i ≤ m) (hj : 0 < j) : rot (swr f (m - i) m j) (m - i + j) m (m + j) = rot f (m - i) m (m + j) := by
  funext t; unfold rot swr
  (repeat' split) <;> first | (exfalso; omega) | rfl | (congr 1; omega) | (congr 1; congr 1; omega)
/-- a step with the longer run behind -/
theorem rot_lt (f : Nat → Int) (m i j : Nat) (h : i < j) (hi : i ≤ m) (hj : 0 < i) : rot (swr f (m - i) (m + j - i) i) (m - i) m (m + (j - i)) = rot f (m - i) m (m + j) := by
  funext t; unfold rot swr
  (repeat' split) <;> first | (exfalso; omega) | rfl | (congr 1; omega) | (congr 1; congr 1; omega)
theorem rot_same (f : Nat → Int) {a m b : Nat} (h1 : a ≤ m) (h2 : m ≤ b) : SameOn f (rot f a m b) a b := by
  refine ⟨fun t t1 t2 => ?_, fun t t1 t2 => ?_, fun t ht => ?_⟩
  · unfold rot
    split
    · exact ⟨t + (m - a), by omega, by omega, rfl⟩
    · split
      · exact ⟨t - (b - m), by omega, by omega, rfl⟩
      · omega
  · by_cases e : t < m
    · refine ⟨t + (b - m), by omega, by omega, ?_⟩
      unfold rot
      rw [if_neg (by omega), if_pos (by omega)]; congr 1; omega
    · refine ⟨t - (m - a), by omega, by omega, ?_⟩
      unfold rot
      rw [if_pos (by omega)]; congr 1; omega
  · unfold rot
    rw [if_neg (by omega), if_neg (by omega)]

/-! the merge -/
theorem merge_srt {wt : Int → Int} {f : Nat → Int} {a s m e b mid : Nat} (hA : Srt wt f a m) (hB : Srt wt f m b) (h1 : a ≤ s) (h2 : s ≤ m) (h3 : m ≤ e) (h4 : e ≤ b) (hmid : s + (e - m) = mid)
    (c1 : a < s → e < b → Ltw wt (f (s - 1)) (f e)) (c2 : m < e → s < m → Ltw wt (f (e - 1)) (f s)) :
    Srt wt (rot f s m e) a s ∧ Srt wt (rot f s m e) s mid ∧ Srt wt (rot f s m e) mid e ∧ Srt wt (rot f s m e) e b ∧ (∀ i j, a ≤ i → i < mid → mid ≤ j → j < b → Ltw wt (rot f s m e i) (rot f s m e j)) := by
  have r1 : ∀ t, t < s → rot f s m e t = f t := fun t ht => by unfold rot; rw [if_neg (by omega), if_neg (by omega)]
  have r2 : ∀ t, s ≤ t → t < mid → rot f s m e t = f (t + (m - s)) := fun t t1 t2 => by unfold rot; rw [if_pos (by omega)]
  have r3 : ∀ t, mid ≤ t → t < e → rot f s m e t = f (t - (e - m)) := fun t t1 t2 => by unfold rot; rw [if_neg (by omega), if_pos (by omega)]
  have r4 : ∀ t, e ≤ t → rot f s m e t = f t := fun t ht => by unfold rot; rw [if_neg (by omega), if_neg (by omega)]
  have lowA : ∀ i, a ≤ i → i < s → e < b → Ltw wt (f i) (f e) := by
    intro i i1 i2 hb
    by_cases q : i = s - 1
    · rw [q]; exact c1 (by omega) hb
    · exact (hA i (s - 1) i1 (by omega) (by omega)).trans (c1 (by omega) hb)
  have lowB : ∀ i, m ≤ i → i < e → s < m → Ltw wt (f i) (f s) := by
    intro i i1 i2 hs
    by_cases q : i = e - 1
    · rw [q]; exact c2 (by omega) hs
    · exact (hB i (e - 1) i1 (by omega) (by omega)).trans (c2 (by omega) hs)
  refine ⟨?_, ?_, ?_, ?_, ?_⟩
  · intro i j i1 i2 i3; rw [r1 i (by omega), r1 j i3]; exact hA i j i1 i2 (by omega)
  · intro i j i1 i2 i3; rw [r2 i i1 (by omega), r2 j (by omega) i3]; exact hB _ _ (by omega) (by omega) (by omega)
  · intro i j i1 i2 i3; rw [r3 i i1 (by omega), r3 j (by omega) i3]; exact hA _ _ (by omega) (by omega) (by omega)
  · intro i j i1 i2 i3; rw [r4 i i1, r4 j (by omega)]; exact hB i j (by omega) i2 i3
  · intro i j i1 i2 j1 j2
    by_cases is_ : i < s
    · rw [r1 i is_]
      by_cases js : j < e
      · rw [r3 j j1 js]; exact hA _ _ i1 (by omega) (by omega)
      · rw [r4 j (by omega)]
        have := lowA i i1 is_ (by omega)
        by_cases q : j = e
        · rw [q]; exact this
        · exact this.trans (hB e j h3 (by omega) j2)
    · rw [r2 i (by omega) i2]
      by_cases js : j < e
      · rw [r3 j j1 js]
        have := lowB (i + (m - s)) (by omega) (by omega) (by omega)
        by_cases q : j - (e - m) = s
        · rw [q]; exact this
        · exact this.trans (hA s _ h1 (by omega) (by omega))
      · rw [r4 j (by omega)]; exact hB _ _ (by omega) (by omega) j2
theorem Srt.join {wt : Int → Int} {f : Nat → Int} {a m b : Nat} (h1 : Srt wt f a m) (h2 : Srt wt f m b) (h : ∀ i j, a ≤ i → i < m → m ≤ j → j < b → Ltw wt (f i) (f j)) : Srt wt f a b := by
  intro i j i1 i2 i3
  by_cases q : j < m
  · exact h1 i j i1 i2 q
  · by_cases q2 : i < m
    · exact h i j i1 q2 (by omega) i3
    · exact h2 i j (by omega) i2 i3
theorem Srt.out {wt : Int → Int} {f g : Nat → Int} {a b c d : Nat} (h : Srt wt f c d) (hs : SameOn f g a b) (ho : d ≤ a ∨ b ≤ c) : Srt wt g c d := by
  intro i j i1 i2 i3
  rw [hs.out i (by omega), hs.out j (by omega)]
  exact h i j i1 i2 i3
/-- just the numbers from s to e stand between s and e -/
def InB (f : Nat → Int) (s e : Nat) : Prop := (∀ i, s ≤ i → i < e → (s : Int) ≤ f i ∧ f i < e) ∧ (∀ v : Nat, s ≤ v → v < e → ∃ i, s ≤ i ∧ i < e ∧ f i = v)
theorem InB.same {f g : Nat → Int} {s e : Nat} (h : InB f s e) (k : SameOn f g s e) : InB g s e := by
  refine ⟨fun i i1 i2 => ?_, fun v v1 v2 => ?_⟩
  · obtain ⟨j, j1, j2, e⟩ := k.to i i1 i2
    rw [e]; exact h.1 j j1 j2
  · obtain ⟨i, i1, i2, e⟩ := h.2 v v1 v2
    obtain ⟨j, j1, j2, e2⟩ := k.of i i1 i2
    exact ⟨j, j1, j2, e2.trans e⟩
theorem InB.join {f : Nat → Int} {s m e : Nat} (h1 : InB f s m) (h2 : InB f m e) (a : s ≤ m) (b : m ≤ e) : InB f s e := by
  refine ⟨fun i i1 i2 => ?_, fun v v1 v2 => ?_⟩
  · by_cases q : i < m
    · have := h1.1 i i1 q; omega
    · have := h2.1 i (by omega) i2; omega
  · by_cases q : v < m
    · obtain ⟨i, i1, i2, e⟩ := h1.2 v v1 q
      exact ⟨i, i1, by omega, e⟩
    · obtain ⟨i, i1, i2, e⟩ := h2.2 v (by omega) v2
      exact ⟨i, by omega, i2, e⟩
theorem InB.out {f g : Nat → Int} {a b s e : Nat} (h : InB f s e) (hs : SameOn f g a b) (ho : e ≤ a ∨ b ≤ s) : InB g s e := by
  refine ⟨fun i i1 i2 => ?_, fun v v1 v2 => ?_⟩
  · rw [hs.out i (by omega)]; exact h.1 i i1 i2
  · obtain ⟨i, i1, i2, e⟩ := h.2 v v1 v2
    exact ⟨i, i1, i2, by rw [hs.out i (by omega)]; exact e⟩
/-- sorted, and just these numbers -/
def Okc (wt : Int → Int) (f : Nat → Int) (s e : Nat) : Prop := Srt wt f s e ∧ InB f s e
theorem Okc.out {wt : Int → Int} {f g : Nat → Int} {a b s e : Nat} (h : Okc wt f s e) (hs : SameOn f g a b) (ho : e ≤ a ∨ b ≤ s) : Okc wt g s e := ⟨h.1.out hs ho, h.2.out hs ho⟩
theorem InB.lo {f : Nat → Int} {a m b : Nat} (h1 : InB f a m) (h2 : InB f m b) : ∀ i j, a ≤ i → i < m → m ≤ j → j < b → f i < f j := by
  intro i j i1 i2 j1 j2
  have := h1.1 i i1 i2
  have := h2.1 j j1 j2
  omega
end Go.Proofs.Ytgemhgllifhckaa
