/- slices.symMergeCmpFunc at []int, one number on the other side. Conditions: as named in each theorem. -/
import Derived.WalkKit
import Derived.Test.YtgkcnocfijckoaaGreatChecked
import Derived.Test.YtgkcnocfijckoaaGreatQA
import Derived.Deep.LoopGhost
import Derived.OpenShut
import Derived.BigQuiet
import Derived.Laws.OwnMore
namespace Go.Proofs.YtgkcnocfijckoaaGreat
set_option linter.unusedVariables false
/-- x stands ahead of y: a smaller weight, or the same one and a smaller number -/
def Ltw (wt : Int → Int) (x y : Int) : Prop := wt x < wt y ∨ (wt x = wt y ∧ x < y)
theorem Ltw.trans {wt : Int → Int} {x y z : Int} (h : Ltw wt x y) (k : Ltw wt y z) : Ltw wt x z := by unfold Ltw at *; omega
theorem Ltw.irrefl {wt : Int → Int} {x : Int} : ¬ Ltw wt x x := by unfold Ltw; omega
theorem Ltw.total {wt : Int → Int} {x y : Int} (h : ¬ Ltw wt x y) (hne : x ≠ y) : Ltw wt y x := by unfold Ltw at *; omega
theorem ltw_lo {wt : Int → Int} {x y : Int} (h : x < y) : wt y - wt x < 0 ↔ Ltw wt y x := by unfold Ltw; omega
def Srt (wt : Int → Int) (f : Nat → Int) (a b : Nat) : Prop := ∀ i j, a ≤ i → i < j → j < b → Ltw wt (f i) (f j)
/-- g has the same between a and b as f, in another order; elsewhere just the same -/
structure SameOn (f g : Nat → Int) (a b : Nat) : Prop where
  to : ∀ i, a ≤ i → i < b → ∃ j, a ≤ j ∧ j < b ∧ g i = f j
  of : ∀ j, a ≤ j → j < b → ∃ i, a ≤ i ∧ i < b ∧ g i = f j
  out : ∀ i, ¬ (a ≤ i ∧ i < b) → g i = f i
theorem SameOn.refl (f : Nat → Int) (a b : Nat) : SameOn f f a b := ⟨fun i h1 h2 => ⟨i, h1, h2, rfl⟩, fun i h1 h2 => ⟨i, h1, h2, rfl⟩, fun i _ => rfl⟩
theorem SameOn.trans {f g h : Nat → Int} {a b : Nat} (p : SameOn f g a b) (q : SameOn g h a b) : SameOn f h a b := by
  refine ⟨fun i h1 h2 => ?_, fun j h1 h2 => ?_, fun i hi => (q.out i hi).trans (p.out i hi)⟩
  · obtain ⟨j, j1, j2, e⟩ := q.to i h1 h2
    obtain ⟨k, k1, k2, e2⟩ := p.to j j1 j2
    exact ⟨k, k1, k2, e.trans e2⟩
  · obtain ⟨j', j1, j2, e⟩ := p.of j h1 h2
    obtain ⟨k, k1, k2, e2⟩ := q.of j' j1 j2
    exact ⟨k, k1, k2, e2.trans e⟩
theorem SameOn.wide {f g : Nat → Int} {a b c d : Nat} (p : SameOn f g a b) (h1 : c ≤ a) (h2 : b ≤ d) : SameOn f g c d := by
  refine ⟨fun i hi hj => ?_, fun j hi hj => ?_, fun i hi => p.out i (by omega)⟩
  · by_cases h : a ≤ i ∧ i < b
    · obtain ⟨j, j1, j2, e⟩ := p.to i h.1 h.2
      exact ⟨j, by omega, by omega, e⟩
    · exact ⟨i, hi, hj, p.out i h⟩
  · by_cases h : a ≤ j ∧ j < b
    · obtain ⟨i, j1, j2, e⟩ := p.of j h.1 h.2
      exact ⟨i, by omega, by omega, e⟩
    · exact ⟨j, hi, hj, p.out j h⟩
/-- two neighbours (or any two) change places -/
def swp (f : Nat → Int) (i j : Nat) : Nat → Int := fun k => if k = i then f j else if k = j then f i else f k
theorem SameOn.swp (f : Nat → Int) {a b i j : Nat} (h1 : a ≤ i) (h2 : i < b) (h3 : a ≤ j) (h4 : j < b) : SameOn f (swp f i j) a b := by
  refine ⟨fun k k1 k2 => ?_, fun k k1 k2 => ?_, fun k hk => ?_⟩
  · unfold Proofs.YtgkcnocfijckoaaGreat.swp
    split
    · exact ⟨j, h3, h4, rfl⟩
    · split
      · exact ⟨i, h1, h2, rfl⟩
      · exact ⟨k, k1, k2, rfl⟩
  · by_cases e1 : k = i
    · subst e1
      refine ⟨j, h3, h4, ?_⟩
      unfold Proofs.YtgkcnocfijckoaaGreat.swp
      split
      · rename_i e; rw [e]
      · rw [if_pos rfl]
    · by_cases e2 : k = j
      · subst e2
        exact ⟨i, h1, h2, by unfold Proofs.YtgkcnocfijckoaaGreat.swp; rw [if_pos rfl]⟩
      · exact ⟨k, k1, k2, by unfold Proofs.YtgkcnocfijckoaaGreat.swp; rw [if_neg e1, if_neg e2]⟩
  · unfold Proofs.YtgkcnocfijckoaaGreat.swp
    rw [if_neg (by omega), if_neg (by omega)]
/-- x stands at j, what was between j and i one place on -/
def insAt (f : Nat → Int) (i j : Nat) : Nat → Int := fun k => if k = j then f i else if j < k ∧ k ≤ i then f (k - 1) else f k
theorem insAt_self (f : Nat → Int) (i : Nat) : insAt f i i = f := by
  funext k; unfold insAt
  split
  · rename_i e; rw [e]
  · rw [if_neg (by omega)]
theorem insAt_swp (f : Nat → Int) (i j : Nat) (h : 0 < j) (hj : j ≤ i) : swp (insAt f i j) j (j - 1) = insAt f i (j - 1) := by
  funext k; unfold swp insAt
  by_cases e1 : k = j
  · rw [if_pos e1, if_neg (by omega : ¬ j - 1 = j), if_neg (by omega), if_neg (by omega), if_pos (by omega)]
    rw [e1]
  · rw [if_neg e1]
    by_cases e2 : k = j - 1
    · rw [if_pos e2, if_pos rfl, if_pos e2]
    · rw [if_neg e2, if_neg e1, if_neg e2]
      by_cases e3 : j < k ∧ k ≤ i
      · rw [if_pos e3, if_pos (by omega)]
      · rw [if_neg e3, if_neg (by omega)]
theorem insAt_same (f : Nat → Int) {a i j : Nat} (h1 : a ≤ j) (h2 : j ≤ i) : SameOn f (insAt f i j) a (i + 1) := by
  refine ⟨fun k k1 k2 => ?_, fun k k1 k2 => ?_, fun k hk => ?_⟩
  · unfold insAt
    split
    · exact ⟨i, by omega, by omega, rfl⟩
    · split
      · exact ⟨k - 1, by omega, by omega, rfl⟩
      · exact ⟨k, k1, k2, rfl⟩
  · by_cases e1 : k = i
    · exact ⟨j, by omega, by omega, by unfold insAt; rw [if_pos rfl, e1]⟩
    · by_cases e2 : j ≤ k
      · exact ⟨k + 1, by omega, by omega, by unfold insAt; rw [if_neg (by omega), if_pos (by omega)]; rfl⟩
      · exact ⟨k, k1, k2, by unfold insAt; rw [if_neg (by omega), if_neg (by omega)]⟩
  · unfold insAt
    rw [if_neg (by omega), if_neg (by omega)]
/-- x stands in its place -/
theorem insAt_srt {wt : Int → Int} {f : Nat → Int} {a i j : Nat} (hs : Srt wt f a i) (h1 : a ≤ j) (h2 : j ≤ i) (hup : ∀ k, j ≤ k → k < i → Ltw wt (f i) (f k)) (hdn : a < j → Ltw wt (f (j - 1)) (f i)) : Srt wt (insAt f i j) a (i + 1) := by
  have hlow : ∀ k, a ≤ k → k < j → Ltw wt (f k) (f i) := by
    intro k k1 k2
    by_cases e : k = j - 1
    · rw [e]; exact hdn (by omega)
    · exact (hs k (j - 1) k1 (by omega) (by omega)).trans (hdn (by omega))
  intro p q hp hpq hq
  unfold insAt
  by_cases p1 : p = j
  · rw [if_pos p1, if_neg (by omega), if_pos (by omega)]
    exact hup (q - 1) (by omega) (by omega)
  · rw [if_neg p1]
    by_cases p2 : j < p ∧ p ≤ i
    · rw [if_pos p2, if_neg (by omega), if_pos (by omega)]
      exact hs (p - 1) (q - 1) (by omega) (by omega) (by omega)
    · rw [if_neg p2]
      by_cases q1 : q = j
      · rw [if_pos q1]; exact hlow p hp (by omega)
      · rw [if_neg q1]
        by_cases q2 : j < q ∧ q ≤ i
        · rw [if_pos q2]
          by_cases e : q - 1 = p
          · omega
          · exact hs p (q - 1) hp (by omega) (by omega)
        · rw [if_neg q2]; exact hs p q hp hpq (by omega)
def delAt (f : Nat → Int) (a k : Nat) : Nat → Int := fun t => if t = k then f a else if a ≤ t ∧ t < k then f (t + 1) else f t
theorem delAt_self (f : Nat → Int) (a : Nat) : delAt f a a = f := by
  funext t; unfold delAt
  split
  · rename_i e; rw [e]
  · rw [if_neg (by omega)]
theorem delAt_swp (f : Nat → Int) (a k : Nat) (h : a ≤ k) : swp (delAt f a k) k (k + 1) = delAt f a (k + 1) := by
  funext t; unfold swp delAt
  by_cases e1 : t = k
  · rw [if_pos e1, if_neg (by omega), if_neg (by omega), if_neg (by omega), if_pos (by omega), e1]
  · rw [if_neg e1]
    by_cases e2 : t = k + 1
    · rw [if_pos e2, if_pos rfl, if_pos e2]
    · rw [if_neg e2, if_neg e1, if_neg e2]
      by_cases e3 : a ≤ t ∧ t < k
      · rw [if_pos e3, if_pos (by omega)]
      · rw [if_neg e3, if_neg (by omega)]
theorem delAt_same (f : Nat → Int) {a k b : Nat} (h1 : a ≤ k) (h2 : k < b) : SameOn f (delAt f a k) a b := by
  refine ⟨fun t t1 t2 => ?_, fun t t1 t2 => ?_, fun t ht => ?_⟩
  · unfold delAt
    split
    · exact ⟨a, by omega, by omega, rfl⟩
    · split
      · exact ⟨t + 1, by omega, by omega, rfl⟩
      · exact ⟨t, t1, t2, rfl⟩
  · by_cases e1 : t = a
    · exact ⟨k, by omega, by omega, by unfold delAt; rw [if_pos rfl, e1]⟩
    · by_cases e2 : t ≤ k
      · exact ⟨t - 1, by omega, by omega, by unfold delAt; rw [if_neg (by omega), if_pos (by omega), show t - 1 + 1 = t by omega]⟩
      · exact ⟨t, t1, t2, by unfold delAt; rw [if_neg (by omega), if_neg (by omega)]⟩
  · unfold delAt
    rw [if_neg (by omega), if_neg (by omega)]
theorem delAt_srt {wt : Int → Int} {f : Nat → Int} {a b i : Nat} (hs : Srt wt f (a + 1) b) (h1 : a + 1 ≤ i) (h2 : i ≤ b) (hdn : ∀ k, a + 1 ≤ k → k < i → Ltw wt (f k) (f a)) (hup : ∀ k, i ≤ k → k < b → Ltw wt (f a) (f k)) : Srt wt (delAt f a (i - 1)) a b := by
  intro p q hp hpq hq
  unfold delAt
  by_cases p1 : p = i - 1
  · rw [if_pos p1, if_neg (by omega), if_neg (by omega)]
    exact hup q (by omega) hq
  · rw [if_neg p1]
    by_cases p2 : a ≤ p ∧ p < i - 1
    · rw [if_pos p2]
      by_cases q1 : q = i - 1
      · rw [if_pos q1]; exact hdn (p + 1) (by omega) (by omega)
      · rw [if_neg q1]
        by_cases q2 : a ≤ q ∧ q < i - 1
        · rw [if_pos q2]; exact hs (p + 1) (q + 1) (by omega) (by omega) (by omega)
        · rw [if_neg q2]; exact hs (p + 1) q (by omega) (by omega) hq
    · rw [if_neg p2, if_neg (by omega), if_neg (by omega)]
      exact hs p q (by omega) hpq hq
def swr (f : Nat → Int) (a b n : Nat) : Nat → Int := fun t => if a ≤ t ∧ t < a + n then f (t - a + b) else if b ≤ t ∧ t < b + n then f (t - b + a) else f t
theorem swr_zero (f : Nat → Int) (a b : Nat) : swr f a b 0 = f := by
  funext t; unfold swr
  (repeat' split) <;> first | (exfalso; omega) | rfl | (congr 1; omega) | (congr 1; congr 1; omega)
theorem swr_succ (f : Nat → Int) (a b n : Nat) (h : a + n < b) : swp (swr f a b n) (a + n) (b + n) = swr f a b (n + 1) := by
  funext t; unfold swp swr
  (repeat' split) <;> first | (exfalso; omega) | rfl | (congr 1; omega) | (congr 1; congr 1; omega)
/-- rotation: what stood in [a, m) and in [m, b) changes places -/
def rot (f : Nat → Int) (a m b : Nat) : Nat → Int := fun t => if a ≤ t ∧ t < a + (b - m) then f (t + (m - a)) else if a + (b - m) ≤ t ∧ t < b then f (t - (b - m)) else f t
theorem rot_none (f : Nat → Int) {a m b : Nat} (h : a = m ∨ m = b) (h1 : a ≤ m) (h2 : m ≤ b) : rot f a m b = f := by
  funext t; unfold rot
  rcases h with rfl | rfl
  · by_cases e1 : a ≤ t ∧ t < a + (b - a)
    · rw [if_pos e1, show t + (a - a) = t by omega]
    · rw [if_neg e1, if_neg (by omega)]
  · rw [if_neg (by omega)]
    by_cases e2 : a + (m - m) ≤ t ∧ t < m
    · rw [if_pos e2, show t - (m - m) = t by omega]
    · rw [if_neg e2]
/-- the last step -/
theorem rot_eq (f : Nat → Int) (m i : Nat) (h : i ≤ m) : swr f (m - i) m i = rot f (m - i) m (m + i) := by
  funext t; unfold swr rot
  (repeat' split) <;> first | (exfalso; omega) | rfl | (congr 1; omega) | (congr 1; congr 1; omega)
/-- a step with the longer run ahead -/
theorem rot_gt (f : Nat → Int) (m i j : Nat) (h : j < i) (hi : i ≤ m) (hj : 0 < j) : rot (swr f (m - i) m j) (m - i + j) m (m + j) = rot f (m - i) m (m + j) := by
  funext t; unfold rot swr
  (repeat' split) <;> first | (exfalso; omega) | rfl | (congr 1; omega) | (congr 1; congr 1; omega)
/-- a step with the longer run behind -/
theorem rot_lt (f : Nat → Int) (m i j : Nat) (h : i < j) (hi : i ≤ m) (hj : 0 < i) : rot (swr f (m - i) (m + j - i) i) (m - i) m (m + (j - i)) = rot f (m - i) m (m + j) := by
  funext t; unfold rot swr
  (repeat' split) <;> first | (exfalso; omega) | rfl | (congr 1; omega) | (congr 1; congr 1; omega)
theorem rot_same (f : Nat → Int) {a m b : Nat} (h1 : a ≤ m) (h2 : m ≤ b) : SameOn f (rot f a m b) a b := by
  refine ⟨fun t t1 t2 => ?_, fun t t1 t2 => ?_, fun t ht => ?_⟩
  · unfold rot
    split
    · exact ⟨t + (m - a), by omega, by omega, rfl⟩
    · split
      · exact ⟨t - (b - m), by omega, by omega, rfl⟩
      · omega
  · by_cases e : t < m
    · refine ⟨t + (b - m), by omega, by omega, ?_⟩
      unfold rot
      rw [if_neg (by omega), if_pos (by omega)]; congr 1; omega
    · refine ⟨t - (m - a), by omega, by omega, ?_⟩
      unfold rot
      rw [if_pos (by omega)]; congr 1; omega
  · unfold rot
    rw [if_neg (by omega), if_neg (by omega)]
theorem merge_srt {wt : Int → Int} {f : Nat → Int} {a s m e b mid : Nat} (hA : Srt wt f a m) (hB : Srt wt f m b) (h1 : a ≤ s) (h2 : s ≤ m) (h3 : m ≤ e) (h4 : e ≤ b) (hmid : s + (e - m) = mid)
    (c1 : a < s → e < b → Ltw wt (f (s - 1)) (f e)) (c2 : m < e → s < m → Ltw wt (f (e - 1)) (f s)) :
    Srt wt (rot f s m e) a s ∧ Srt wt (rot f s m e) s mid ∧ Srt wt (rot f s m e) mid e ∧ Srt wt (rot f s m e) e b ∧ (∀ i j, a ≤ i → i < mid → mid ≤ j → j < b → Ltw wt (rot f s m e i) (rot f s m e j)) := by
  have r1 : ∀ t, t < s → rot f s m e t = f t := fun t ht => by unfold rot; rw [if_neg (by omega), if_neg (by omega)]
  have r2 : ∀ t, s ≤ t → t < mid → rot f s m e t = f (t + (m - s)) := fun t t1 t2 => by unfold rot; rw [if_pos (by omega)]
  have r3 : ∀ t, mid ≤ t → t < e → rot f s m e t = f (t - (e - m)) := fun t t1 t2 => by unfold rot; rw [if_neg (by omega), if_pos (by omega)]
  have r4 : ∀ t, e ≤ t → rot f s m e t = f t := fun t ht => by unfold rot; rw [if_neg (by omega), if_neg (by omega)]
  have lowA : ∀ i, a ≤ i → i < s → e < b → Ltw wt (f i) (f e) := by
    intro i i1 i2 hb
    by_cases q : i = s - 1
    · rw [q]; exact c1 (by omega) hb
    · exact (hA i (s - 1) i1 (by omega) (by omega)).trans (c1 (by omega) hb)
  have lowB : ∀ i, m ≤ i → i < e → s < m → Ltw wt (f i) (f s) := by
    intro i i1 i2 hs
    by_cases q : i = e - 1
    · rw [q]; exact c2 (by omega) hs
    · exact (hB i (e - 1) i1 (by omega) (by omega)).trans (c2 (by omega) hs)
  refine ⟨?_, ?_, ?_, ?_, ?_⟩
  · intro i j i1 i2 i3; rw [r1 i (by omega), r1 j i3]; exact hA i j i1 i2 (by omega)
  · intro i j i1 i2 i3; rw [r2 i i1 (by omega), r2 j (by omega) i3]; exact hB _ _ (by omega) (by omega) (by omega)
  · intro i j i1 i2 i3; rw [r3 i i1 (by omega), r3 j (by omega) i3]; exact hA _ _ (by omega) (by omega) (by omega)
  · intro i j i1 i2 i3; rw [r4 i i1, r4 j (by omega)]; exact hB i j (by omega) i2 i3
  · intro i j i1 i2 j1 j2
    by_cases is_ : i < s
    · rw [r1 i is_]
      by_cases js : j < e
      · rw [r3 j j1 js]; exact hA _ _ i1 (by omega) (by omega)
      · rw [r4 j (by omega)]
        have := lowA i i1 is_ (by omega)
        by_cases q : j = e
        · rw [q]; exact this
        · exact this.trans (hB e j h3 (by omega) j2)
    · rw [r2 i (by omega) i2]
      by_cases js : j < e
      · rw [r3 j j1 js]
        have := lowB (i + (m - s)) (by omega) (by omega) (by omega)
        by_cases q : j - (e - m) = s
        · rw [q]; exact this
        · exact this.trans (hA s _ h1 (by omega) (by omega))
      · rw [r4 j (by omega)]; exact hB _ _ (by omega) (by omega) j2
theorem Srt.join {wt : Int → Int} {f : Nat → Int} {a m b : Nat} (h1 : Srt wt f a m) (h2 : Srt wt f m b) (h : ∀ i j, a ≤ i → i < m → m ≤ j → j < b → Ltw wt (f i) (f j)) : Srt wt f a b := by
  intro i j i1 i2 i3
  by_cases q : j < m
  · exact h1 i j i1 i2 q
  · by_cases q2 : i < m
    · exact h i j i1 q2 (by omega) i3
    · exact h2 i j (by omega) i2 i3
theorem Srt.out {wt : Int → Int} {f g : Nat → Int} {a b c d : Nat} (h : Srt wt f c d) (hs : SameOn f g a b) (ho : d ≤ a ∨ b ≤ c) : Srt wt g c d := by
  intro i j i1 i2 i3
  rw [hs.out i (by omega), hs.out j (by omega)]
  exact h i j i1 i2 i3
/-- just the numbers from s to e stand between s and e -/
def InB (f : Nat → Int) (s e : Nat) : Prop := (∀ i, s ≤ i → i < e → (s : Int) ≤ f i ∧ f i < e) ∧ (∀ v : Nat, s ≤ v → v < e → ∃ i, s ≤ i ∧ i < e ∧ f i = v)
theorem InB.same {f g : Nat → Int} {s e : Nat} (h : InB f s e) (k : SameOn f g s e) : InB g s e := by
  refine ⟨fun i i1 i2 => ?_, fun v v1 v2 => ?_⟩
  · obtain ⟨j, j1, j2, e⟩ := k.to i i1 i2
    rw [e]; exact h.1 j j1 j2
  · obtain ⟨i, i1, i2, e⟩ := h.2 v v1 v2
    obtain ⟨j, j1, j2, e2⟩ := k.of i i1 i2
    exact ⟨j, j1, j2, e2.trans e⟩
theorem InB.join {f : Nat → Int} {s m e : Nat} (h1 : InB f s m) (h2 : InB f m e) (a : s ≤ m) (b : m ≤ e) : InB f s e := by
  refine ⟨fun i i1 i2 => ?_, fun v v1 v2 => ?_⟩
  · by_cases q : i < m
    · have := h1.1 i i1 q; omega
    · have := h2.1 i (by omega) i2; omega
  · by_cases q : v < m
    · obtain ⟨i, i1, i2, e⟩ := h1.2 v v1 q
      exact ⟨i, i1, by omega, e⟩
    · obtain ⟨i, i1, i2, e⟩ := h2.2 v (by omega) v2
      exact ⟨i, by omega, i2, e⟩
theorem InB.out {f g : Nat → Int} {a b s e : Nat} (h : InB f s e) (hs : SameOn f g a b) (ho : e ≤ a ∨ b ≤ s) : InB g s e := by
  refine ⟨fun i i1 i2 => ?_, fun v v1 v2 => ?_⟩
  · rw [hs.out i (by omega)]; exact h.1 i i1 i2
  · obtain ⟨i, i1, i2, e⟩ := h.2 v v1 v2
    exact ⟨i, i1, i2, by rw [hs.out i (by omega)]; exact e⟩
/-- sorted, and just these numbers -/
def Okc (wt : Int → Int) (f : Nat → Int) (s e : Nat) : Prop := Srt wt f s e ∧ InB f s e
theorem Okc.out {wt : Int → Int} {f g : Nat → Int} {a b s e : Nat} (h : Okc wt f s e) (hs : SameOn f g a b) (ho : e ≤ a ∨ b ≤ s) : Okc wt g s e := ⟨h.1.out hs ho, h.2.out hs ho⟩
theorem InB.lo {f : Nat → Int} {a m b : Nat} (h1 : InB f a m) (h2 : InB f m b) : ∀ i j, a ≤ i → i < m → m ≤ j → j < b → f i < f j := by
  intro i j i1 i2 j1 j2
  have := h1.1 i i1 i2
  have := h2.1 j j1 j2
  omega
end Go.Proofs.YtgkcnocfijckoaaGreat
namespace Go.Proofs.YtgkcnocfijckoaaGreat
open Go.RowKit
set_option linter.unusedVariables false
def rowL (n : Nat) (f : Nat → Int) : List Value := (List.range n).map fun i => Value.int .i64 (f i)
theorem rowL_len (n : Nat) (f : Nat → Int) : (rowL n f).length = n := by simp [rowL]
theorem rowL_get {n : Nat} (f : Nat → Int) {i : Nat} (h : i < n) : (rowL n f)[i]? = some (.int .i64 (f i)) := by
  unfold rowL; rw [List.getElem?_map, List.getElem?_range h]; rfl
theorem rowL_swp {n : Nat} (f : Nat → Int) {i j : Nat} (hi : i < n) (hj : j < n) : ((rowL n f).set i (.int .i64 (f j))).set j (.int .i64 (f i)) = rowL n (swp f i j) := by
  apply List.ext_getElem?
  intro t
  by_cases ht : t < n
  · rw [rowL_get _ ht, List.getElem?_set, List.getElem?_set, rowL_get f ht]
    simp only [List.length_set, rowL_len]
    unfold swp
    by_cases e1 : j = t
    · subst e1
      rw [if_pos rfl, if_pos ht]
      by_cases e3 : j = i
      · rw [if_pos e3, e3]
      · rw [if_neg e3, if_pos rfl]
    · rw [if_neg e1]
      by_cases e2 : i = t
      · subst e2
        rw [if_pos rfl, if_pos ht, if_pos rfl]
      · rw [if_neg e2, if_neg (by omega), if_neg (by omega)]
  · rw [List.getElem?_eq_none (by simp [rowL_len]; omega), List.getElem?_eq_none (by simp [rowL_len]; omega)]
/-- the row of whole numbers in the block g -/
def Rw (R : List Value) (w : World) (g n : Nat) (f : Nat → Int) : Prop := Blk w g (rowL n f ++ R) 3
theorem rowL_getR {n : Nat} (f : Nat → Int) (R : List Value) {i : Nat} (h : i < n) : (rowL n f ++ R)[i]? = some (.int .i64 (f i)) := by
  rw [List.getElem?_append_left (by rw [rowL_len]; exact h)]
  exact rowL_get f h
theorem Rw.cell {R : List Value} {w : World} {g n : Nat} {f : Nat → Int} (h : Rw R w g n f) {i : Nat} (hi : i < n) : w.cell? ⟨g, i, none⟩ = some (.int .i64 (f i)) := Blk.cell h (rowL_getR f R hi)
theorem Rw.frozen {R : List Value} {w : World} {g n : Nat} {f : Nat → Int} (h : Rw R w g n f) (i : Nat) : w.frozen? ⟨g, i, none⟩ = false := Blk.frozen h i
theorem Rw.swap {R : List Value} {w : World} {g n : Nat} {f : Nat → Int} (h : Rw R w g n f) {i j : Nat} (hi : i < n) (hj : j < n) : Rw R ((w.setCell ⟨g, i, none⟩ (.int .i64 (f j))).setCell ⟨g, j, none⟩ (.int .i64 (f i))).drew g n (swp f i j) := by
  have e := Blk.drew (Blk.set (Blk.set h i (.int .i64 (f j))) j (.int .i64 (f i)))
  rw [List.set_append_left _ _ (by rw [rowL_len]; exact hi), List.set_append_left _ _ (by rw [List.length_set, rowL_len]; exact hj), rowL_swp f hi hj] at e
  exact e
theorem Rw.drewN {R : List Value} {w : World} {g n : Nat} {f : Nat → Int} (h : Rw R w g n f) (m : Nat) : Rw R (w.drewN m) g n f := h
theorem swp_comm (f : Nat → Int) (i j : Nat) : swp f i j = swp f j i := by
  funext t; unfold swp
  by_cases e1 : t = i
  · by_cases e2 : t = j
    · rw [if_pos e1, if_pos e2, ← e1, ← e2]
    · rw [if_pos e1, if_neg e2, if_pos e1]
  · rw [if_neg e1]
    by_cases e2 : t = j
    · rw [if_pos e2, if_pos e2]
    · rw [if_neg e2, if_neg e2, if_neg e1]
set_option maxHeartbeats 1000000 in
theorem swapRange_any {R : List Value} (w : World) (g n cap : Nat) (f : Nat → Int) (a b k : Nat) (vc : Value) (hR : Rw R w g n f) (hn : n ≤ 1000000000) (ha : a + k ≤ b) (hb : b + k ≤ n) :
    Calls Tryz.prog 143 #[.slice (some ⟨g, 0, none⟩) n cap, .int .i64 a, .int .i64 b, .int .i64 k, vc] w fun e w' => (∃ r, e = .returned r) ∧ Rw R w' g n (swr f a b k) ∧ w.grownBy w' (some g) := by
  go_enter Tryz.func143, Tryz.ntmps143
  go_wp2
  go_loopw [10] (fun x wr => ∃ i : Nat, i ≤ k ∧ x = .int .i64 i ∧ Rw R wr g n (swr f a b i) ∧ w.grownBy wr (some g)) (fun x _ => k - (intOf x).toNat)
  case atStart => exact ⟨0, by omega, rfl, by rw [swr_zero]; exact hR, grown_refl _ _⟩
  case round =>
    obtain ⟨i, hi, rfl, hW, hG⟩ := hrel
    by_cases hlt : (i : Int) < (k : Int)
    · obtain ⟨p, hp⟩ : ∃ p : Nat, (a : Int) + i = p := ⟨a + i, by omega⟩
      obtain ⟨q, hq⟩ : ∃ q : Nat, (b : Int) + i = q := ⟨b + i, by omega⟩
      have ep : p = a + i := by omega
      have eq_ : q = b + i := by omega
      have EP := Lib.hid ep
      have EQ := Lib.hid eq_
      have i1 : (p : Int) < (n : Int) := by omega
      have i2 : (q : Int) < (n : Int) := by omega
      have hne : p ≠ q := by omega
      have hne2 : q ≠ p := by omega
      have cp := hW.cell (i := p) (by omega)
      have cq := hW.cell (i := q) (by omega)
      have fp := hW.frozen p
      have fq := hW.frozen q
      clear ep eq_
      go_wp2_with fail
      go_region
      obtain ⟨W, hV⟩ : ∃ W, W = ((wr.setCell ⟨g, p, none⟩ (.int .i64 (swr f a b i q))).setCell ⟨g, q, none⟩ (.int .i64 (swr f a b i p))).drew := ⟨_, rfl⟩
      have hR2 : Rw R W g n (swr f a b (i + 1)) := by
        rw [hV, ← swr_succ f a b i (by omega), ← EP.out, ← EQ.out]
        exact hW.swap (by omega) (by omega)
      have hG2 : w.grownBy W (some g) := by rw [hV]; exact grown_drew (grown_set (grown_set hG _ _) _ _)
      rw [← hV]
      clear hV hW hG cp cq fp fq hR
      go_wp2
      go_roundw
      case rel => exact ⟨i + 1, by omega, by go_num, hR2, hG2⟩
      case measure => simp [intOf]; omega
    · have hik : i = k := by omega
      subst hik
      go_wp2
      go_end0
      exact ⟨⟨_, rfl⟩, hW, hG⟩
set_option maxHeartbeats 1000000 in
theorem rotate_any {R : List Value} (w : World) (g n cap : Nat) (f : Nat → Int) (a m b : Nat) (vc : Value) (hR : Rw R w g n f) (hn : n ≤ 1000000000) (ham : a < m) (hmb : m < b) (hb : b ≤ n) :
    Calls Tryz.prog 141 #[.slice (some ⟨g, 0, none⟩) n cap, .int .i64 a, .int .i64 m, .int .i64 b, vc] w fun e w' => (∃ r, e = .returned r) ∧ Rw R w' g n (rot f a m b) ∧ w.grownBy w' (some g) := by
  obtain ⟨i0, hi0⟩ : ∃ i0 : Nat, (m : Int) - a = i0 := ⟨m - a, by omega⟩
  obtain ⟨j0, hj0⟩ : ∃ j0 : Nat, (b : Int) - m = j0 := ⟨b - m, by omega⟩
  go_enter Tryz.func141, Tryz.ntmps141
  go_wp2
  go_loopw [10, 11] (fun x y wr => ∃ (i j : Nat) (h : Nat → Int), 0 < i ∧ 0 < j ∧ i ≤ i0 ∧ j ≤ j0 ∧ x = .int .i64 i ∧ y = .int .i64 j ∧ Rw R wr g n h ∧ rot h (m - i) m (m + j) = rot f a m b ∧ w.grownBy wr (some g)) (fun x y _ => (intOf x).toNat + (intOf y).toNat)
  case atStart => exact ⟨i0, j0, f, by omega, by omega, by omega, by omega, rfl, rfl, hR, by rw [show m - i0 = a by omega, show m + j0 = b by omega], grown_refl _ _⟩
  case round =>
    obtain ⟨i, j, h, hi, hj, hi2, hj2, rfl, rfl, hW, hE, hG⟩ := hrel
    have HE := Lib.hid hE
    clear hE hR
    obtain ⟨p, hp⟩ : ∃ p : Nat, (m : Int) - i = p := ⟨m - i, by omega⟩
    have ep : p = m - i := by omega
    have EP := Lib.hid ep
    clear ep
    by_cases hne : i = j
    · subst hne
      go_wp2_with (first | (go_at_call 143; refine (swapRange_any wr g n cap h p m i vc hW hn (by have := EP.out; omega) (by omega)).mono ?_; rintro e w2 ⟨⟨r, rfl⟩, hR2, hG2⟩))
      go_end0
      refine ⟨⟨_, rfl⟩, ?_, grown_trans hG hG2⟩
      rw [← HE.out, ← rot_eq h m i (by omega), ← EP.out]
      exact hR2
    · have hne' : ¬ ((i : Int) = (j : Int)) := by omega
      by_cases hgt : (j : Int) < (i : Int)
      · obtain ⟨s, hs⟩ : ∃ s : Nat, (i : Int) - j = s := ⟨i - j, by omega⟩
        go_wp2_with (first | (go_at_call 143; refine (swapRange_any wr g n cap h p m j vc hW hn (by have := EP.out; omega) (by omega)).mono ?_; rintro e w2 ⟨⟨r, rfl⟩, hR2, hG2⟩))
        go_roundw
        case rel =>
          refine ⟨s, j, _, by omega, hj, by omega, hj2, rfl, rfl, hR2, ?_, grown_trans hG hG2⟩
          rw [← HE.out, ← rot_gt h m i j (by omega) (by omega) hj, ← EP.out, show m - s = p + j by have := EP.out; omega]
        case measure => simp [intOf]; omega
      · obtain ⟨s, hs⟩ : ∃ s : Nat, (j : Int) - i = s := ⟨j - i, by omega⟩
        obtain ⟨q1, hq1⟩ : ∃ q1 : Nat, (m : Int) + j = q1 := ⟨m + j, by omega⟩
        obtain ⟨q, hq⟩ : ∃ q : Nat, (q1 : Int) - i = q := ⟨m + j - i, by omega⟩
        have eq_ : q = m + j - i := by omega
        have EQ := Lib.hid eq_
        clear eq_
        go_wp2_with (first | (go_at_call 143; refine (swapRange_any wr g n cap h p q i vc hW hn (by have := EP.out; have := EQ.out; omega) (by have := EQ.out; omega)).mono ?_; rintro e w2 ⟨⟨r, rfl⟩, hR2, hG2⟩))
        go_roundw
        case rel =>
          refine ⟨i, s, _, hi, by omega, hi2, by omega, rfl, rfl, hR2, ?_, grown_trans hG hG2⟩
          rw [← HE.out, ← rot_lt h m i j (by omega) (by omega) hi, ← EP.out, ← EQ.out, show s = j - i by omega]
        case measure => simp [intOf]; omega
end Go.Proofs.YtgkcnocfijckoaaGreat
namespace Go.Proofs.YtgkcnocfijckoaaGreat
open Go.RowKit
set_option linter.unusedVariables false
/-- the comparison answers by the weights, whatever the row g holds; it may draw -/
def Cp (pb g N : Nat) (wt : Int → Int) (w : World) : Prop :=
  ∀ w', w.grownBy w' (some g) → ∀ x y D : Int, 0 ≤ x → x < N → 0 ≤ y → y < N → wt x - wt y = D → Calls Tryz.prog 126 #[.int .i64 x, .int .i64 y, .pointer (some ⟨pb, 0, none⟩)] w' fun e w'' => e = .returned (.int .i64 D) ∧ ∃ d, w'' = w'.drewN d
theorem Cp.grown {pb g N : Nat} {wt : Int → Int} {w w' : World} (h : Cp pb g N wt w) (hg : w.grownBy w' (some g)) : Cp pb g N wt w' := fun w2 h2 => h w2 (grown_trans hg h2)
theorem quiet_dr {P : Program} {f : FuncId} {args : Array Value} {w : World} {n : Nat} {v : Value}
    (h : Calls P f args (w.drewN n) fun e w' => e = .returned v ∧ ∃ d, w' = (w.drewN n).drewN d) : Calls P f args (w.drewN n) fun e w'' => e = .returned v ∧ ∃ m, w'' = w.drewN m :=
  h.mono fun _ _ ⟨he, d, hm⟩ => ⟨he, n + d, by rw [hm, World.drewN_drewN]⟩
/-- the numbers of the row are places -/
def Pl (n N : Nat) (f : Nat → Int) : Prop := ∀ i, i < n → 0 ≤ f i ∧ f i < N
theorem Pl.same {n N : Nat} {f g : Nat → Int} {a b : Nat} (h : Pl n N f) (k : SameOn f g a b) (hb : b ≤ n) : Pl n N g := by
  intro i hi
  by_cases e : a ≤ i ∧ i < b
  · obtain ⟨j, j1, j2, e⟩ := k.to i e.1 e.2
    rw [e]; exact h j (by omega)
  · rw [k.out i e]; exact h i hi
set_option maxHeartbeats 2000000 in
theorem insertion_any {R : List Value} (w : World) (pb g n cap N : Nat) (f : Nat → Int) (wt : Int → Int) (a b : Nat) (hR : Rw R w g n f) (hC : Cp pb g N wt w) (hP : Pl n N f) (hinc : ∀ i j, a ≤ i → i < j → j < b → f i < f j) (hn : n ≤ 1000000000) (hab : a ≤ b) (hb : b ≤ n) :
    Calls Tryz.prog 137 #[.slice (some ⟨g, 0, none⟩) n cap, .int .i64 a, .int .i64 b, .func (.func 126) #[] #[.pointer (some ⟨pb, 0, none⟩)]] w fun e w' => (∃ r, e = .returned r) ∧ ∃ h, Rw R w' g n h ∧ SameOn f h a b ∧ Srt wt h a b ∧ w.grownBy w' (some g) := by
  obtain ⟨a1, ha1⟩ : ∃ a1 : Nat, (a : Int) + 1 = a1 := ⟨a + 1, by omega⟩
  have HC := Lib.hid hC
  have HP := Lib.hid hP
  have HI := Lib.hid hinc
  clear hC hP hinc
  go_enter Tryz.func137, Tryz.ntmps137
  go_wp2
  go_loopw [8] (fun x wr => ∃ (i : Nat) (h : Nat → Int), a1 ≤ i ∧ (i ≤ b ∨ (a = b ∧ h = f)) ∧ x = .int .i64 i ∧ Rw R wr g n h ∧ SameOn f h a i ∧ Srt wt h a i ∧ w.grownBy wr (some g)) (fun x _ => b - (intOf x).toNat)
  case atStart => 
    refine ⟨a1, f, by omega, ?_, rfl, hR, SameOn.refl _ _ _, fun i j h1 h2 h3 => by omega, grown_refl _ _⟩
    by_cases e : a1 ≤ b
    · exact .inl e
    · exact .inr ⟨by omega, rfl⟩
  case round =>
    clear hR
    obtain ⟨i, h, hi, hib, rfl, hR, hS, hT, hG⟩ := hrel
    have HS := Lib.hid hS
    have HT := Lib.hid hT
    have HB := Lib.hid hib
    clear hS hT hib
    by_cases hlt : (i : Int) < (b : Int)
    · have hPh : Pl n N h := HP.out.same HS.out (by omega)
      have HPh := Lib.hid hPh
      clear hPh
      go_wp2_with fail
      go_loopw [9] (fun x wq => ∃ j : Nat, a ≤ j ∧ j ≤ i ∧ x = .int .i64 j ∧ Rw R wq g n (insAt h i j) ∧ (∀ k, j ≤ k → k < i → Ltw wt (h i) (h k)) ∧ w.grownBy wq (some g)) (fun x _ => (intOf x).toNat)
      case atStart => exact ⟨i, by omega, by omega, rfl, by rw [insAt_self]; exact hR, fun k k1 k2 => by omega, hG⟩
      case round =>
        clear hR hG
        obtain ⟨j, hj1, hj2, rfl, hR, hU, hG⟩ := hrel
        have HU := Lib.hid hU
        clear hU
        by_cases hgt : (a : Int) < (j : Int)
        · obtain ⟨q, hq⟩ : ∃ q : Nat, (j : Int) - 1 = q := ⟨j - 1, by omega⟩
          have eq_ : q = j - 1 := by omega
          have hw1 : IntKind.i64.wrap ((j : Int) - 1) = (q : Int) := by rw [hq]; exact IntWalk.i64_in _ (by omega)
          have hxj : insAt h i j j = h i := by unfold insAt; rw [if_pos rfl]
          have hxq : insAt h i j q = h q := by unfold insAt; rw [if_neg (by omega), if_neg (by omega)]
          have cj := hR.cell (i := j) (by omega)
          have cq := hR.cell (i := q) (by omega)
          rw [hxj] at cj
          rw [hxq] at cq
          have fj := hR.frozen j
          have fq := hR.frozen q
          have HXJ := Lib.hid hxj
          have HXQ := Lib.hid hxq
          have EQ := Lib.hid eq_
          clear hxj hxq eq_
          have i1 : (j : Int) < (n : Int) := by omega
          have i2 : (q : Int) < (n : Int) := by omega
          have hne : j ≠ q := by have := EQ.out; omega
          have hne2 : q ≠ j := by have := EQ.out; omega
          have g1 : decide ((a : Int) < (j : Int)) = true := by simp; omega
          have hlo : h q < h i := by
            have e1 : h i = f i := HS.out.out i (by omega)
            obtain ⟨t, t1, t2, e2⟩ := HS.out.to q (by have := EQ.out; omega) (by have := EQ.out; omega)
            rw [e1, e2]
            exact HI.out t i t1 (by omega) (by omega)
          have HLO := Lib.hid hlo
          clear hlo
          obtain ⟨D, hD⟩ : ∃ D, wt (h i) - wt (h q) = D := ⟨_, rfl⟩
          have HD := Lib.hid hD
          clear hD
          have hK : ∀ m, Calls Tryz.prog 126 #[.int .i64 (h i), .int .i64 (h q), .pointer (some ⟨pb, 0, none⟩)] (wr.drewN m) fun e w'' => e = .returned (.int .i64 D) ∧ ∃ d, w'' = (wr.drewN m).drewN d := fun m =>
            HC.out _ (grown_drewN hG m) (h i) (h q) D (HPh.out i (by omega)).1 (HPh.out i (by omega)).2 (HPh.out q (by omega)).1 (HPh.out q (by omega)).2 HD.out
          have HK := Lib.hid hK
          clear hK
          by_cases hd : D < 0
          · have g2 : decide (D < 0) = true := by simp; omega
            go_wp2_with fail
            go_quiet ((go_at_call 126; exact quiet_dr (HK.out _)))
            go_wp2_with fail
            have cj2 : (wr.drewN nq).cell? ⟨g, j, none⟩ = some (.int .i64 (h i)) := cj
            have cq2 : (wr.drewN nq).cell? ⟨g, q, none⟩ = some (.int .i64 (h q)) := cq
            have fj2 : (wr.drewN nq).frozen? ⟨g, j, none⟩ = false := fj
            have fq2 : (wr.drewN nq).frozen? ⟨g, q, none⟩ = false := fq
            obtain ⟨V, hV⟩ : ∃ V, V = wr.drewN nq := ⟨_, rfl⟩
            rw [← hV] at cj2 cq2 fj2 fq2 ⊢
            have hRV : Rw R V g n (insAt h i j) := by rw [hV]; exact hR.drewN _
            have hGV : w.grownBy V (some g) := by rw [hV]; exact grown_drewN hG _
            clear hV cj cq fj fq hR hG
            go_region
            obtain ⟨W, hW⟩ : ∃ W, W = ((V.setCell ⟨g, j, none⟩ (.int .i64 (h q))).setCell ⟨g, q, none⟩ (.int .i64 (h i))).drew := ⟨_, rfl⟩
            have hR2 : Rw R W g n (insAt h i q) := by
              have hs := hRV.swap (i := j) (j := q) (by omega) (by omega)
              rw [HXJ.out, HXQ.out] at hs
              rw [hW, EQ.out, ← insAt_swp h i j (by omega) hj2, ← EQ.out]
              exact hs
            have hG2 : w.grownBy W (some g) := by rw [hW]; exact grown_drew (grown_set (grown_set hGV _ _) _ _)
            rw [← hW]
            clear hW hRV hGV cj2 cq2 fj2 fq2
            go_wp2
            go_roundw
            case rel =>
              have e := EQ.out
              refine ⟨q, by omega, by omega, rfl, hR2, fun k k1 k2 => ?_, hG2⟩
              by_cases e2 : k = q
              · rw [e2]; exact (ltw_lo HLO.out).1 (by rw [HD.out]; exact hd)
              · exact HU.out k (by omega) k2
            case measure => have e := EQ.out; simp [intOf]; omega
          · have g2 : decide (D < 0) = false := by simp; omega
            go_wp2_with fail
            go_quiet ((go_at_call 126; exact quiet_dr (HK.out _)))
            go_wp2
            go_roundw
            case rel =>
              refine ⟨i + 1, insAt h i j, by omega, .inl (by omega), by go_num, hR.drewN _, (HS.out.wide (Nat.le_refl _) (by omega)).trans (insAt_same h hj1 hj2), insAt_srt HT.out hj1 hj2 HU.out (fun _ => ?_), grown_drewN hG _⟩
              have e := EQ.out
              rw [← e]
              exact Ltw.total (fun hx => by have h1 := (ltw_lo HLO.out).2 hx; have h2 := HD.out; omega) (by have := HLO.out; omega)
            case measure => simp [intOf]; omega
        · have hja : j = a := by omega
          subst hja
          have g1 : decide ((j : Int) < (j : Int)) = false := by simp
          go_wp2_with fail
          go_quiet (fail)
          go_wp2
          go_roundw
          case rel => exact ⟨i + 1, insAt h i j, by omega, .inl (by omega), by go_num, hR.drewN _, (HS.out.wide (Nat.le_refl _) (by omega)).trans (insAt_same h hj1 hj2), insAt_srt HT.out hj1 hj2 HU.out (fun hx => absurd hx (Nat.lt_irrefl _)), grown_drewN hG _⟩
          case measure => simp [intOf]; omega
    · go_wp2
      go_end0
      refine ⟨⟨_, rfl⟩, h, hR, ?_, ?_, hG⟩
      · rcases HB.out with hb' | ⟨hb', rfl⟩
        · have e : i = b := by omega
          rw [← e]; exact HS.out
        · exact SameOn.refl _ _ _
      · rcases HB.out with hb' | ⟨hb', rfl⟩
        · have e : i = b := by omega
          rw [← e]; exact HT.out
        · intro x y h1 h2 h3; omega
end Go.Proofs.YtgkcnocfijckoaaGreat
namespace Go.Proofs.YtgkcnocfijckoaaGreat
open Go.RowKit
set_option linter.unusedVariables false
/-- what the merge answers -/
def MergeR (R : List Value) (w : World) (g n : Nat) (f : Nat → Int) (wt : Int → Int) (a b : Nat) (e : Ending) (w' : World) : Prop := (∃ r, e = .returned r) ∧ ∃ h, Rw R w' g n h ∧ SameOn f h a b ∧ Srt wt h a b ∧ w.grownBy w' (some g)
set_option maxRecDepth 100000 in
set_option maxHeartbeats 4000000 in
theorem symMerge_one {R : List Value} (w : World) (pb g n cap N : Nat) (f : Nat → Int) (wt : Int → Int) (a b : Nat) (hR : Rw R w g n f) (hC : Cp pb g N wt w) (hP : Pl n N f) (hn : n ≤ 1000000000) (hab : a + 1 < b) (hb : b ≤ n)
    (hS : Srt wt f (a + 1) b) (hlo : ∀ j, a < j → j < b → f a < f j) :
    Calls Tryz.prog 138 #[.slice (some ⟨g, 0, none⟩) n cap, .int .i64 a, .int .i64 (a + 1 : Nat), .int .i64 b, .func (.func 126) #[] #[.pointer (some ⟨pb, 0, none⟩)]] w (MergeR R w g n f wt a b) := by
  obtain ⟨m, hm⟩ : ∃ m : Nat, a + 1 = m := ⟨_, rfl⟩
  rw [hm]
  rw [hm] at hS hab
  have h1 : IntKind.i64.wrap ((m : Int) - (a : Int)) = 1 := by rw [show (m : Int) - a = 1 by omega]; exact IntWalk.i64_in _ (by omega)
  have h2 : (m : Int) - (a : Int) = 1 := by omega
  have hma : a < m := by omega
  have HM := Lib.hid hm
  have HC := Lib.hid hC
  have HP := Lib.hid hP
  have HS := Lib.hid hS
  have HL := Lib.hid hlo
  clear hC hP hS hlo hm
  go_enter Tryz.func138, Tryz.ntmps138
  go_wp2_with fail
  go_loopw [10, 11] (fun x y wr => ∃ (i j : Nat), m ≤ i ∧ i ≤ j ∧ j ≤ b ∧ x = .int .i64 i ∧ y = .int .i64 j ∧ Rw R wr g n f ∧ (∀ k, m ≤ k → k < i → Ltw wt (f k) (f a)) ∧ (∀ k, j ≤ k → k < b → Ltw wt (f a) (f k)) ∧ w.grownBy wr (some g)) (fun x y _ => (intOf y).toNat - (intOf x).toNat)
  case atStart => exact ⟨m, b, by omega, by omega, by omega, rfl, rfl, hR, fun k k1 k2 => by omega, fun k k1 k2 => by omega, grown_refl _ _⟩
  case round =>
    clear hR
    obtain ⟨i, j, hi, hij, hj, rfl, rfl, hR, hD, hU, hG⟩ := hrel
    have HD := Lib.hid hD
    have HU := Lib.hid hU
    clear hD hU
    by_cases hlt : (i : Int) < (j : Int)
    · obtain ⟨s, hs⟩ : ∃ s : Nat, (i : Int) + j = s := ⟨i + j, by omega⟩
      obtain ⟨t, ht⟩ : ∃ t : Nat, (s : Int) / 2 = t := ⟨s / 2, by omega⟩
      have t1 : i ≤ t := by omega
      have t2 : t < j := by omega
      have ct := hR.cell (i := t) (by omega)
      have ca := hR.cell (i := a) (by omega)
      have i1 : (t : Int) < (n : Int) := by omega
      have i2 : (a : Int) < (n : Int) := by omega
      have hlo := HL.out t (by omega) (by omega)
      have HLO := Lib.hid hlo
      clear hlo
      obtain ⟨D, hDD⟩ : ∃ D, wt (f t) - wt (f a) = D := ⟨_, rfl⟩
      have HDD := Lib.hid hDD
      clear hDD
      have hK : ∀ q, Calls Tryz.prog 126 #[.int .i64 (f t), .int .i64 (f a), .pointer (some ⟨pb, 0, none⟩)] (wr.drewN q) fun e w'' => e = .returned (.int .i64 D) ∧ ∃ d, w'' = (wr.drewN q).drewN d := fun q =>
        HC.out _ (grown_drewN hG q) _ _ D (HP.out t (by omega)).1 (HP.out t (by omega)).2 (HP.out a (by omega)).1 (HP.out a (by omega)).2 HDD.out
      have HK := Lib.hid hK
      clear hK
      by_cases hd : D < 0
      · have g2 : decide (D < 0) = true := by simp; omega
        go_wp2_with fail
        go_quiet ((go_at_call 126; exact quiet_dr (HK.out _)))
        go_wp2
        go_roundw
        case rel =>
          have hx : Ltw wt (f t) (f a) := (ltw_lo HLO.out).1 (by have := HDD.out; omega)
          refine ⟨t + 1, j, by omega, by omega, hj, by go_num, rfl, hR.drewN _, fun k k1 k2 => ?_, HU.out, grown_drewN hG _⟩
          by_cases e : k = t
          · rw [e]; exact hx
          · exact (HS.out k t k1 (by omega) (by omega)).trans hx
        case measure => simp [intOf]; omega
      · have g2 : decide (D < 0) = false := by simp; omega
        go_wp2_with fail
        go_quiet ((go_at_call 126; exact quiet_dr (HK.out _)))
        go_wp2
        go_roundw
        case rel =>
          have hx : Ltw wt (f a) (f t) := Ltw.total (fun hx => by have h1 := (ltw_lo HLO.out).2 hx; have h2 := HDD.out; omega) (by have := HLO.out; omega)
          refine ⟨i, t, hi, t1, by omega, rfl, rfl, hR.drewN _, HD.out, fun k k1 k2 => ?_, grown_drewN hG _⟩
          by_cases e : k = t
          · rw [e]; exact hx
          · exact hx.trans (HS.out t k (by omega) (by omega) k2)
        case measure => simp [intOf]; omega
    · have hij2 : i = j := by omega
      subst hij2
      obtain ⟨l, hl⟩ : ∃ l : Nat, (i : Int) - 1 = l := ⟨i - 1, by omega⟩
      have hli : l = i - 1 := by omega
      have HLI := Lib.hid hli
      clear hli
      go_wp2_with fail
      go_loopw [13] (fun x wr => ∃ k : Nat, a ≤ k ∧ k ≤ l ∧ x = .int .i64 k ∧ Rw R wr g n (delAt f a k) ∧ w.grownBy wr (some g)) (fun x _ => l - (intOf x).toNat)
      case atStart => exact ⟨a, by omega, by omega, rfl, by rw [delAt_self]; exact hR, hG⟩
      case round =>
        clear hR hG
        obtain ⟨k, hk1, hk2, rfl, hR, hG⟩ := hrel
        by_cases hkl : (k : Int) < (l : Int)
        · obtain ⟨q, hq⟩ : ∃ q : Nat, (k : Int) + 1 = q := ⟨k + 1, by omega⟩
          have eq_ : q = k + 1 := by omega
          have EQ := Lib.hid eq_
          clear eq_
          have ck := hR.cell (i := k) (by have := HLI.out; omega)
          have cq := hR.cell (i := q) (by have := HLI.out; have := EQ.out; omega)
          have fk := hR.frozen k
          have fq := hR.frozen q
          have i1 : (k : Int) < (n : Int) := by omega
          have i2 : (q : Int) < (n : Int) := by omega
          have hne : k ≠ q := by have := EQ.out; omega
          have hne2 : q ≠ k := by have := EQ.out; omega
          go_wp2_with fail
          go_region
          obtain ⟨W, hW⟩ : ∃ W, W = ((wr.setCell ⟨g, k, none⟩ (.int .i64 (delAt f a k q))).setCell ⟨g, q, none⟩ (.int .i64 (delAt f a k k))).drew := ⟨_, rfl⟩
          have hR2 : Rw R W g n (delAt f a q) := by
            rw [hW, EQ.out, ← delAt_swp f a k hk1, ← EQ.out]
            exact hR.swap (by omega) (by have := HLI.out; omega)
          have hG2 : w.grownBy W (some g) := by rw [hW]; exact grown_drew (grown_set (grown_set hG _ _) _ _)
          rw [← hW]
          clear hW hR hG ck cq fk fq
          go_wp2
          go_roundw
          case rel => exact ⟨q, by omega, by omega, rfl, hR2, hG2⟩
          case measure => simp [intOf]; omega
        · have hkl2 : k = l := by omega
          subst hkl2
          go_wp2
          go_end0
          have e := HLI.out
          have e2 := HM.out
          refine ⟨⟨_, rfl⟩, delAt f a k, hR, delAt_same f hk1 (by omega), ?_, hG⟩
          rw [e]
          exact delAt_srt (by rw [e2]; exact HS.out) (by omega) (by omega) (fun k k1 k2 => HD.out k (by omega) k2) HU.out
end Go.Proofs.YtgkcnocfijckoaaGreat
namespace Go.Proofs.YtgkcnocfijckoaaGreat
open Go.RowKit
set_option linter.unusedVariables false
set_option maxRecDepth 100000 in
set_option maxHeartbeats 4000000 in
theorem symMerge_last {R : List Value} (w : World) (pb g n cap N : Nat) (f : Nat → Int) (wt : Int → Int) (a m : Nat) (hR : Rw R w g n f) (hC : Cp pb g N wt w) (hP : Pl n N f) (hn : n ≤ 1000000000) (ham : a + 1 < m) (hb0 : m + 1 ≤ n)
    (hS : Srt wt f a m) (hlo : ∀ j, a ≤ j → j < m → f j < f m) :
    Calls Tryz.prog 138 #[.slice (some ⟨g, 0, none⟩) n cap, .int .i64 a, .int .i64 m, .int .i64 (m + 1 : Nat), .func (.func 126) #[] #[.pointer (some ⟨pb, 0, none⟩)]] w (MergeR R w g n f wt a (m + 1)) := by
  obtain ⟨b, hm⟩ : ∃ b : Nat, m + 1 = b := ⟨_, rfl⟩
  rw [hm] at hb0 ⊢
  obtain ⟨x0, hx0⟩ : ∃ x0 : Nat, (m : Int) - a = x0 := ⟨m - a, by omega⟩
  have hx1 : ((x0 : Int) == 1) = false := by simp; omega
  have h1 : IntKind.i64.wrap ((b : Int) - (m : Int)) = 1 := by rw [show (b : Int) - m = 1 by omega]; exact IntWalk.i64_in _ (by omega)
  have h2 : (b : Int) - (m : Int) = 1 := by omega
  have hma : a < m := by omega
  have hmn : m < n := by omega
  have HM := Lib.hid hm
  have HC := Lib.hid hC
  have HP := Lib.hid hP
  have HS := Lib.hid hS
  have HL := Lib.hid hlo
  clear hC hP hS hlo hm
  go_enter Tryz.func138, Tryz.ntmps138
  go_wp2_with fail
  go_loopw [14, 15] (fun x y wr => ∃ (i j : Nat), a ≤ i ∧ i ≤ j ∧ j ≤ m ∧ x = .int .i64 i ∧ y = .int .i64 j ∧ Rw R wr g n f ∧ (∀ k, a ≤ k → k < i → Ltw wt (f k) (f m)) ∧ (∀ k, j ≤ k → k < m → Ltw wt (f m) (f k)) ∧ w.grownBy wr (some g)) (fun x y _ => (intOf y).toNat - (intOf x).toNat)
  case atStart => exact ⟨a, m, by omega, by omega, by omega, rfl, rfl, hR, fun k k1 k2 => by omega, fun k k1 k2 => by omega, grown_refl _ _⟩
  case round =>
    clear hR
    obtain ⟨i, j, hi, hij, hj, rfl, rfl, hR, hD, hU, hG⟩ := hrel
    have HD := Lib.hid hD
    have HU := Lib.hid hU
    clear hD hU
    by_cases hlt : (i : Int) < (j : Int)
    · obtain ⟨s, hs⟩ : ∃ s : Nat, (i : Int) + j = s := ⟨i + j, by omega⟩
      obtain ⟨t, ht⟩ : ∃ t : Nat, (s : Int) / 2 = t := ⟨s / 2, by omega⟩
      have t1 : i ≤ t := by omega
      have t2 : t < j := by omega
      have ct := hR.cell (i := t) (by omega)
      have ca := hR.cell (i := m) hmn
      have i1 : (t : Int) < (n : Int) := by omega
      have i2 : (m : Int) < (n : Int) := by omega
      have hlo := HL.out t (by omega) (by omega)
      have HLO := Lib.hid hlo
      clear hlo
      obtain ⟨D, hDD⟩ : ∃ D, wt (f m) - wt (f t) = D := ⟨_, rfl⟩
      have HDD := Lib.hid hDD
      clear hDD
      have hK : ∀ q, Calls Tryz.prog 126 #[.int .i64 (f m), .int .i64 (f t), .pointer (some ⟨pb, 0, none⟩)] (wr.drewN q) fun e w'' => e = .returned (.int .i64 D) ∧ ∃ d, w'' = (wr.drewN q).drewN d := fun q =>
        HC.out _ (grown_drewN hG q) _ _ D (HP.out m (by omega)).1 (HP.out m (by omega)).2 (HP.out t (by omega)).1 (HP.out t (by omega)).2 HDD.out
      have HK := Lib.hid hK
      clear hK
      by_cases hd : D < 0
      · have g2 : decide (D < 0) = true := by simp; omega
        go_wp2_with fail
        go_quiet ((go_at_call 126; exact quiet_dr (HK.out _)))
        go_wp2
        go_roundw
        case rel =>
          have hx : Ltw wt (f m) (f t) := (ltw_lo HLO.out).1 (by have := HDD.out; omega)
          refine ⟨i, t, hi, t1, by omega, rfl, rfl, hR.drewN _, HD.out, fun k k1 k2 => ?_, grown_drewN hG _⟩
          by_cases e : k = t
          · rw [e]; exact hx
          · exact hx.trans (HS.out t k (by omega) (by omega) k2)
        case measure => simp [intOf]; omega
      · have g2 : decide (D < 0) = false := by simp; omega
        obtain ⟨t', ht'⟩ : ∃ t' : Nat, (t : Int) + 1 = t' := ⟨t + 1, by omega⟩
        go_wp2_with fail
        go_quiet ((go_at_call 126; exact quiet_dr (HK.out _)))
        go_wp2
        go_roundw
        case rel =>
          have hx : Ltw wt (f t) (f m) := Ltw.total (fun hx => by have h1 := (ltw_lo HLO.out).2 hx; have h2 := HDD.out; omega) (by have := HLO.out; omega)
          refine ⟨t', j, by omega, by omega, hj, rfl, rfl, hR.drewN _, fun k k1 k2 => ?_, HU.out, grown_drewN hG _⟩
          by_cases e : k = t
          · rw [e]; exact hx
          · exact (HS.out k t k1 (by omega) (by omega)).trans hx
        case measure => simp [intOf]; omega
    · have hij2 : i = j := by omega
      subst hij2
      go_wp2_with fail
      go_loopw [17] (fun x wr => ∃ k : Nat, i ≤ k ∧ k ≤ m ∧ x = .int .i64 k ∧ Rw R wr g n (insAt f m k) ∧ w.grownBy wr (some g)) (fun x _ => (intOf x).toNat)
      case atStart => exact ⟨m, by omega, by omega, rfl, by rw [insAt_self]; exact hR, hG⟩
      case round =>
        clear hR hG
        obtain ⟨k, hk1, hk2, rfl, hR, hG⟩ := hrel
        by_cases hkl : (i : Int) < (k : Int)
        · obtain ⟨q, hq⟩ : ∃ q : Nat, (k : Int) - 1 = q := ⟨k - 1, by omega⟩
          have eq_ : q = k - 1 := by omega
          have EQ := Lib.hid eq_
          clear eq_
          have ck := hR.cell (i := k) (by omega)
          have cq := hR.cell (i := q) (by have := EQ.out; omega)
          have fk := hR.frozen k
          have fq := hR.frozen q
          have i1 : (k : Int) < (n : Int) := by omega
          have i2 : (q : Int) < (n : Int) := by omega
          have hne : k ≠ q := by have := EQ.out; omega
          have hne2 : q ≠ k := by have := EQ.out; omega
          go_wp2_with fail
          go_region
          obtain ⟨W, hW⟩ : ∃ W, W = ((wr.setCell ⟨g, k, none⟩ (.int .i64 (insAt f m k q))).setCell ⟨g, q, none⟩ (.int .i64 (insAt f m k k))).drew := ⟨_, rfl⟩
          have hR2 : Rw R W g n (insAt f m q) := by
            rw [hW, EQ.out, ← insAt_swp f m k (by omega) hk2, ← EQ.out]
            exact hR.swap (by omega) (by omega)
          have hG2 : w.grownBy W (some g) := by rw [hW]; exact grown_drew (grown_set (grown_set hG _ _) _ _)
          rw [← hW]
          clear hW hR hG ck cq fk fq
          go_wp2
          go_roundw
          case rel => exact ⟨q, by omega, by omega, rfl, hR2, hG2⟩
          case measure => have := EQ.out; simp [intOf]; omega
        · have hkl2 : k = i := by omega
          subst hkl2
          go_wp2
          go_end0
          have e2 := HM.out
          refine ⟨⟨_, rfl⟩, insAt f m k, hR, ?_, ?_, hG⟩
          · rw [← e2]; exact insAt_same f hi hk2
          · rw [← e2]; exact insAt_srt HS.out hi hk2 HU.out (fun hx => HD.out (k - 1) (by omega) (by omega))
end Go.Proofs.YtgkcnocfijckoaaGreat
namespace Go.Proofs.YtgkcnocfijckoaaGreat
set_option linter.unusedVariables false
theorem incr_ext : ∀ (l m : List Int), l.Pairwise (· < ·) → m.Pairwise (· < ·) → (∀ x, x ∈ l ↔ x ∈ m) → l = m := by
  intro l
  induction l with
  | nil =>
    intro m _ _ h
    cases m with
    | nil => rfl
    | cons b m => exact absurd ((h b).2 (by simp)) (by simp)
  | cons a l ih =>
    intro m hl hm h
    cases m with
    | nil => exact absurd ((h a).1 (by simp)) (by simp)
    | cons b m =>
      rw [List.pairwise_cons] at hl hm
      have h1 : a = b := by
        rcases List.mem_cons.1 ((h a).1 (by simp)) with e | e
        · exact e
        · rcases List.mem_cons.1 ((h b).2 (by simp)) with e2 | e2
          · exact e2.symm
          · have := hl.1 b e2; have := hm.1 a e; omega
      subst h1
      congr 1
      refine ih m hl.2 hm.2 fun x => ⟨fun hx => ?_, fun hx => ?_⟩
      · rcases List.mem_cons.1 ((h x).1 (List.mem_cons_of_mem _ hx)) with e | e
        · have := hl.1 x hx; omega
        · exact e
      · rcases List.mem_cons.1 ((h x).2 (List.mem_cons_of_mem _ hx)) with e | e
        · have := hm.1 x hx; omega
        · exact e
theorem cnt_split (g : Nat → Int) (v : Int) : ∀ N, (∀ i j, i < j → j < N → g i ≤ g j) → ((List.range N).map g).countP (· < v) ≤ N ∧ (∀ i, i < ((List.range N).map g).countP (· < v) → g i < v) ∧ (∀ i, ((List.range N).map g).countP (· < v) ≤ i → i < N → v ≤ g i) := by
  intro N
  induction N with
  | zero => intro _; simp
  | succ N ih =>
    intro h
    obtain ⟨h1, h2, h3⟩ := ih fun i j hij hj => h i j hij (by omega)
    rw [List.range_succ, List.map_append, List.countP_append]
    by_cases e : g N < v
    · have hc : ((List.range N).map g).countP (· < v) = N := by
        rcases Nat.lt_or_ge (((List.range N).map g).countP (· < v)) N with k | k
        · have a1 := h3 _ (Nat.le_refl _) k
          have a2 := h _ N k (by omega)
          omega
        · omega
      rw [hc]
      have e1 : (List.map g [N]).countP (· < v) = 1 := by simp [e]
      rw [e1]
      refine ⟨by omega, fun i hi => ?_, fun i h1 h2 => by omega⟩
      by_cases q : i = N
      · rw [q]; exact e
      · have := h i N (by omega) (by omega); omega
    · have e1 : (List.map g [N]).countP (· < v) = 0 := by simp; omega
      rw [e1]
      refine ⟨by omega, fun i hi => h2 i (by omega), fun i k1 k2 => ?_⟩
      by_cases q : i = N
      · rw [q]; omega
      · exact h3 i (by omega) (by omega)
/-- the weight of a place -/
def wtOf (W : List Int) (i : Int) : Int := W.getD i.toNat 0
/-- the whole blocks of a weak sum, rising -/
def findL (W : List Int) (N : Nat) (weak : Int) : List Int := ((List.range N).filter (fun (i : Nat) => decide (wtOf W (i : Int) = weak))).map (fun (i : Nat) => (i : Int))
theorem findL_succ (W : List Int) (N : Nat) (weak : Int) : findL W (N + 1) weak = if wtOf W N = weak then findL W N weak ++ [(N : Int)] else findL W N weak := by
  unfold findL
  rw [List.range_succ, List.filter_append, List.map_append]
  by_cases e : wtOf W N = weak
  · rw [if_pos e]; simp [e]
  · rw [if_neg e]; simp [e]
theorem findL_len (W : List Int) (N : Nat) (weak : Int) : (findL W N weak).length ≤ N := by
  unfold findL
  rw [List.length_map]
  exact Nat.le_trans (List.length_filter_le _ _) (by simp)
theorem findL_mem {W : List Int} {N : Nat} {weak x : Int} : x ∈ findL W N weak ↔ ∃ v : Nat, v < N ∧ x = v ∧ wtOf W v = weak := by
  unfold findL
  simp only [List.mem_map, List.mem_filter, List.mem_range, decide_eq_true_eq]
  constructor
  · rintro ⟨v, ⟨h1, h2⟩, rfl⟩; exact ⟨v, h1, rfl, h2⟩
  · rintro ⟨v, h1, rfl, h2⟩; exact ⟨v, ⟨h1, h2⟩, rfl⟩
theorem findL_inc (W : List Int) (N : Nat) (weak : Int) : (findL W N weak).Pairwise (· < ·) := by
  induction N with
  | zero => simp [findL]
  | succ N ih =>
    rw [findL_succ]
    split
    · rw [List.pairwise_append]
      refine ⟨ih, by simp, fun a ha b hb => ?_⟩
      obtain ⟨v, hv, rfl, _⟩ := findL_mem.1 ha
      simp only [List.mem_singleton] at hb
      omega
    · exact ih
theorem srt_mono {wt : Int → Int} {f : Nat → Int} {N : Nat} (h : Srt wt f 0 N) : ∀ i j, i < j → j < N → wt (f i) ≤ wt (f j) := by
  intro i j hij hj
  have := h i j (Nat.zero_le _) hij hj
  unfold Ltw at this
  omega
/-- what the loop has gathered when it ends -/
theorem find_end {W : List Int} {f : Nat → Int} {N c d : Nat} {weak : Int} (hS : Srt (wtOf W) f 0 N) (hI : InB f 0 N) (hlo : ∀ i, i < c → wtOf W (f i) < weak) (hhi : ∀ i, c ≤ i → i < N → weak ≤ wtOf W (f i)) (hcd : c ≤ d) (hd : d ≤ N) (hin : ∀ i, c ≤ i → i < d → wtOf W (f i) = weak) (hend : d < N → wtOf W (f d) ≠ weak) :
    (List.range (d - c)).map (fun i => f (c + i)) = findL W N weak := by
  refine incr_ext _ _ ?_ (findL_inc _ _ _) fun x => ?_
  · rw [List.pairwise_map]
    rw [List.pairwise_iff_getElem]
    intro i j hi hj hij
    simp only [List.length_range] at hi hj
    simp only [List.getElem_range]
    have h1 := hin (c + i) (by omega) (by omega)
    have h2 := hin (c + j) (by omega) (by omega)
    have h3 := hS (c + i) (c + j) (by omega) (by omega) (by omega)
    unfold Ltw at h3
    omega
  · rw [findL_mem]
    simp only [List.mem_map, List.mem_range]
    constructor
    · rintro ⟨i, hi, rfl⟩
      have h1 := hI.1 (c + i) (by omega) (by omega)
      refine ⟨(f (c + i)).toNat, by omega, by omega, ?_⟩
      rw [Int.toNat_of_nonneg (by omega)]
      exact hin _ (by omega) (by omega)
    · rintro ⟨v, hv, rfl, hw⟩
      obtain ⟨i, -, hi, e⟩ := hI.2 v (by omega) hv
      rw [← e] at hw
      have h1 : c ≤ i := by
        rcases Nat.lt_or_ge i c with k | k
        · have := hlo i k; omega
        · exact k
      have h2 : i < d := by
        rcases Nat.lt_or_ge i d with k | k
        · exact k
        · have a1 := hend (by omega)
          have a2 := hhi d hcd (by omega)
          by_cases q : i = d
          · rw [q] at hw; exact absurd hw a1
          · have a3 := srt_mono hS d i (by omega) hi
            omega
      exact ⟨i - c, by omega, by rw [show c + (i - c) = i by omega]; exact e⟩
end Go.Proofs.YtgkcnocfijckoaaGreat
