/- The delta that bytes are: the reference's Read. Conditions: as named in each theorem. -/
import Derived.Test.YtgkcnocfijckoaaGreatDlRead
import Derived.Test.YtgkcnocfijckoaaGreatDlRights
import Derived.Deep.Cut
import Derived.Test.YtgkcnocfijckoaaGreatDlRefBytes
namespace Go.Proofs.YtgkcnocfijckoaaGreat
open Go.RowKit Sg
set_option linter.unusedVariables false
set_option linter.unusedSimpArgs false
theorem dl_rdNum_bad : ∀ (l : List UInt8) (i acc : Nat), (rdNum i acc l).2.2 ≠ 0 → (rdNum i acc l).1 = 0 := by
  intro l
  induction l with
  | nil => intro i acc _; rfl
  | cons c l ih =>
    intro i acc h
    rw [rdNum] at h ⊢
    split
    · rfl
    · rename_i h1
      rw [if_neg h1] at h
      split
      · rename_i h2; rw [if_pos h2] at h; exact absurd rfl h
      · rename_i h2; rw [if_neg h2] at h; exact ih _ _ h
theorem dl_stNum_bad {z : RSt} (h : (stNum z).2.2 ≠ 0) : (stNum z).1 = 0 := by
  by_cases h0 : z.2 = 0
  · obtain ⟨l, e⟩ := z
    simp only at h0
    subst h0
    rw [stNum_ok] at h ⊢
    exact dl_rdNum_bad l 0 0 h
  · rw [stNum_err h0]
theorem stEnd_keep {z : RSt} (h : z.2 ≠ 0) : stEnd z = z := by unfold stEnd; rw [if_neg (fun k => h k.1)]
section
variable {T : TypeId} {w wr : World} {pz pr pd : Nat} {s b m : ByteArray} {sz : Int} {v : Value} {L : List St} {z : RSt}
/-- a store to the delta's block -/
theorem RdS.setg (h : RdS T w wr pz pr pd s b m sz v L z) (i : Nat) (x : Value) {b' m' : ByteArray} {sz' : Int} (hp : Blk (wr.setCell ⟨pd, i, none⟩ x) pd [.string b', .string m', .int .i64 sz', v] 55) : RdS T w (wr.setCell ⟨pd, i, none⟩ x) pz pr pd s b' m' sz' v L z := by
  have h1 := h.o1; have h2 := h.o2; have h3 := h.o3
  have hg : wr.grownBy (wr.setCell ⟨pd, i, none⟩ x) (some pd) := grown_set (grown_refl _ _) i x
  exact ⟨h.zb.grown hg (by simp; omega), hp, h.r.grown hg (by simp; omega), World.ownsRow.kept h.o hg (.inr fun e => by have := (World.ownsRow.lt h.o pd e).1; omega), h.bl.grown hg h.bl.size (fun k hk => by cases hk; omega), h1, h2, h3⟩
/-- a store beside -/
theorem RdS.setq (h : RdS T w wr pz pr pd s b m sz v L z) (q i : Nat) (x : Value) (hq : pd < q) (hv : v.ownBlock ≠ some q) : RdS T w (wr.setCell ⟨q, i, none⟩ x) pz pr pd s b m sz v L z := by
  have h1 := h.o1; have h2 := h.o2; have h3 := h.o3
  have hg : wr.grownBy (wr.setCell ⟨q, i, none⟩ x) (some q) := grown_set (grown_refl _ _) i x
  exact ⟨h.zb.grown hg (by simp; omega), h.g.grown hg (by simp; omega), h.r.grown hg (by simp; omega), World.ownsRow.kept h.o hg (.inr fun e => hv e), h.bl.grown hg h.bl.size (fun k hk => by cases hk; omega), h1, h2, h3⟩
end
end Go.Proofs.YtgkcnocfijckoaaGreat
namespace Go.Proofs.YtgkcnocfijckoaaGreat
open Go.RowKit Sg
set_option linter.unusedVariables false
set_option linter.unusedSimpArgs false
theorem rdTail_right (b m : ByteArray) (s : Int) (R : List St × RSt × Nat) : (rdTail b m s R).1 = dl0 ∨ (RightP (rdTail b m s R).1 ∧ (rdTail b m s R).2 = 0) := by
  by_cases h1 : R.2.2 ≠ 0
  · rw [rdTail_err h1]; exact .inl rfl
  · by_cases h2 : (stEnd R.2.1).2 ≠ 0
    · rw [rdTail_end h1 h2]; exact .inl rfl
    · by_cases h3 : RightP ⟨b, m, s, R.1⟩
      · rw [rdTail_yes h1 h2 h3]; exact .inr ⟨h3, rfl⟩
      · rw [rdTail_no h1 h2 h3]; exact .inl rfl
theorem readD_len (l : List UInt8) : (readD l).1.steps.length ≤ 524288 := by
  unfold readD
  rcases rdTail_right (mkB (stRaw 32 (l, 0)).1) (mkB (stRaw 32 (stRaw 32 (l, 0)).2).1) ((stNum (stRaw 32 (stRaw 32 (l, 0)).2).2).1 : Nat) (rdSteps (stNum (stNum (stRaw 32 (stRaw 32 (l, 0)).2).2).2).1 [] (stNum (stNum (stRaw 32 (stRaw 32 (l, 0)).2).2).2).2) with h | ⟨h, _⟩
  · rw [h]; simp [dl0]
  · have a := sum2_len h.2.2.2.2.1
    have b := h.2.2.2.2.2
    have c := h.2.2.2.1
    omega
end Go.Proofs.YtgkcnocfijckoaaGreat
namespace Go.Proofs.YtgkcnocfijckoaaGreat
open Go.RowKit Sg
set_option linter.unusedVariables false
set_option linter.unusedSimpArgs false
theorem mkB_back (s : ByteArray) : mkB s.data.toList = s := by
  unfold mkB; apply ByteArray.ext; simp
theorem mkB_size (l : List UInt8) : (mkB l).size = l.length := by simp [mkB, ByteArray.size]
theorem stepRd_back {x : St} (h : rightS x) (r : List UInt8) : stepRd (stL x ++ r, 0) = (x, (r, 0)) := by
  obtain ⟨p, n, t⟩ := x
  obtain ⟨r1, r2, r3, r4, r5⟩ := rightS_pos h
  simp only at r1 r2 r3 r4 r5
  by_cases ht : t.size = 0
  · obtain rfl := strEmpty ht
    obtain ⟨P, rfl⟩ : ∃ P : Nat, p = P := ⟨p.toNat, by omega⟩
    obtain ⟨K, rfl⟩ : ∃ K : Nat, n = K := ⟨n.toNat, by omega⟩
    rw [stL_copy rfl]
    simp only [Int.toNat_natCast]
    rw [List.append_assoc]
    have e1 := stNum_back (2 * K + 1) (numL P ++ r) (by omega)
    have e2 := stNum_back P r (by omega)
    rw [stepRd_copy (by rw [e1]; simp only; omega), e1]
    simp only
    rw [e2]
    have : (2 * K + 1) / 2 = K := by omega
    rw [this]
  · obtain ⟨h1, h2, h3⟩ := h.1 ht
    simp only at h1 h2 h3
    subst h1 h2
    rw [stL_text ht]
    simp only
    rw [List.append_assoc]
    have e1 := stNum_back (2 * t.size) (t.data.toList ++ r) (by omega)
    have e2 := stRaw_back t.size t.data.toList r (bs_len t)
    have e3 : 2 * t.size / 2 = t.size := by omega
    rw [stepRd_text (by rw [e1]; simp only; omega) (by rw [e1]; simp only; omega), e1]
    simp only
    rw [e3, e2]
    simp only
    rw [mkB_back]
theorem rdSteps_back (l : List St) (h : ∀ x ∈ l, rightS x) (acc : List St) : rdSteps l.length acc (l.flatMap stL, 0) = (acc ++ l, ([], 0), 0) := by
  induction l generalizing acc with
  | nil => rw [List.append_nil]; rfl
  | cons x l ih =>
    have hx := h x (by simp)
    rw [List.length_cons, List.flatMap_cons, rdSteps, stepRd_back hx, if_neg (by simp), if_pos hx]
    simp only
    rw [ih (fun y hy => h y (by simp [hy])), List.append_assoc]
    rfl
theorem readD_back (d : Dl) (h : RightP d) : readD (bytesD d) = (d, 0) := by
  obtain ⟨b, m, s, l⟩ := d
  obtain ⟨h1, h2, h3, h4, h5, h6⟩ := h
  simp only at h1 h2 h3 h4 h5 h6
  obtain ⟨Z, rfl⟩ : ∃ Z : Nat, s = Z := ⟨s.toNat, by omega⟩
  have hl := sum2_len h5
  have e : bytesD ⟨b, m, (Z : Int), l⟩ = b.data.toList ++ (m.data.toList ++ (numL Z ++ (numL l.length ++ l.flatMap stL))) := by
    unfold bytesD headL
    simp only [Int.toNat_natCast, List.append_assoc]
  unfold readD
  rw [e, stRaw_back 32 b.data.toList _ (by rw [bs_len, h1])]
  simp only
  rw [stRaw_back 32 m.data.toList _ (by rw [bs_len, h2])]
  simp only
  rw [stNum_back Z _ (by omega)]
  simp only
  rw [stNum_back l.length _ (by omega)]
  simp only
  rw [rdSteps_back l h5 [], mkB_back, mkB_back]
  have hr : RightP ⟨b, m, (Z : Int), l⟩ := ⟨h1, h2, h3, h4, h5, h6⟩
  exact rdTail_yes (by simp) (by simp [stEnd]) hr
theorem stepRd_there {z : RSt} (h : (stepRd z).2.2 = 0) (hr : rightS (stepRd z).1) : z.2 = 0 ∧ z.1 = stL (stepRd z).1 ++ (stepRd z).2.1 := by
  by_cases a : (stNum z).1 % 2 = 1
  · rw [stepRd_copy a] at h hr ⊢
    obtain ⟨h1, h2⟩ := stNum_there h
    obtain ⟨h3, h4⟩ := stNum_there h1
    refine ⟨h3, ?_⟩
    rw [stL_copy rfl]
    simp only [Int.toNat_natCast]
    have : 2 * ((stNum z).1 / 2) + 1 = (stNum z).1 := by omega
    rw [this, List.append_assoc, ← h2]
    exact h4
  · by_cases b : 4096 < (stNum z).1 / 2
    · rw [stepRd_long a b] at hr
      have := hr.2 rfl
      unfold copyS at this
      simp only at this
      omega
    · rw [stepRd_text a b] at h hr ⊢
      obtain ⟨h1, h2, h3⟩ := stRaw_there h
      obtain ⟨h4, h5⟩ := stNum_there h1
      refine ⟨h4, ?_⟩
      have hsz : (mkB (stRaw ((stNum z).1 / 2) (stNum z).2).1).size = (stNum z).1 / 2 := by
        rw [mkB_size, h3]
      by_cases ht : (mkB (stRaw ((stNum z).1 / 2) (stNum z).2).1).size = 0
      · have := hr.2 ht
        unfold copyS at this
        simp only at this
        omega
      · rw [stL_text ht]
        simp only
        rw [hsz]
        have : 2 * ((stNum z).1 / 2) = (stNum z).1 := by omega
        rw [this, mkB_list, List.append_assoc, ← h2]
        exact h5
theorem rdSteps_there : ∀ (n : Nat) (acc : List St) (z : RSt), (rdSteps n acc z).2.2 = 0 → (rdSteps n acc z).2.1.2 = 0 → z.2 = 0 ∧ ∃ l, (rdSteps n acc z).1 = acc ++ l ∧ l.length = n ∧ z.1 = l.flatMap stL ++ (rdSteps n acc z).2.1.1 := by
  intro n
  induction n with
  | zero => intro acc z _ h2; exact ⟨h2, [], by simp [rdSteps_end], rfl, by simp [rdSteps_end]⟩
  | succ n ih =>
    intro acc z h h2
    rw [rdSteps] at h h2 ⊢
    by_cases e1 : (stepRd z).2.2 ≠ 0
    · rw [if_pos e1] at h; exact absurd h e1
    · rw [if_neg e1] at h h2 ⊢
      by_cases e2 : rightS (stepRd z).1
      · rw [if_pos e2] at h h2 ⊢
        have e1' : (stepRd z).2.2 = 0 := by simpa using e1
        obtain ⟨a1, l, a2, a3, a4⟩ := ih _ _ h h2
        obtain ⟨b1, b2⟩ := stepRd_there e1' e2
        refine ⟨b1, (stepRd z).1 :: l, by rw [a2]; simp, by simp [a3], ?_⟩
        rw [List.flatMap_cons, List.append_assoc, ← a4]
        exact b2
      · rw [if_neg e2] at h
        simp at h
theorem readD_there (l : List UInt8) (h : (readD l).2 = 0) : RightP (readD l).1 ∧ bytesD (readD l).1 = l := by
  unfold readD at h ⊢
  obtain ⟨R1, hR1⟩ : ∃ R, R = stRaw 32 (l, 0) := ⟨_, rfl⟩
  rw [← hR1] at h ⊢
  obtain ⟨R2, hR2⟩ : ∃ R, R = stRaw 32 R1.2 := ⟨_, rfl⟩
  rw [← hR2] at h ⊢
  obtain ⟨R3, hR3⟩ : ∃ R, R = stNum R2.2 := ⟨_, rfl⟩
  rw [← hR3] at h ⊢
  obtain ⟨R4, hR4⟩ : ∃ R, R = stNum R3.2 := ⟨_, rfl⟩
  rw [← hR4] at h ⊢
  obtain ⟨R, hR⟩ : ∃ R, R = rdSteps R4.1 [] R4.2 := ⟨_, rfl⟩
  rw [← hR] at h ⊢
  by_cases h1 : R.2.2 ≠ 0
  · rw [rdTail_err h1] at h; exact absurd h h1
  · by_cases h2 : (stEnd R.2.1).2 ≠ 0
    · rw [rdTail_end h1 h2] at h; exact absurd h h2
    · by_cases h3 : RightP ⟨mkB R1.1, mkB R2.1, (R3.1 : Nat), R.1⟩
      · rw [rdTail_yes h1 h2 h3]
        refine ⟨h3, ?_⟩
        have h1' : R.2.2 = 0 := by simpa using h1
        have h2' : (stEnd R.2.1).2 = 0 := by simpa using h2
        have hz : R.2.1.2 = 0 ∧ R.2.1.1 = [] := by
          by_cases e : R.2.1.2 = 0 ∧ R.2.1.1 ≠ []
          · unfold stEnd at h2'; rw [if_pos e] at h2'; simp at h2'
          · unfold stEnd at h2'
            rw [if_neg e] at h2'
            refine ⟨h2', ?_⟩
            by_cases e2 : R.2.1.1 = []
            · exact e2
            · exact absurd ⟨h2', e2⟩ e
        have hst := rdSteps_there R4.1 [] R4.2
        rw [← hR] at hst
        obtain ⟨a1, L, a2, a3, a4⟩ := hst h1' hz.1
        rw [List.nil_append] at a2
        rw [hz.2, List.append_nil] at a4
        have b4 := stNum_there (z := R3.2)
        rw [← hR4] at b4
        obtain ⟨c4, d4⟩ := b4 a1
        have b3 := stNum_there (z := R2.2)
        rw [← hR3] at b3
        obtain ⟨c3, d3⟩ := b3 c4
        have b2 := stRaw_there (n := 32) (z := R1.2)
        rw [← hR2] at b2
        obtain ⟨c2, d2, _⟩ := b2 c3
        have b1 := stRaw_there (n := 32) (z := (l, 0))
        rw [← hR1] at b1
        obtain ⟨_, d1, _⟩ := b1 c2
        simp only at d1
        unfold bytesD headL
        simp only [Int.toNat_natCast]
        rw [a2, a3, mkB_list, mkB_list, d1, d2, d3, d4, a4]
        simp only [List.append_assoc]
      · rw [rdTail_no h1 h2 h3] at h; simp at h
theorem bytes_size {d : Dl} (h : RightP d) : (bytesD d).length ≤ 100 + 4200 * d.steps.length := by
  unfold bytesD
  rw [List.length_append]
  have a := head_len h
  have b := stFlat_len h.2.2.2.2.1
  omega
end Go.Proofs.YtgkcnocfijckoaaGreat
