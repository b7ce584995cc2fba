/- slices.stableCmpFunc and SortStableFunc at []int: the places 0 .. n-1 come out sorted by their weights, equal ones in their order. Conditions: as named in each theorem. -/
import Derived.Test.YtgemhgllifhckaaSortGen
namespace Go.Proofs.Ytgemhgllifhckaa
open Go.RowKit
set_option linter.unusedVariables false

theorem symMerge_any {R : List Value} (pb g n cap N : Nat) (wt : Int → Int) (hn : n ≤ 1000000000) : ∀ d, MergeIH R pb g n cap N wt d := by
  intro d
  induction d with
  | zero => intro w f a m b h; omega
  | succ d ih =>
    intro w f a m b hd hR hC hP ham hmb hb hSA hSB hL
    by_cases e1 : m = a + 1
    · subst e1
      exact symMerge_one w pb g n cap N f wt a b hR hC hP hn hmb hb hSB (fun j j1 j2 => hL a j (Nat.le_refl _) (by omega) j1 j2)
    · by_cases e2 : b = m + 1
      · subst e2
        exact symMerge_last w pb g n cap N f wt a m hR hC hP hn (by omega) hb hSA (fun j j1 j2 => hL j m j1 j2 (Nat.le_refl _) hmb)
      · exact symMerge_gen w pb g n cap N f wt a m b (fun w' f' a' m' b' h' => ih w' f' a' m' b' (by omega)) hR hC hP hn (by omega) (by omega) hb hSA hSB hL

theorem dvd_gap {d s a : Nat} (h1 : d ∣ s) (h2 : d ∣ a) (h : s < a) : s + d ≤ a := by
  obtain ⟨x, rfl⟩ := h1
  obtain ⟨y, rfl⟩ := h2
  have hxy : x < y := Nat.lt_of_mul_lt_mul_left h
  calc d * x + d = d * (x + 1) := by rw [Nat.mul_add, Nat.mul_one]
    _ ≤ d * y := Nat.mul_le_mul_left d hxy
/-- chunks of bs, from the place lo on -/
def Chs (wt : Int → Int) (f : Nat → Int) (n bs lo : Nat) : Prop := ∀ s, bs ∣ s → lo ≤ s → s < n → Okc wt f s (if s + bs ≤ n then s + bs else n)
/-- chunks of bs up to the place hi -/
def Chd (wt : Int → Int) (f : Nat → Int) (bs hi : Nat) : Prop := ∀ s, bs ∣ s → s < hi → Okc wt f s (s + bs)
theorem Chd.zero (wt : Int → Int) (f : Nat → Int) (bs : Nat) : Chd wt f bs 0 := fun s _ h => by omega
theorem Chd.step {wt : Int → Int} {f h : Nat → Int} {bs hi : Nat} (k : Chd wt f bs hi) (hd : bs ∣ hi) (hS : SameOn f h hi (hi + bs)) (hO : Okc wt h hi (hi + bs)) : Chd wt h bs (hi + bs) := by
  intro s hs hlt
  by_cases e : s = hi
  · rw [e]; exact hO
  · have h3 : s < hi := by
      rcases Nat.lt_or_ge s hi with h4 | h4
      · exact h4
      · have h5 : hi < s := by omega
        have := dvd_gap hd hs h5
        omega
    have := dvd_gap hs hd h3
    exact (k s hs h3).out hS (.inl this)
theorem Chs.step {wt : Int → Int} {f h : Nat → Int} {n bs lo hi : Nat} (k : Chs wt f n bs lo) (hS : SameOn f h lo hi) (hlo : lo ≤ hi) : Chs wt h n bs hi := fun s hs h1 h2 => (k s hs (by omega) h2).out hS (.inr h1)
/-- the last chunk, shorter or none -/
theorem Chd.last {wt : Int → Int} {f h : Nat → Int} {n bs hi : Nat} (k : Chd wt f bs hi) (hd : bs ∣ hi) (hn : hi ≤ n) (hlt : n < hi + bs) (hS : SameOn f h hi n) (hO : Okc wt h hi n) : Chs wt h n bs 0 := by
  intro s hs _ hlt2
  by_cases e : s < hi
  · have := dvd_gap hs hd e
    rw [if_pos (by omega)]
    exact (k s hs e).out hS (.inl this)
  · have e2 : s = hi := by
      rcases Nat.lt_or_ge hi s with h4 | h4
      · have := dvd_gap hd hs h4; omega
      · omega
    rw [e2, if_neg (by omega)]
    exact hO
theorem InB.id_ (a b : Nat) {f : Nat → Int} (h : ∀ i, a ≤ i → i < b → f i = i) : InB f a b := ⟨fun i i1 i2 => by rw [h i i1 i2]; omega, fun v v1 v2 => ⟨v, v1, v2, h v v1 v2⟩⟩

set_option maxHeartbeats 4000000 in
theorem stable_any {R : List Value} (w : World) (pb g n cap N : Nat) (wt : Int → Int) (hR : Rw R w g n (fun i => (i : Int))) (hC : Cp pb g N wt w) (hnN : n ≤ N) (hn : n ≤ 1000000000) :
    Calls Try.prog 118 #[.slice (some ⟨g, 0, none⟩) n cap, .int .i64 n, .func (.func 96) #[] #[.pointer (some ⟨pb, 0, none⟩)]] w fun e w' => (∃ r, e = .returned r) ∧ ∃ h, Rw R w' g n h ∧ Srt wt h 0 n ∧ InB h 0 n ∧ w.grownBy w' (some g) := by
  have hP : Pl n N (fun i => (i : Int)) := fun i hi => ⟨Int.natCast_nonneg i, by show (i : Int) < N; omega⟩
  have HC := Lib.hid hC
  clear hC
  go_enter Try.func118, Try.ntmps118
  go_wp2_with fail
  go_loopw [7, 8] (fun x y wr => ∃ (a b : Nat) (h : Nat → Int), b = a + 20 ∧ 20 ∣ a ∧ a ≤ n ∧ x = .int .i64 a ∧ y = .int .i64 b ∧ Rw R wr g n h ∧ Pl n N h ∧ Chd wt h 20 a ∧ (∀ i, a ≤ i → h i = i) ∧ w.grownBy wr (some g)) (fun x _ _ => n - (intOf x).toNat)
  case atStart => exact ⟨0, 20, _, rfl, Nat.dvd_zero _, by omega, rfl, rfl, hR, hP, Chd.zero _ _ _, fun i _ => rfl, grown_refl _ _⟩
  case round =>
    clear hR hP
    obtain ⟨a, b, h, hab, hd, han, rfl, rfl, hR, hP, hK, hI, hG⟩ := hrel
    have HP := Lib.hid hP
    have HK := Lib.hid hK
    have HI := Lib.hid hI
    have HD := Lib.hid hd
    have HAB := Lib.hid hab
    clear hP hK hI hd hab
    by_cases hlt : (b : Int) ≤ (n : Int)
    · obtain ⟨b2, hb2⟩ : ∃ b2 : Nat, (b : Int) + 20 = b2 := ⟨b + 20, by omega⟩
      go_wp2_with (first | (go_at_call 124; refine (insertion_any wr pb g n cap N h wt a b hR (HC.out.grown hG) HP.out (fun i j i1 i2 i3 => by rw [HI.out i i1, HI.out j (by omega)]; omega) hn (by have := HAB.out; omega) (by omega)).mono ?_; rintro e' W1 ⟨⟨v1, rfl⟩, h1, hR1, hS1, hT1, hG1⟩))
      go_roundw
      case rel =>
        have e := HAB.out
        rw [e] at hS1 hT1
        refine ⟨b, b2, h1, by omega, by rw [e]; exact (Nat.dvd_add_right HD.out).2 (Nat.dvd_refl _), by omega, rfl, rfl, hR1, HP.out.same hS1 (by omega), ?_, fun i hi => by rw [hS1.out i (by omega)]; exact HI.out i (by omega), grown_trans hG hG1⟩
        rw [e]
        exact HK.out.step HD.out hS1 ⟨hT1, (InB.id_ a (a + 20) (fun i i1 i2 => HI.out i i1)).same hS1⟩
      case measure => have e := HAB.out; simp [intOf]; omega
    · go_wp2_with (first | (go_at_call 124; refine (insertion_any wr pb g n cap N h wt a n hR (HC.out.grown hG) HP.out (fun i j i1 i2 i3 => by rw [HI.out i i1, HI.out j (by omega)]; omega) hn (by omega) (by omega)).mono ?_; rintro e' W1 ⟨⟨v1, rfl⟩, h1, hR1, hS1, hT1, hG1⟩))
      have hQ : Chs wt h1 n 20 0 := HK.out.last HD.out han (by have := HAB.out; omega) hS1 ⟨hT1, (InB.id_ a n (fun i i1 i2 => HI.out i i1)).same hS1⟩
      have hP1 : Pl n N h1 := HP.out.same hS1 (by omega)
      have hG2 := grown_trans hG hG1
      clear HP HK HI HD HAB hR hG hS1 hT1 hG1
      go_loopw [6, 7, 8, 9] (fun x _ _ _ wr => ∃ (bs : Nat) (h : Nat → Int), 1 ≤ bs ∧ bs ≤ 2000000000 ∧ x = .int .i64 bs ∧ Rw R wr g n h ∧ Pl n N h ∧ Chs wt h n bs 0 ∧ w.grownBy wr (some g)) (fun x _ _ _ _ => n - (intOf x).toNat)
      case atStart => exact ⟨20, h1, by omega, by omega, rfl, hR1, hP1, hQ, hG2⟩
      case round =>
        clear hR1 hP1 hQ hG2
        obtain ⟨bs, h, hb1, hb2, rfl, hR, hP, hQ, hG⟩ := hrel
        have HP := Lib.hid hP
        have HQ := Lib.hid hQ
        clear hP hQ
        by_cases hlt2 : (bs : Int) < (n : Int)
        · obtain ⟨d, hd2⟩ : ∃ d : Nat, (2 : Int) * bs = d := ⟨2 * bs, by omega⟩
          have hd3 : (bs : Int) * 2 = d := by omega
          have hdv : bs ∣ d := ⟨2, by omega⟩
          have HDV := Lib.hid hdv
          clear hdv
          go_wp2_with fail
          go_loopw [7, 8] (fun x y wr => ∃ (a b : Nat) (h : Nat → Int), b = a + d ∧ d ∣ a ∧ a ≤ n ∧ x = .int .i64 a ∧ y = .int .i64 b ∧ Rw R wr g n h ∧ Pl n N h ∧ Chd wt h d a ∧ Chs wt h n bs a ∧ w.grownBy wr (some g)) (fun x _ _ => n - (intOf x).toNat)
          case atStart => exact ⟨0, d, h, by omega, Nat.dvd_zero _, by omega, rfl, rfl, hR, HP.out, Chd.zero _ _ _, HQ.out, hG⟩
          case round =>
            clear hR hG HP HQ
            obtain ⟨a, b, h, hab, hd, han, rfl, rfl, hR, hP, hK, hQ, hG⟩ := hrel
            have HP := Lib.hid hP
            have HK := Lib.hid hK
            have HQ := Lib.hid hQ
            have HD := Lib.hid hd
            have HAB := Lib.hid hab
            obtain ⟨m, hm⟩ : ∃ m : Nat, (a : Int) + bs = m := ⟨a + bs, by omega⟩
            have hba : bs ∣ a := Nat.dvd_trans HDV.out hd
            have hbm : bs ∣ m := by
              have e : m = a + bs := by omega
              rw [e]; exact (Nat.dvd_add_right hba).2 (Nat.dvd_refl _)
            have hem : a + bs = m := by omega
            have hem2 : m + bs = a + d := by omega
            have HBA := Lib.hid hba
            have HBM := Lib.hid hbm
            have HEM := Lib.hid hem
            have HEM2 := Lib.hid hem2
            clear hP hK hQ hd hab hba hbm hem hem2
            by_cases hlt : (b : Int) ≤ (n : Int)
            · obtain ⟨b2, hb2⟩ : ∃ b2 : Nat, (b : Int) + d = b2 := ⟨b + d, by have := HAB.out; omega⟩
              have o1 : Okc wt h a m := by
                have := HQ.out a HBA.out (Nat.le_refl _) (by have := HAB.out; omega)
                rw [if_pos (by have := HAB.out; omega), HEM.out] at this
                exact this
              have o2 : Okc wt h m b := by
                have := HQ.out m HBM.out (by omega) (by have := HAB.out; omega)
                rw [if_pos (by have := HAB.out; have := HEM2.out; omega), HEM2.out, ← HAB.out] at this
                exact this
              have k1 : a < m := by omega
              have k2 : m < b := by have := HAB.out; have := HEM2.out; omega
              have O1 := Lib.hid o1
              have O2 := Lib.hid o2
              clear o1 o2
              go_wp2_with (first | (go_at_call 125; refine (symMerge_any pb g n cap N wt hn _ wr h a m b (Nat.lt_succ_self _) hR (HC.out.grown hG) HP.out k1 k2 (by omega) O1.out.1 O2.out.1 (InB.lo O1.out.2 O2.out.2)).mono ?_; rintro e' W2 ⟨⟨v2, rfl⟩, h2, hR2, hS2, hT2, hG3⟩))
              go_roundw
              case rel =>
                have e := HAB.out
                have hO : Okc wt h2 a b := ⟨hT2, (InB.join O1.out.2 O2.out.2 (by omega) (by omega)).same hS2⟩
                refine ⟨b, b2, h2, by omega, by rw [e]; exact (Nat.dvd_add_right HD.out).2 (Nat.dvd_refl _), by omega, rfl, rfl, hR2, HP.out.same hS2 (by omega), ?_, HQ.out.step hS2 (by omega), grown_trans hG hG3⟩
                rw [e] at hS2 hO ⊢
                exact HK.out.step HD.out hS2 hO
              case measure => have e := HAB.out; simp [intOf]; omega
            · by_cases hmn : (m : Int) < (n : Int)
              · have o1 : Okc wt h a m := by
                  have := HQ.out a HBA.out (Nat.le_refl _) (by omega)
                  rw [if_pos (by omega), HEM.out] at this
                  exact this
                have o2 : Okc wt h m n := by
                  have := HQ.out m HBM.out (by omega) (by omega)
                  rw [if_neg (by have := HAB.out; have := HEM2.out; omega)] at this
                  exact this
                have k1 : a < m := by omega
                have O1 := Lib.hid o1
                have O2 := Lib.hid o2
                clear o1 o2
                go_wp2_with (first | (go_at_call 125; refine (symMerge_any pb g n cap N wt hn _ wr h a m n (Nat.lt_succ_self _) hR (HC.out.grown hG) HP.out k1 (by omega) (Nat.le_refl _) O1.out.1 O2.out.1 (InB.lo O1.out.2 O2.out.2)).mono ?_; rintro e' W2 ⟨⟨v2, rfl⟩, h2, hR2, hS2, hT2, hG3⟩))
                go_roundw
                case rel =>
                  have hO : Okc wt h2 a n := ⟨hT2, (InB.join O1.out.2 O2.out.2 (by omega) (by omega)).same hS2⟩
                  exact ⟨d, h2, by omega, by omega, rfl, hR2, HP.out.same hS2 (Nat.le_refl _), HK.out.last HD.out han (by have := HAB.out; omega) hS2 hO, grown_trans hG hG3⟩
                case measure => simp [intOf]; omega
              · have hO : Okc wt h a n := by
                  by_cases e : a = n
                  · rw [e]; exact ⟨fun i j _ _ _ => by omega, ⟨fun i _ _ => by omega, fun v _ _ => by omega⟩⟩
                  · have := HQ.out a HBA.out (Nat.le_refl _) (by omega)
                    by_cases e2 : a + bs ≤ n
                    · rw [if_pos e2, show a + bs = n by omega] at this; exact this
                    · rw [if_neg e2] at this; exact this
                have HO := Lib.hid hO
                clear hO
                go_wp2
                go_roundw
                case rel => exact ⟨d, h, by omega, by omega, rfl, hR, HP.out, HK.out.last HD.out han (by have := HAB.out; omega) (SameOn.refl _ _ _) HO.out, hG⟩
                case measure => simp [intOf]; omega
        · go_wp2
          go_end0
          have hO : Okc wt h 0 n := by
            by_cases e : n = 0
            · subst e; exact ⟨fun i j _ _ _ => by omega, ⟨fun i _ _ => by omega, fun v _ _ => by omega⟩⟩
            · have := HQ.out 0 (Nat.dvd_zero _) (Nat.le_refl _) (by omega)
              by_cases e2 : 0 + bs ≤ n
              · rw [if_pos e2, show 0 + bs = n by omega] at this; exact this
              · rw [if_neg e2] at this; exact this
          exact ⟨⟨_, rfl⟩, h, hR, hO.1, hO.2, hG⟩

theorem sortStable_any {R : List Value} (w : World) (pb g n cap N : Nat) (wt : Int → Int) (hR : Rw R w g n (fun i => (i : Int))) (hC : Cp pb g N wt w) (hnN : n ≤ N) (hn : n ≤ 1000000000) :
    Calls Try.prog 95 #[.slice (some ⟨g, 0, none⟩) n cap, .func (.func 96) #[] #[.pointer (some ⟨pb, 0, none⟩)]] w fun e w' => (∃ r, e = .returned r) ∧ ∃ h, Rw R w' g n h ∧ Srt wt h 0 n ∧ InB h 0 n ∧ w.grownBy w' (some g) := by
  go_enter Try.func95, Try.ntmps95
  go_wp2_with (first | (go_at_call 118; refine (stable_any w pb g n cap N wt hR hC hnN hn).mono ?_; rintro e' W2 ⟨⟨v2, rfl⟩, h2, hR2, hT2, hI2, hG2⟩))
  go_end0
  exact ⟨⟨_, rfl⟩, h2, hR2, hT2, hI2, hG2⟩
end Go.Proofs.Ytgemhgllifhckaa
