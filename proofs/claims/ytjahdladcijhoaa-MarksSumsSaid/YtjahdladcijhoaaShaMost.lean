/- The reference's most: is a power at most a whole number? Conditions: as named in each theorem. -/
import Derived.Test.YtjahdladcijhoaaShaProd
namespace Go.Proofs.Ytjahdladcijhoaa
open Go.RowKit
set_option linter.unusedVariables false
set_option linter.unusedSimpArgs false

def MostP (C : Prop) (w : World) (e : Ending) (w' : World) : Prop := (∃ R : Bool, e = .returned (.bool R) ∧ (R = true ↔ C)) ∧ Below w.heap.size w w'
theorem MostP.yes {C : Prop} {w w' : World} (h : C) (hb : Below w.heap.size w w') : MostP C w (.returned (.bool true)) w' := ⟨⟨true, rfl, fun _ => h, fun _ => rfl⟩, hb⟩
theorem MostP.no {C : Prop} {w w' : World} (h : ¬ C) (hb : Below w.heap.size w w') : MostP C w (.returned (.bool false)) w' := ⟨⟨false, rfl, (fun h => by cases h), fun h2 => absurd h2 h⟩, hb⟩
theorem dval_split : ∀ (l : List Nat) (k : Nat), dval l = dval (l.take k) + 65536 ^ k * dval (l.drop k) := by
  intro l
  induction l with
  | nil => intro k; simp [dval]
  | cons a l ih =>
    intro k
    cases k with
    | zero => simp [dval]
    | succ k =>
      simp only [List.take_succ_cons, List.drop_succ_cons, dval, Nat.pow_succ]
      rw [ih k, Nat.mul_add]
      have : 65536 ^ k * 65536 * dval (l.drop k) = 65536 * (65536 ^ k * dval (l.drop k)) := by rw [Nat.mul_right_comm, Nat.mul_comm]
      rw [this]; omega
theorem dval_drop_one {l : List Nat} {i y : Nat} (h : l[i]? = some y) : dval (l.drop i) = y + 65536 * dval (l.drop (i + 1)) := by
  have hi := (List.getElem?_eq_some_iff.1 h).1
  have he := (List.getElem?_eq_some_iff.1 h).2
  rw [List.drop_eq_getElem_cons hi, he, dval]
theorem drop_bd (l : List Nat) (L j : Nat) (h : L ≤ j) (hv : dval l ≤ 4096 * 65536 ^ L) : dval (l.drop j) ≤ 4096 := by
  have h1 := dval_split l j
  have h2 : 65536 ^ L ≤ 65536 ^ j := Nat.pow_le_pow_right (by decide) h
  have h3 : 65536 ^ L * dval (l.drop j) ≤ 65536 ^ j * dval (l.drop j) := Nat.mul_le_mul_right _ h2
  have h4 : 65536 ^ L * dval (l.drop j) ≤ 65536 ^ L * 4096 := by rw [Nat.mul_comm _ 4096]; omega
  exact Nat.le_of_mul_le_mul_left h4 (Nat.pow_pos (by decide))
theorem take_lt : ∀ (l : List Nat) (k : Nat), Dg l → dval (l.take k) < 65536 ^ k := by
  intro l
  induction l with
  | nil => intro k _; simp [dval]; exact Nat.pow_pos (by decide)
  | cons a l ih =>
    intro k h
    cases k with
    | zero => simp [dval]
    | succ k =>
      have h1 := ih k (fun x hx => h x (by simp [hx]))
      have h2 := h a (by simp)
      simp only [List.take_succ_cons, dval, Nat.pow_succ]
      omega
theorem take_zero : ∀ (l : List Nat) (k : Nat), k ≤ l.length → (dval (l.take k) = 0 ↔ ¬ ∃ t, t < k ∧ l.getD t 0 ≠ 0) := by
  intro l
  induction l with
  | nil => intro k hk; simp at hk; subst hk; simp [dval]
  | cons a l ih =>
    intro k hk
    cases k with
    | zero => simp [dval]
    | succ k =>
      have h1 := ih k (by simpa using hk)
      simp only [List.take_succ_cons, dval]
      constructor
      · rintro h ⟨t, ht, hne⟩
        cases t with
        | zero => simp at hne; omega
        | succ t => exact h1.1 (by omega) ⟨t, by omega, by simpa using hne⟩
      · intro h
        have ha : a = 0 := by
          rcases Nat.eq_zero_or_pos a with h2 | h2
          · exact h2
          · exact absurd ⟨0, by omega, by simp; omega⟩ h
        have h3 := h1.2 (fun ⟨t, ht, hne⟩ => h ⟨t + 1, by omega, by simpa using hne⟩)
        omega
theorem most_end (l : List Nat) (L n : Nat) (hd : Dg l) (hL : L ≤ l.length) : dval l ≤ n * 65536 ^ L ↔ dval (l.drop L) < n ∨ (dval (l.drop L) = n ∧ ¬ ∃ t, t < L ∧ l.getD t 0 ≠ 0) := by
  have h1 := dval_split l L
  have h2 := take_lt l L hd
  have h3 := big_le (1 * 65536 ^ L) (65536 ^ L) 1 (dval (l.drop L)) 0 (dval (l.take L)) n rfl (by decide) h2
  rw [Nat.one_mul, Nat.zero_mul, Nat.add_zero] at h3
  rw [← take_zero l L hL, h1, Nat.add_comm, Nat.mul_comm (65536 ^ L), h3]
  constructor
  · rintro (h | ⟨h, _, h4⟩)
    · exact .inl h
    · exact .inr ⟨h, h4⟩
  · rintro (h | ⟨h, h4⟩)
    · exact .inl h
    · exact .inr ⟨h, rfl, h4⟩
theorem own_below {w w' : World} {base n : Nat} {e : TypeId} {size : Nat} {v : Value} {xs : List Value} (h : w.ownsRow base e size v n xs) (hb : Below w.heap.size w w') : w'.ownsRow base e size v n xs := World.ownsRow.kept h (below_grown hb none) (by cases v.ownBlock <;> simp)

set_option maxRecDepth 100000 in
set_option maxHeartbeats 2000000 in
theorem most_2 (x n : Nat) (hx : x ≤ 68719476736) (hx2 : x < 68719476736) (hn : n ≤ 4294967295) (w : World) :
    Calls Try.prog 43 #[.int .i64 x, .int .i64 2, .int .i64 n] w (MostP (x * x ≤ n * 65536 ^ 4) w) := by
  obtain ⟨d0, hd0⟩ : ∃ d, d = x % 65536 := ⟨_, rfl⟩
  obtain ⟨d1, hd1⟩ : ∃ d, d = x / 65536 % 65536 := ⟨_, rfl⟩
  obtain ⟨d2, hd2⟩ : ∃ d, d = x / 4294967296 := ⟨_, rfl⟩
  have hv : dval [d0, d1, d2] = x := by simp only [dval]; omega
  have hdg : Dg [d0, d1, d2] := by
    intro y hy
    simp only [List.mem_cons, List.not_mem_nil, or_false] at hy
    omega
  have e0 : (x : Int) % 65536 = (d0 : Int) := by omega
  have e1 : (x : Int) / 65536 % 65536 = (d1 : Int) := by omega
  have e2 : (x : Int) / 4294967296 = (d2 : Int) := by omega
  obtain ⟨V1, hV1⟩ : ∃ V, V = w.alloc (Obj.cells #[.int .i64 d0, .int .i64 d1, .int .i64 d2] 3) := ⟨_, rfl⟩
  obtain ⟨p1, hp1⟩ : ∃ p, p = w.heap.size := ⟨_, rfl⟩
  have hO1 : V1.ownsRow w.heap.size 3 1 (.slice (some ⟨p1, 0, none⟩) 3 3) 3 (iV [d0, d1, d2]) := by rw [hV1, hp1]; exact World.ownsRow_lit w #[.int .i64 d0, .int .i64 d1, .int .i64 d2] 3 (Nat.le_refl _) (by decide) rfl
  have hB1 : Below w.heap.size w V1 := by rw [hV1]; exact (Below.refl _ _).alloc (Nat.le_refl _) _
  have HPR := Lib.hid (product_any V1 w.heap.size w.heap.size _ _ [d0, d1, d2] [d0, d1, d2] hO1 hO1 (by simp) (by simp) (by simp) (by simp) hdg hdg)
  have hxx : x * x ≤ 68719476736 * 68719476736 := Nat.mul_le_mul hx hx
  have HXB : Hid (x * x ≤ 4096 * 65536 ^ 4) := Lib.hid (Nat.le_trans hxx (by decide))
  have H1 := Lib.hid (And.intro hO1 (And.intro hB1 (And.intro hv hdg)))
  have HV1 := Lib.hid hV1
  have HP1 := Lib.hid hp1
  clear hd0 hd1 hd2 hv hdg hV1 hp1 hO1 hB1 hxx
  go_enter Try.func43, Try.ntmps43
  go_wp2_with fail
  rw [← HP1.out, ← HV1.out]
  refine HPR.out.mono ?_
  rintro e w2 ⟨v2, lp, rfl, hO2, hl2, hd2, hv2, hb2⟩
  have hB2 : Below w.heap.size w w2 := H1.out.2.1.trans (hb2.mono H1.out.2.1.size)
  rw [H1.out.2.2.1] at hv2
  obtain ⟨ap, cp, rfl⟩ := slice_own hO2
  have HP := Lib.hid (And.intro (show w2.ownsRow V1.heap.size 3 1 (.slice ap 6 cp) 6 (iV lp) from hO2) (And.intro (show lp.length = 6 from hl2) (And.intro hd2 (And.intro hv2 hB2))))
  clear hO2 hl2 hd2 hv2 hb2 hB2 HPR
  obtain ⟨gp, rfl, hgp1, hgp2, _, hcp⟩ := own_cell HP.out.1 (by decide)
  have hall : ∀ j : Nat, j < 6 → ∃ y, lp[j]? = some y ∧ y < 65536 ∧ w2.cell? ⟨gp, j, none⟩ = some (.int .i64 (y : Nat)) := fun j hj => by
    have hj2 : j < lp.length := by rw [HP.out.2.1]; exact hj
    exact ⟨lp[j], List.getElem?_eq_getElem hj2, HP.out.2.2.1 _ (List.getElem_mem hj2), hcp j _ (List.getElem?_eq_getElem hj2)⟩
  have HALL := Lib.hid hall
  have HBD : Hid (∀ j, 4 ≤ j → dval (lp.drop j) ≤ 4096) := Lib.hid (fun j hj => drop_bd lp 4 j hj (by rw [HP.out.2.2.2.1]; exact HXB.out))
  clear hcp hall
  go_wp2_with fail
  go_loopw [9, 10, 11] (fun a b c wr => ∃ (j : Nat) (rb : Bool), c = .int .i64 ((j : Int) - 1) ∧ j ≤ 6 ∧ a = .int .i64 ((dval (lp.drop (max j 4)) : Nat) : Int) ∧ b = .bool rb ∧ (rb = true ↔ ∃ t, j ≤ t ∧ t < 4 ∧ lp.getD t 0 ≠ 0) ∧ wr = w2) (fun _ _ c _ => (intOf c + 1).toNat)
  case atStart => exact ⟨6, false, by simp, Nat.le_refl _, by rw [List.drop_of_length_le (by rw [HP.out.2.1]; decide)]; rfl, rfl, ⟨fun h => (by cases h), fun ⟨t, h1, h2, _⟩ => absurd h1 (by omega)⟩, rfl⟩
  case round =>
    obtain ⟨j, rb, rfl, hj, rfl, rfl, hrb, rfl⟩ := hrel
    by_cases hj0 : 0 < j
    · obtain ⟨i, rfl⟩ : ∃ i, j = i + 1 := ⟨j - 1, by omega⟩
      obtain ⟨y, hy, hy2, hcy⟩ := HALL.out i (by omega)
      have e1 : ((i + 1 : Nat) : Int) - 1 = (i : Int) := by omega
      have i1 : (0 : Int) ≤ (i : Int) := by omega
      have i2 : (i : Int) < 6 := by omega
      have hyd : lp.getD i 0 = y := by rw [List.getD_eq_getElem?_getD, hy]; rfl
      rw [e1]
      by_cases hL : 4 ≤ i
      · have i3 : (4 : Int) ≤ (i : Int) := by omega
        have hmax : max (i + 1) 4 = i + 1 := by omega
        rw [hmax]
        have hb1 := HBD.out (i + 1) (by omega)
        have hdv : dval (lp.drop i) = y + 65536 * dval (lp.drop (i + 1)) := dval_drop_one hy
        obtain ⟨WH, hWH⟩ : ∃ W, W = dval (lp.drop (i + 1)) := ⟨_, rfl⟩
        rw [← hWH] at hb1 hdv ⊢
        have v1 : IntKind.i64.wrap ((WH : Int) * 65536) = (WH : Int) * 65536 := IntWalk.i64_in _ (by omega)
        have v2 : IntKind.i64.wrap ((WH : Int) * 65536 + (y : Int)) = (WH : Int) * 65536 + (y : Int) := IntWalk.i64_in _ (by omega)
        have HN : Hid (max i 4 = i) := Lib.hid (by omega)
        have HDV := Lib.hid hdv
        have HRB : Hid (rb = true ↔ ∃ t, i ≤ t ∧ t < 4 ∧ lp.getD t 0 ≠ 0) := Lib.hid (hrb.trans ⟨fun ⟨t, h1, h2, h3⟩ => ⟨t, by omega, h2, h3⟩, fun ⟨t, h1, h2, h3⟩ => absurd h2 (by omega)⟩)
        clear hdv hWH hrb hmax hyd
        go_wp2
        exact ⟨⟨i, rb, rfl, by omega, by rw [HN.out, HDV.out]; congr 1; omega, rfl, HRB.out, trivial⟩, by simp [intOf]⟩
      · have i3 : ¬ (4 : Int) ≤ (i : Int) := by omega
        have hmax : max (i + 1) 4 = 4 := by omega
        have HN : Hid (max i 4 = 4) := Lib.hid (by omega)
        rw [hmax]
        obtain ⟨WH, hWH⟩ : ∃ W, W = dval (lp.drop 4) := ⟨_, rfl⟩
        rw [← hWH]
        have HWH := Lib.hid hWH
        have HRB : Hid (∀ b2 : Bool, (b2 = true ↔ (rb = true ∨ y ≠ 0)) → (b2 = true ↔ ∃ t, i ≤ t ∧ t < 4 ∧ lp.getD t 0 ≠ 0)) := Lib.hid (fun b2 h => h.trans ⟨fun h => h.elim (fun h => by obtain ⟨t, h1, h2, h3⟩ := hrb.1 h; exact ⟨t, by omega, h2, h3⟩) (fun h => ⟨i, Nat.le_refl _, by omega, by rw [hyd]; exact h⟩), fun ⟨t, h1, h2, h3⟩ => by
          by_cases ht : t = i
          · subst ht; rw [hyd] at h3; exact .inr h3
          · exact .inl (hrb.2 ⟨t, by omega, h2, h3⟩)⟩)
        clear hWH hrb hmax hyd
        cases rb with
        | true =>
          go_wp2
          exact ⟨⟨i, true, rfl, by omega, by rw [HN.out, HWH.out], rfl, HRB.out true (by simp), trivial⟩, by simp [intOf]⟩
        | false =>
          by_cases hy0 : y = 0
          · have hyb : ((y : Int) != 0) = false := by simp [hy0]
            go_wp2
            exact ⟨⟨i, false, rfl, by omega, by rw [HN.out, HWH.out], rfl, HRB.out false (by simp [hy0]), trivial⟩, by simp [intOf]⟩
          · have hyb : ((y : Int) != 0) = true := by simp [hy0]
            have HY0 := Lib.hid hy0
            clear hy0
            go_wp2
            exact ⟨⟨i, true, rfl, by omega, by rw [HN.out, HWH.out], rfl, HRB.out true (by simp [HY0.out]), trivial⟩, by simp [intOf]⟩
    · obtain rfl : j = 0 := by omega
      have hC := most_end lp 4 n HP.out.2.2.1 (by rw [HP.out.2.1]; decide)
      rw [show max 0 4 = 4 from rfl]
      obtain ⟨WH, hWH⟩ : ∃ W, W = dval (lp.drop 4) := ⟨_, rfl⟩
      have hbw := HBD.out 4 (Nat.le_refl _)
      rw [← hWH] at hC hbw ⊢
      have hrb2 : (∃ t, t < 4 ∧ lp.getD t 0 ≠ 0) ↔ rb = true := ⟨fun ⟨t, h1, h2⟩ => hrb.2 ⟨t, Nat.zero_le _, h1, h2⟩, fun h => by obtain ⟨t, _, h1, h2⟩ := hrb.1 h; exact ⟨t, h1, h2⟩⟩
      rw [hrb2, HP.out.2.2.2.1] at hC
      have HC := Lib.hid hC
      have HBF := HP.out.2.2.2.2
      have HBF := Lib.hid HBF
      clear hrb hrb2 hC hWH
      by_cases c1 : WH < n
      · have HY := Lib.hid (HC.out.2 (.inl c1))
        go_wp2
        go_ret
        exact MostP.yes HY.out HBF.out
      · by_cases c2 : WH = n
        · subst c2
          cases rb with
          | true =>
            have HNo := Lib.hid (fun h => by have := HC.out.1 h; simp at this : ¬ _)
            go_wp2
            go_ret
            exact MostP.no HNo.out HBF.out
          | false =>
            have HY := Lib.hid (HC.out.2 (.inr ⟨rfl, by simp⟩))
            go_wp2
            go_ret
            exact MostP.yes HY.out HBF.out
        · have HNo := Lib.hid (fun h => by have := HC.out.1 h; omega : ¬ _)
          have d2 : ((WH : Int) == (n : Int)) = false := by rw [beq_eq_false_iff_ne]; omega
          have HD : Hid (decide (WH < n) = false) := Lib.hid (decide_eq_false c1)
          clear c2 hbw HC HBD HXB HALL HP
          cases rb
          case true =>
            go_wp2
            go_ret
            exact MostP.no HNo.out HBF.out
          case false =>
            go_wp2
            go_ret
            exact MostP.no HNo.out HBF.out

set_option maxRecDepth 100000 in
set_option maxHeartbeats 2000000 in
theorem most_3 (x n : Nat) (hx : x ≤ 68719476736) (hx2 : x < 68719476736) (hn : n ≤ 4294967295) (w : World) :
    Calls Try.prog 43 #[.int .i64 x, .int .i64 3, .int .i64 n] w (MostP (x * x * x ≤ n * 65536 ^ 6) w) := by
  obtain ⟨d0, hd0⟩ : ∃ d, d = x % 65536 := ⟨_, rfl⟩
  obtain ⟨d1, hd1⟩ : ∃ d, d = x / 65536 % 65536 := ⟨_, rfl⟩
  obtain ⟨d2, hd2⟩ : ∃ d, d = x / 4294967296 := ⟨_, rfl⟩
  have hv : dval [d0, d1, d2] = x := by simp only [dval]; omega
  have hdg : Dg [d0, d1, d2] := by
    intro y hy
    simp only [List.mem_cons, List.not_mem_nil, or_false] at hy
    omega
  have e0 : (x : Int) % 65536 = (d0 : Int) := by omega
  have e1 : (x : Int) / 65536 % 65536 = (d1 : Int) := by omega
  have e2 : (x : Int) / 4294967296 = (d2 : Int) := by omega
  obtain ⟨V1, hV1⟩ : ∃ V, V = w.alloc (Obj.cells #[.int .i64 d0, .int .i64 d1, .int .i64 d2] 3) := ⟨_, rfl⟩
  obtain ⟨p1, hp1⟩ : ∃ p, p = w.heap.size := ⟨_, rfl⟩
  have hO1 : V1.ownsRow w.heap.size 3 1 (.slice (some ⟨p1, 0, none⟩) 3 3) 3 (iV [d0, d1, d2]) := by rw [hV1, hp1]; exact World.ownsRow_lit w #[.int .i64 d0, .int .i64 d1, .int .i64 d2] 3 (Nat.le_refl _) (by decide) rfl
  have hB1 : Below w.heap.size w V1 := by rw [hV1]; exact (Below.refl _ _).alloc (Nat.le_refl _) _
  have HPR := Lib.hid (product_any V1 w.heap.size w.heap.size _ _ [d0, d1, d2] [d0, d1, d2] hO1 hO1 (by simp) (by simp) (by simp) (by simp) hdg hdg)
  have hxx : x * x ≤ 68719476736 * 68719476736 := Nat.mul_le_mul hx hx
  have HXB : Hid (x * x * x ≤ 4096 * 65536 ^ 6) := Lib.hid (Nat.le_trans (Nat.mul_le_mul hxx hx) (by decide))
  have H1 := Lib.hid (And.intro hO1 (And.intro hB1 (And.intro hv hdg)))
  have HV1 := Lib.hid hV1
  have HP1 := Lib.hid hp1
  clear hd0 hd1 hd2 hv hdg hV1 hp1 hO1 hB1 hxx
  go_enter Try.func43, Try.ntmps43
  go_wp2_with fail
  rw [← HP1.out, ← HV1.out]
  refine HPR.out.mono ?_
  rintro e w2 ⟨v2, lp, rfl, hO2, hl2, hd2, hv2, hb2⟩
  have HO1 := Lib.hid (own_below H1.out.1 hb2)
  have HPR2 := Lib.hid (product_any w2 V1.heap.size w.heap.size _ _ lp [d0, d1, d2] (by rw [hl2]; exact hO2) HO1.out (by rw [hl2]; simp) (by simp) (by rw [hl2]; simp) (by simp) hd2 H1.out.2.2.2)
  have hB2 : Below w.heap.size w w2 := H1.out.2.1.trans (hb2.mono H1.out.2.1.size)
  have HB2 := Lib.hid hB2
  rw [H1.out.2.2.1] at hv2
  have HV2 := Lib.hid (And.intro hv2 hl2)
  clear hO2 hl2 hd2 hv2 hb2 hB2 HPR
  go_wp2_with fail
  refine HPR2.out.mono ?_
  rintro e w3 ⟨v3, lq, rfl, hO3, hl3, hd3, hv3, hb3⟩
  rw [HV2.out.2] at hO3 hl3
  rw [HV2.out.1, H1.out.2.2.1] at hv3
  have hB3 : Below w.heap.size w w3 := HB2.out.trans (hb3.mono HB2.out.size)
  obtain ⟨ap, cp, rfl⟩ := slice_own hO3
  have HP := Lib.hid (And.intro (show w3.ownsRow w2.heap.size 3 1 (.slice ap 9 cp) 9 (iV lq) from hO3) (And.intro (show lq.length = 9 from hl3) (And.intro hd3 (And.intro hv3 hB3))))
  clear hO3 hl3 hd3 hv3 hb3 hB3 HPR2 HV2
  obtain ⟨gp, rfl, hgp1, hgp2, _, hcp⟩ := own_cell HP.out.1 (by decide)
  have hall : ∀ j : Nat, j < 9 → ∃ y, lq[j]? = some y ∧ y < 65536 ∧ w3.cell? ⟨gp, j, none⟩ = some (.int .i64 (y : Nat)) := fun j hj => by
    have hj2 : j < lq.length := by rw [HP.out.2.1]; exact hj
    exact ⟨lq[j], List.getElem?_eq_getElem hj2, HP.out.2.2.1 _ (List.getElem_mem hj2), hcp j _ (List.getElem?_eq_getElem hj2)⟩
  have HALL := Lib.hid hall
  have HBD : Hid (∀ j, 6 ≤ j → dval (lq.drop j) ≤ 4096) := Lib.hid (fun j hj => drop_bd lq 6 j hj (by rw [HP.out.2.2.2.1]; exact HXB.out))
  clear hcp hall
  go_wp2_with fail
  go_loopw [9, 10, 11] (fun a b c wr => ∃ (j : Nat) (rb : Bool), c = .int .i64 ((j : Int) - 1) ∧ j ≤ 9 ∧ a = .int .i64 ((dval (lq.drop (max j 6)) : Nat) : Int) ∧ b = .bool rb ∧ (rb = true ↔ ∃ t, j ≤ t ∧ t < 6 ∧ lq.getD t 0 ≠ 0) ∧ wr = w3) (fun _ _ c _ => (intOf c + 1).toNat)
  case atStart => exact ⟨9, false, by simp, Nat.le_refl _, by rw [List.drop_of_length_le (by rw [HP.out.2.1]; decide)]; rfl, rfl, ⟨fun h => (by cases h), fun ⟨t, h1, h2, _⟩ => absurd h1 (by omega)⟩, rfl⟩
  case round =>
    obtain ⟨j, rb, rfl, hj, rfl, rfl, hrb, rfl⟩ := hrel
    by_cases hj0 : 0 < j
    · obtain ⟨i, rfl⟩ : ∃ i, j = i + 1 := ⟨j - 1, by omega⟩
      obtain ⟨y, hy, hy2, hcy⟩ := HALL.out i (by omega)
      have e1 : ((i + 1 : Nat) : Int) - 1 = (i : Int) := by omega
      have i1 : (0 : Int) ≤ (i : Int) := by omega
      have i2 : (i : Int) < 9 := by omega
      have hyd : lq.getD i 0 = y := by rw [List.getD_eq_getElem?_getD, hy]; rfl
      rw [e1]
      by_cases hL : 6 ≤ i
      · have i3 : (6 : Int) ≤ (i : Int) := by omega
        have hmax : max (i + 1) 6 = i + 1 := by omega
        rw [hmax]
        have hb1 := HBD.out (i + 1) (by omega)
        have hdv : dval (lq.drop i) = y + 65536 * dval (lq.drop (i + 1)) := dval_drop_one hy
        obtain ⟨WH, hWH⟩ : ∃ W, W = dval (lq.drop (i + 1)) := ⟨_, rfl⟩
        rw [← hWH] at hb1 hdv ⊢
        have v1 : IntKind.i64.wrap ((WH : Int) * 65536) = (WH : Int) * 65536 := IntWalk.i64_in _ (by omega)
        have v2 : IntKind.i64.wrap ((WH : Int) * 65536 + (y : Int)) = (WH : Int) * 65536 + (y : Int) := IntWalk.i64_in _ (by omega)
        have HN : Hid (max i 6 = i) := Lib.hid (by omega)
        have HDV := Lib.hid hdv
        have HRB : Hid (rb = true ↔ ∃ t, i ≤ t ∧ t < 6 ∧ lq.getD t 0 ≠ 0) := Lib.hid (hrb.trans ⟨fun ⟨t, h1, h2, h3⟩ => ⟨t, by omega, h2, h3⟩, fun ⟨t, h1, h2, h3⟩ => absurd h2 (by omega)⟩)
        clear hdv hWH hrb hmax hyd
        go_wp2
        exact ⟨⟨i, rb, rfl, by omega, by rw [HN.out, HDV.out]; congr 1; omega, rfl, HRB.out, trivial⟩, by simp [intOf]⟩
      · have i3 : ¬ (6 : Int) ≤ (i : Int) := by omega
        have hmax : max (i + 1) 6 = 6 := by omega
        have HN : Hid (max i 6 = 6) := Lib.hid (by omega)
        rw [hmax]
        obtain ⟨WH, hWH⟩ : ∃ W, W = dval (lq.drop 6) := ⟨_, rfl⟩
        rw [← hWH]
        have HWH := Lib.hid hWH
        have HRB : Hid (∀ b2 : Bool, (b2 = true ↔ (rb = true ∨ y ≠ 0)) → (b2 = true ↔ ∃ t, i ≤ t ∧ t < 6 ∧ lq.getD t 0 ≠ 0)) := Lib.hid (fun b2 h => h.trans ⟨fun h => h.elim (fun h => by obtain ⟨t, h1, h2, h3⟩ := hrb.1 h; exact ⟨t, by omega, h2, h3⟩) (fun h => ⟨i, Nat.le_refl _, by omega, by rw [hyd]; exact h⟩), fun ⟨t, h1, h2, h3⟩ => by
          by_cases ht : t = i
          · subst ht; rw [hyd] at h3; exact .inr h3
          · exact .inl (hrb.2 ⟨t, by omega, h2, h3⟩)⟩)
        clear hWH hrb hmax hyd
        cases rb with
        | true =>
          go_wp2
          exact ⟨⟨i, true, rfl, by omega, by rw [HN.out, HWH.out], rfl, HRB.out true (by simp), trivial⟩, by simp [intOf]⟩
        | false =>
          by_cases hy0 : y = 0
          · have hyb : ((y : Int) != 0) = false := by simp [hy0]
            go_wp2
            exact ⟨⟨i, false, rfl, by omega, by rw [HN.out, HWH.out], rfl, HRB.out false (by simp [hy0]), trivial⟩, by simp [intOf]⟩
          · have hyb : ((y : Int) != 0) = true := by simp [hy0]
            have HY0 := Lib.hid hy0
            clear hy0
            go_wp2
            exact ⟨⟨i, true, rfl, by omega, by rw [HN.out, HWH.out], rfl, HRB.out true (by simp [HY0.out]), trivial⟩, by simp [intOf]⟩
    · obtain rfl : j = 0 := by omega
      have hC := most_end lq 6 n HP.out.2.2.1 (by rw [HP.out.2.1]; decide)
      rw [show max 0 6 = 6 from rfl]
      obtain ⟨WH, hWH⟩ : ∃ W, W = dval (lq.drop 6) := ⟨_, rfl⟩
      have hbw := HBD.out 6 (Nat.le_refl _)
      rw [← hWH] at hC hbw ⊢
      have hrb2 : (∃ t, t < 6 ∧ lq.getD t 0 ≠ 0) ↔ rb = true := ⟨fun ⟨t, h1, h2⟩ => hrb.2 ⟨t, Nat.zero_le _, h1, h2⟩, fun h => by obtain ⟨t, _, h1, h2⟩ := hrb.1 h; exact ⟨t, h1, h2⟩⟩
      rw [hrb2, HP.out.2.2.2.1] at hC
      have HC := Lib.hid hC
      have HBF := HP.out.2.2.2.2
      have HBF := Lib.hid HBF
      clear hrb hrb2 hC hWH
      by_cases c1 : WH < n
      · have HY := Lib.hid (HC.out.2 (.inl c1))
        go_wp2
        go_ret
        exact MostP.yes HY.out HBF.out
      · by_cases c2 : WH = n
        · subst c2
          cases rb with
          | true =>
            have HNo := Lib.hid (fun h => by have := HC.out.1 h; simp at this : ¬ _)
            go_wp2
            go_ret
            exact MostP.no HNo.out HBF.out
          | false =>
            have HY := Lib.hid (HC.out.2 (.inr ⟨rfl, by simp⟩))
            go_wp2
            go_ret
            exact MostP.yes HY.out HBF.out
        · have HNo := Lib.hid (fun h => by have := HC.out.1 h; omega : ¬ _)
          have d2 : ((WH : Int) == (n : Int)) = false := by rw [beq_eq_false_iff_ne]; omega
          have HD : Hid (decide (WH < n) = false) := Lib.hid (decide_eq_false c1)
          clear c2 hbw HC HBD HXB HALL HP
          cases rb
          case true =>
            go_wp2
            go_ret
            exact MostP.no HNo.out HBF.out
          case false =>
            go_wp2
            go_ret
            exact MostP.no HNo.out HBF.out
end Go.Proofs.Ytjahdladcijhoaa
