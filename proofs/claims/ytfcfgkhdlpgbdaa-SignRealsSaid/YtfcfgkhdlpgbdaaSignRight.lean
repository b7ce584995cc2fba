/- Which signatures may be. Conditions: as named in each theorem. -/
import Derived.Test.YtfcfgkhdlpgbdaaSignSign
import Derived.Test.YtfcfgkhdlpgbdaaArgs
import Derived.BigQuiet
namespace Go.Proofs.Ytfcfgkhdlpgbdaa
open Go.RowKit
set_option linter.unusedVariables false

def okTo (W : List Int) (T : List ByteArray) (k : Nat) : Prop := ∀ j, j < k → ∀ x t, W[j]? = some x → T[j]? = some t → 0 ≤ x ∧ x ≤ 4294967295 ∧ t.size = 32
/-- a signature that may be -/
def sigOk (b z : Int) (W : List Int) (T : List ByteArray) : Prop := 16 ≤ b ∧ b ≤ 1024 ∧ 0 ≤ z ∧ z ≤ 524288 ∧ W.length = cnt z.toNat b.toNat ∧ T.length = W.length ∧ okTo W T W.length
theorem okTo.zero (W : List Int) (T : List ByteArray) : okTo W T 0 := fun j h => by omega
theorem okTo.succ {W : List Int} {T : List ByteArray} {k : Nat} {x : Int} {t : ByteArray} (h : okTo W T k) (hx : W[k]? = some x) (ht : T[k]? = some t) (h1 : 0 ≤ x) (h2 : x ≤ 4294967295) (h3 : t.size = 32) : okTo W T (k + 1) := by
  intro j hj x' t' hx' ht'
  by_cases e : j = k
  · subst e
    rw [hx] at hx'; rw [ht] at ht'
    cases hx'; cases ht'
    exact ⟨h1, h2, h3⟩
  · exact h j (by omega) x' t' hx' ht'
def RightR (P : Prop) (e : Ending) : Prop := ∃ r : Bool, e = .returned (.bool r) ∧ (r = true ↔ P)
theorem RightR.yes {P : Prop} (h : P) : RightR P (.returned (.bool true)) := ⟨true, rfl, (fun _ => h), fun _ => rfl⟩
theorem RightR.no {P : Prop} (h : ¬ P) : RightR P (.returned (.bool false)) := ⟨false, rfl, (fun h => by cases h), fun h2 => absurd h2 h⟩
theorem bel_alloc (w : World) (o : Obj) : Below w.heap.size w (w.alloc o) := (Below.refl _ _).alloc (Nat.le_refl _) _
theorem Rs.next {α : Type} {w w' : World} {ao : Option Addr} {len cap size : Nat} {rs : List α} {f : α → List Value} (h : Rs w ao len cap size rs f) (hb : Below w.heap.size w w') : Rs w' ao len cap size rs f := h.below hb (Nat.le_refl _)
/-- the element k of a row of single cells -/
theorem Rs.one {α : Type} {w : World} {ao : Option Addr} {len cap : Nat} {rs : List α} {g : α → Value} (h : Rs w ao len cap 1 rs (fun x => [g x])) {k : Nat} (hk : k < len) :
    ∃ b off x, ao = some ⟨b, off, none⟩ ∧ rs[k]? = some x ∧ w.cell? ⟨b, off + k, none⟩ = some (g x) := by
  have hl := h.2.2.1
  obtain ⟨b, off, e, _, hc⟩ := h.cell1 (by omega)
  exact ⟨b, off, rs[k]'(by omega), e, List.getElem?_eq_getElem _, hc k (by omega) _ rfl⟩

theorem rightW {b z : Int} {W : List Int} {T : List ByteArray} : (¬ (16 ≤ b ∧ b ≤ 1024) → ¬ sigOk b z W T) ∧ (¬ 0 ≤ z → ¬ sigOk b z W T) ∧ (¬ z ≤ 524288 → ¬ sigOk b z W T) ∧ (W.length ≠ cnt z.toNat b.toNat → ¬ sigOk b z W T) ∧ (T.length ≠ W.length → ¬ sigOk b z W T) := by
  refine ⟨fun h k => h ⟨k.1, k.2.1⟩, fun h k => h k.2.2.1, fun h k => h k.2.2.2.1, fun h k => h k.2.2.2.2.1, fun h k => h k.2.2.2.2.2.1⟩
set_option maxRecDepth 100000 in
set_option maxHeartbeats 1000000 in
theorem sgRight_any (w : World) (b z : Int) (ao : Option Addr) (n cap : Nat) (bo : Option Addr) (m cap2 : Nat) (W : List Int) (T : List ByteArray) (wb : (Lit.int .i64 b).wf = true) (wz : (Lit.int .i64 z).wf = true)
    (hW : Rs w ao n cap 1 W (fun x => [.int .i64 x])) (hT : Rs w bo m cap2 1 T (fun x => [.string x])) (hw : ∀ x ∈ W, (Lit.int .i64 x).wf = true) (ht : ∀ x ∈ T, x.size ≤ maxLen) (hn : n ≤ 1000000) (hm : m ≤ 1000000) :
    Calls Try.prog 24 #[.agg #[.int .i64 b, .int .i64 z, .slice ao n cap, .slice bo m cap2]] w fun e w' => RightR (sigOk b z W T) e ∧ Below w.heap.size w w' := by
  have hB : Below w.heap.size w (w.alloc (Obj.cells #[.int .i64 b, .int .i64 z, .slice ao n cap, .slice bo m cap2] 31)) := bel_alloc _ _
  have hBk := Blk.new w [.int .i64 b, .int .i64 z, .slice ao n cap, .slice bo m cap2] 31
  have c0 := hBk.cell (i := 0) rfl
  have c1 := hBk.cell (i := 1) rfl
  have c2 := hBk.cell (i := 2) rfl
  have c3 := hBk.cell (i := 3) rfl
  have hW1 := hW.next hB
  have hT1 := hT.next hB
  have lW : W.length = n := hW.2.2.1
  have lT : T.length = m := hT.2.2.1
  obtain ⟨n1, n2, n3, n4, n5⟩ := rightW (b := b) (z := z) (W := W) (T := T)
  clear hBk hW hT
  have hB2 := fun q => below_drewN' hB q
  have HB2 := Lib.hid hB2
  clear hB2 hB
  go_enter Try.func24, Try.ntmps24
  go_wp2_with fail
  by_cases h1 : 16 ≤ b ∧ b ≤ 1024
  · obtain ⟨B, rfl⟩ : ∃ B : Nat, b = B := ⟨b.toNat, by omega⟩
    have hb1 : 16 ≤ B := by omega
    have hb2 : B ≤ 1024 := by omega
    have hf : decide (16 ≤ (B : Int) ∧ (B : Int) ≤ 1024) = true := by simp; omega
    have HF := Lib.hid hf
    clear n1 hf h1
    by_cases h2 : 0 ≤ z
    · by_cases h3 : z ≤ 524288
      · obtain ⟨Z, rfl⟩ : ∃ Z : Nat, z = Z := ⟨z.toNat, by omega⟩
        have hZ : Z ≤ 524288 := by omega
        have e3 : decide ((524288 : Int) < (Z : Int)) = false := by simp; omega
        have e2 : decide ((Z : Int) < 0) = false := by simp
        simp only [Int.toNat_natCast] at n4
        have hcn : cnt Z B ≤ 524288 := Nat.le_trans (cnt_le (by omega)) hZ
        clear h2 h3 n2 n3
        obtain ⟨C, hC⟩ : ∃ C, C = cnt Z B := ⟨_, rfl⟩
        rw [← hC] at n4 hcn
        have HC : Hid (∀ w, Calls Try.prog 42 #[.int .i64 Z, .int .i64 B] w fun e w' => e = .returned (.int .i64 (C : Nat)) ∧ w = w') := Lib.hid (fun w => by rw [hC]; exact sgCount_any w Z B hZ hb1 hb2)
        by_cases h4 : n = C
        · subst h4
          have e4 : ((n : Int) != (n : Int)) = false := by simp
          by_cases h5 : m = n
          · subst h5
            have HS : Hid (∀ k, k = m → okTo W T k → sigOk B Z W T) := Lib.hid (fun k hk h => ⟨by omega, by omega, by omega, by omega, by simpa [lW] using hC, by omega, by rw [lW, ← hk]; exact h⟩)
            have HN : Hid (∀ j x t, j < m → W[j]? = some x → T[j]? = some t → ¬ (0 ≤ x ∧ x ≤ 4294967295 ∧ t.size = 32) → ¬ sigOk B Z W T) := Lib.hid (fun j x t hj hx ht h k => h (k.2.2.2.2.2.2 j (by omega) x t hx ht))
            clear n4 n5 lW lT hC
            go_quiet ((first
              | (go_at_call 41; exact quiet_eq (sgFits_any _ B true HF.out))
              | (go_at_call 42; exact quiet_eq (HC.out _))))
            go_wp2_with fail
            go_loopw [42] (fun i wr => ∃ k : Nat, k ≤ m ∧ i = .int .i64 k ∧ okTo W T k ∧ ∃ q, wr = (w.alloc (Obj.cells #[.int .i64 B, .int .i64 Z, .slice ao m cap, .slice bo m cap2] 31)).drewN q) (fun i _ => m - (intOf i).toNat)
            case atStart => exact ⟨0, by omega, rfl, okTo.zero _ _, _, rfl⟩
            case round =>
              obtain ⟨k, hk, rfl, hO, q, rfl⟩ := hrel
              have HO := Lib.hid hO
              clear hO
              by_cases hlt : k < m
              · obtain ⟨b1, o1, x, rfl, hx, d1⟩ := hW1.one hlt
                obtain ⟨b2, o2, t, rfl, ht2, d2⟩ := hT1.one hlt
                have hxw := hw x (List.mem_of_getElem? hx)
                have htw := ht t (List.mem_of_getElem? ht2)
                have HX := Lib.hid hx
                have HT := Lib.hid ht2
                clear hx ht2 hw ht hW1 hT1
                by_cases g1 : 0 ≤ x
                · have e5 : decide (x < 0) = false := by simp; omega
                  by_cases g2 : x ≤ 4294967295
                  · have e6 : decide ((4294967295 : Int) < x) = false := by simp; omega
                    by_cases g3 : t.size = 32
                    · have HO2 := Lib.hid (okTo.succ HO.out HX.out HT.out g1 g2 g3)
                      have e7 : ((t.size : Int) != 32) = false := by simp [g3]
                      clear g3
                      go_wp2
                      go_roundw
                      case rel => exact ⟨k + 1, by omega, by go_num, HO2.out, q, rfl⟩
                      case measure => simp [intOf]; omega
                    · have e7 : ((t.size : Int) != 32) = true := by simp; omega
                      have HPF := Lib.hid (HN.out k x t hlt HX.out HT.out (fun h => g3 h.2.2))
                      clear g3
                      go_wp2
                      go_ret
                      exact ⟨RightR.no HPF.out, HB2.out _⟩
                  · have e6 : decide ((4294967295 : Int) < x) = true := by simp; omega
                    have HPF := Lib.hid (HN.out k x t hlt HX.out HT.out (fun h => g2 h.2.1))
                    go_wp2
                    go_ret
                    exact ⟨RightR.no HPF.out, HB2.out _⟩
                · have e5 : decide (x < 0) = true := by simp; omega
                  have HPF := Lib.hid (HN.out k x t hlt HX.out HT.out (fun h => g1 h.1))
                  go_wp2
                  go_ret
                  exact ⟨RightR.no HPF.out, HB2.out _⟩
              · have HPF := Lib.hid (HS.out k (by omega) HO.out)
                go_wp2
                go_ret
                exact ⟨RightR.yes HPF.out, HB2.out _⟩
          · have e5 : ((m : Int) != (n : Int)) = true := by simp; omega
            have HPF := Lib.hid (n5 (by rw [lW, lT]; exact h5))
            clear n4 n5 lW lT h5 hC
            go_quiet ((first
              | (go_at_call 41; exact quiet_eq (sgFits_any _ B true HF.out))
              | (go_at_call 42; exact quiet_eq (HC.out _))))
            go_wp2
            go_ret
            exact ⟨RightR.no HPF.out, HB2.out _⟩
        · have e4 : ((n : Int) != (C : Int)) = true := by simp; omega
          have HPF := Lib.hid (n4 (by rw [lW]; exact h4))
          clear n4 n5 lW lT h4 hC
          go_quiet ((first
            | (go_at_call 41; exact quiet_eq (sgFits_any _ B true HF.out))
            | (go_at_call 42; exact quiet_eq (HC.out _))))
          go_wp2
          go_ret
          exact ⟨RightR.no HPF.out, HB2.out _⟩
      · have e3 : decide ((524288 : Int) < z) = true := by simp; omega
        have e2 : decide (z < 0) = false := by simp; omega
        have HPF := Lib.hid (n3 (by omega))
        clear n2 n3 n4 n5 lW lT
        go_quiet ((first
          | (go_at_call 41; exact quiet_eq (sgFits_any _ B true HF.out))))
        go_wp2
        go_ret
        exact ⟨RightR.no HPF.out, HB2.out _⟩
    · have e2 : decide (z < 0) = true := by simp; omega
      have HPF := Lib.hid (n2 (by omega))
      clear n2 n3 n4 n5 lW lT
      go_quiet ((first
        | (go_at_call 41; exact quiet_eq (sgFits_any _ B true HF.out))))
      go_wp2
      go_ret
      exact ⟨RightR.no HPF.out, HB2.out _⟩
  · have HPF := Lib.hid (n1 h1)
    have hf : decide (16 ≤ b ∧ b ≤ 1024) = false := by simpa using h1
    have HF := Lib.hid hf
    clear n1 n2 n3 n4 n5 hf h1
    go_quiet ((first
      | (go_at_call 41; exact quiet_eq (sgFits_any _ b false HF.out))))
    go_wp2
    go_ret
    exact ⟨RightR.no HPF.out, HB2.out _⟩
end Go.Proofs.Ytfcfgkhdlpgbdaa
