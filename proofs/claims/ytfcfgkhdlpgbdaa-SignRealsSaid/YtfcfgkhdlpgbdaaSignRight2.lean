/- Which signatures may be, by the reference; rows and signatures alike. Conditions: as named in each theorem. -/
import Derived.Test.YtfcfgkhdlpgbdaaSignRight
namespace Go.Proofs.Ytfcfgkhdlpgbdaa
open Go.RowKit
set_option linter.unusedVariables false

set_option maxRecDepth 100000 in
set_option maxHeartbeats 1000000 in
theorem refRight_any (w : World) (b z : Int) (ao : Option Addr) (n cap : Nat) (bo : Option Addr) (m cap2 : Nat) (W : List Int) (T : List ByteArray) (wb : (Lit.int .i64 b).wf = true) (wz : (Lit.int .i64 z).wf = true)
    (hW : Rs w ao n cap 1 W (fun x => [.int .i64 x])) (hT : Rs w bo m cap2 1 T (fun x => [.string x])) (hw : ∀ x ∈ W, (Lit.int .i64 x).wf = true) (ht : ∀ x ∈ T, x.size ≤ maxLen) (hn : n ≤ 1000000) (hm : m ≤ 1000000) :
    Calls Try.prog 28 #[.agg #[.int .i64 b, .int .i64 z, .slice ao n cap, .slice bo m cap2]] w fun e w' => RightR (sigOk b z W T) e ∧ Below w.heap.size w w' := by
  have hB : Below w.heap.size w (w.alloc (Obj.cells #[.int .i64 b, .int .i64 z, .slice ao n cap, .slice bo m cap2] 31)) := bel_alloc _ _
  have hBk := Blk.new w [.int .i64 b, .int .i64 z, .slice ao n cap, .slice bo m cap2] 31
  have c0 := hBk.cell (i := 0) rfl
  have c1 := hBk.cell (i := 1) rfl
  have c2 := hBk.cell (i := 2) rfl
  have c3 := hBk.cell (i := 3) rfl
  have hW1 := hW.next hB
  have hT1 := hT.next hB
  have lW : W.length = n := hW.2.2.1
  have lT : T.length = m := hT.2.2.1
  obtain ⟨n1, n2, n3, n4, n5⟩ := rightW (b := b) (z := z) (W := W) (T := T)
  clear hBk hW hT
  have HB2 := Lib.hid hB
  clear hB
  by_cases h1 : 16 ≤ b
  · by_cases h0 : b ≤ 1024
    · obtain ⟨B, rfl⟩ : ∃ B : Nat, b = B := ⟨b.toNat, by omega⟩
      have hb1 : 16 ≤ B := by omega
      have hb2 : B ≤ 1024 := by omega
      have f1 : decide ((B : Int) < 16) = false := by simp; omega
      have f2 : decide ((1024 : Int) < (B : Int)) = false := by simp; omega
      clear n1 h1 h0
      by_cases h2 : 0 ≤ z
      · by_cases h3 : z ≤ 524288
        · obtain ⟨Z, rfl⟩ : ∃ Z : Nat, z = Z := ⟨z.toNat, by omega⟩
          have hZ : Z ≤ 524288 := by omega
          have e3 : decide ((524288 : Int) < (Z : Int)) = false := by simp; omega
          have e2 : decide ((Z : Int) < 0) = false := by simp
          simp only [Int.toNat_natCast] at n4
          have hcn : cnt Z B ≤ 524288 := Nat.le_trans (cnt_le (by omega)) hZ
          clear h2 h3 n2 n3
          obtain ⟨C, hC⟩ : ∃ C, C = cnt Z B := ⟨_, rfl⟩
          rw [← hC] at n4 hcn
          have hq : ((Z : Int) + B - 1).tdiv (B : Int) = (C : Int) := by
            have e : (Z : Int) + B - 1 = ((Z + B - 1 : Nat) : Int) := by omega
            rw [e, hC]; unfold cnt; rfl
          have hb0 : ¬ (B : Int) = 0 := by omega
          by_cases h4 : n = C
          · subst h4
            have e4 : ((n : Int) != (n : Int)) = false := by simp
            by_cases h5 : m = n
            · subst h5
              have HS : Hid (∀ k, k = m → okTo W T k → sigOk B Z W T) := Lib.hid (fun k hk h => ⟨by omega, by omega, by omega, by omega, by simpa [lW] using hC, by omega, by rw [lW, ← hk]; exact h⟩)
              have HN : Hid (∀ j x t, j < m → W[j]? = some x → T[j]? = some t → ¬ (0 ≤ x ∧ x ≤ 4294967295 ∧ t.size = 32) → ¬ sigOk B Z W T) := Lib.hid (fun j x t hj hx ht h k => h (k.2.2.2.2.2.2 j (by omega) x t hx ht))
              clear n4 n5 lW lT hC
              go_enter Try.func28, Try.ntmps28
              go_wp2
              go_loopw [4] (fun i wr => ∃ k : Nat, k ≤ m ∧ i = .int .i64 k ∧ okTo W T k ∧ wr = (w.alloc (Obj.cells #[.int .i64 B, .int .i64 Z, .slice ao m cap, .slice bo m cap2] 31))) (fun i _ => m - (intOf i).toNat)
              case atStart => exact ⟨0, by omega, rfl, okTo.zero _ _, rfl⟩
              case round =>
                obtain ⟨k, hk, rfl, hO, rfl⟩ := hrel
                have HO := Lib.hid hO
                clear hO
                by_cases hlt : k < m
                · obtain ⟨b1, o1, x, rfl, hx, d1⟩ := hW1.one hlt
                  obtain ⟨b2, o2, t, rfl, ht2, d2⟩ := hT1.one hlt
                  have hxw := hw x (List.mem_of_getElem? hx)
                  have htw := ht t (List.mem_of_getElem? ht2)
                  have HX := Lib.hid hx
                  have HT := Lib.hid ht2
                  clear hx ht2 hw ht hW1 hT1
                  by_cases g1 : 0 ≤ x
                  · have e5 : decide (x < 0) = false := by simp; omega
                    by_cases g2 : x ≤ 4294967295
                    · have e6 : decide ((4294967295 : Int) < x) = false := by simp; omega
                      by_cases g3 : t.size = 32
                      · have HO2 := Lib.hid (okTo.succ HO.out HX.out HT.out g1 g2 g3)
                        have e7 : ((t.size : Int) != 32) = false := by simp [g3]
                        clear g3
                        go_wp2
                        go_roundw
                        case rel => exact ⟨k + 1, by omega, by go_num, HO2.out, trivial⟩
                        case measure => simp [intOf]; omega
                      · have e7 : ((t.size : Int) != 32) = true := by simp; omega
                        have HPF := Lib.hid (HN.out k x t hlt HX.out HT.out (fun h => g3 h.2.2))
                        clear g3
                        go_wp2
                        go_ret
                        exact ⟨RightR.no HPF.out, HB2.out⟩
                    · have e6 : decide ((4294967295 : Int) < x) = true := by simp; omega
                      have HPF := Lib.hid (HN.out k x t hlt HX.out HT.out (fun h => g2 h.2.1))
                      go_wp2
                      go_ret
                      exact ⟨RightR.no HPF.out, HB2.out⟩
                  · have e5 : decide (x < 0) = true := by simp; omega
                    have HPF := Lib.hid (HN.out k x t hlt HX.out HT.out (fun h => g1 h.1))
                    go_wp2
                    go_ret
                    exact ⟨RightR.no HPF.out, HB2.out⟩
                · have HPF := Lib.hid (HS.out k (by omega) HO.out)
                  go_wp2
                  go_ret
                  exact ⟨RightR.yes HPF.out, HB2.out⟩
            · have e5 : ((m : Int) != (n : Int)) = true := by simp; omega
              have HPF := Lib.hid (n5 (by rw [lW, lT]; exact h5))
              clear n4 n5 lW lT h5 hC
              go_enter Try.func28, Try.ntmps28
              go_wp2
              go_ret
              exact ⟨RightR.no HPF.out, HB2.out⟩
          · have e4 : ((n : Int) != (C : Int)) = true := by simp; omega
            have HPF := Lib.hid (n4 (by rw [lW]; exact h4))
            clear n4 n5 lW lT h4 hC
            go_enter Try.func28, Try.ntmps28
            go_wp2
            go_ret
            exact ⟨RightR.no HPF.out, HB2.out⟩
        · have e3 : decide ((524288 : Int) < z) = true := by simp; omega
          have e2 : decide (z < 0) = false := by simp; omega
          have HPF := Lib.hid (n3 (by omega))
          clear n2 n3 n4 n5 lW lT
          go_enter Try.func28, Try.ntmps28
          go_wp2
          go_ret
          exact ⟨RightR.no HPF.out, HB2.out⟩
      · have e2 : decide (z < 0) = true := by simp; omega
        have HPF := Lib.hid (n2 (by omega))
        clear n2 n3 n4 n5 lW lT
        go_enter Try.func28, Try.ntmps28
        go_wp2
        go_ret
        exact ⟨RightR.no HPF.out, HB2.out⟩
    · have HPF := Lib.hid (n1 (by omega))
      have f1 : decide (b < 16) = false := by simp; omega
      have f2 : decide ((1024 : Int) < b) = true := by simp; omega
      clear n1 n2 n3 n4 n5
      go_enter Try.func28, Try.ntmps28
      go_wp2
      go_ret
      exact ⟨RightR.no HPF.out, HB2.out⟩
  · have HPF := Lib.hid (n1 (by omega))
    have f1 : decide (b < 16) = true := by simp; omega
    clear n1 n2 n3 n4 n5
    go_enter Try.func28, Try.ntmps28
    go_wp2
    go_ret
    exact ⟨RightR.no HPF.out, HB2.out⟩

/-- two lists of ints are one -/
theorem ints_true (w : World) (ao bo : Option Addr) (n cap cap2 : Nat) (L : List Int) (ha : Rs w ao n cap 1 L (fun x => [.int .i64 x])) (hb : Rs w bo n cap2 1 L (fun x => [.int .i64 x])) (hn : n ≤ 1000000000) :
    Calls Try.prog 21 #[.slice ao n cap, .slice bo n cap2] w fun e w' => e = .returned (.bool true) ∧ Below w.heap.size w w' := by
  go_enter Try.func21, Try.ntmps21
  go_wp2
  go_loopw [5] (fun i wr => ∃ k : Nat, k ≤ n ∧ i = .int .i64 k ∧ ∃ m, wr = w.drewN m) (fun i _ => n - (intOf i).toNat)
  case atStart => exact ⟨0, by omega, rfl, 0, rfl⟩
  case round =>
    obtain ⟨k, hk, rfl, m, rfl⟩ := hrel
    by_cases hlt : k < n
    · obtain ⟨b1, o1, x, rfl, hx, d1⟩ := ha.one hlt
      obtain ⟨b2, o2, y, rfl, hy, d2⟩ := hb.one hlt
      rw [hx] at hy
      cases hy
      have i1 : (k : Int) < (n : Int) := by omega
      clear ha hb hx
      go_wp2
      go_quiet (fail)
      go_wp2
      go_roundw
      case rel => exact ⟨k + 1, by omega, by go_num, by first | exact ⟨_, rfl⟩ | exact ⟨_, by simp⟩⟩
      case measure => simp [intOf]; omega
    · go_wp2
      go_ret
      exact ⟨rfl, below_drewN' (Below.refl _ _) _⟩
end Go.Proofs.Ytfcfgkhdlpgbdaa
