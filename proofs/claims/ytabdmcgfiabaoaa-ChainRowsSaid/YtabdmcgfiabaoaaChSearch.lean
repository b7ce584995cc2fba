/- sort.SearchInts. Conditions: as named in each theorem. -/
import Derived.Test.YtabdmcgfiabaoaaChSmall
namespace Go.Proofs.Ytabdmcgfiabaoaa
open Go.RowKit
set_option linter.unusedVariables false
/-- all ahead of place i are below x, all from it on are not -/
def CutAt (l : List Int) (x : Int) (i : Nat) : Prop := (∀ j, (hj : j < l.length) → j < i → l[j] < x) ∧ (∀ j, (hj : j < l.length) → i ≤ j → x ≤ l[j])
def Upw (l : List Int) : Prop := ∀ i j, (hi : i < l.length) → (hj : j < l.length) → i ≤ j → l[i] ≤ l[j]
set_option maxHeartbeats 1000000 in
theorem searchFn_any (w : World) (k : Nat) (x : Int) (z : Int) (R : Bool) (b off len cap pa px : Nat) (hA : w.cell? ⟨pa, 0, none⟩ = some (.slice (some ⟨b, off, none⟩) len cap)) (hX : w.cell? ⟨px, 0, none⟩ = some (.int .i64 x)) (hz : w.cell? ⟨b, off + k, none⟩ = some (.int .i64 z)) (hk : k < len) (hr : decide (x ≤ z) = R) :
    Calls Try.prog 65 #[.int .i64 k, .pointer (some ⟨pa, 0, none⟩), .pointer (some ⟨px, 0, none⟩)] w fun e w' => e = .returned (.bool R) ∧ Below w.heap.size w w' := by
  have i1 : (k : Int) < (len : Int) := by omega
  go_enter Try.func65, Try.ntmps65
  go_wp2
  go_quiet (fail)
  go_wp2
  go_ret
  exact ⟨rfl, below_drewN' (Below.refl _ _) _⟩
set_option maxHeartbeats 1000000 in
theorem search_any (w : World) (ao : Option Addr) (len cap pa px : Nat) (l : List Int) (x : Int) (hR : Rs w ao len cap 1 l intC) (hn : len ≤ 1000000000) (hU : Upw l) (hA : w.cell? ⟨pa, 0, none⟩ = some (.slice ao len cap)) (hX : w.cell? ⟨px, 0, none⟩ = some (.int .i64 x)) (hpa : pa < w.heap.size) (hpx : px < w.heap.size) :
    Calls Try.prog 64 #[.int .i64 len, .func (.func 65) #[] #[.pointer (some ⟨pa, 0, none⟩), .pointer (some ⟨px, 0, none⟩)]] w fun e w' =>
      ∃ i : Nat, e = .returned (.int .i64 i) ∧ i ≤ len ∧ CutAt l x i ∧ Below w.heap.size w w' := by
  have HLL := Lib.hid hR.2.2.1
  go_enter Try.func64, Try.ntmps64
  go_wp2
  go_loopw [5, 6] (fun u v wr => ∃ i j : Nat, i ≤ j ∧ j ≤ len ∧ u = .int .i64 i ∧ v = .int .i64 j ∧ (∀ t, (ht : t < l.length) → t < i → l[t] < x) ∧ (∀ t, (ht : t < l.length) → j ≤ t → x ≤ l[t]) ∧ Below w.heap.size w wr) (fun u v _ => (intOf v).toNat - (intOf u).toNat)
  case atStart => exact ⟨0, len, by omega, by omega, rfl, rfl, fun _ _ h => by omega, fun j hj h => by have := HLL.out; omega, Below.refl _ _⟩
  case round =>
    obtain ⟨i, j, hij, hj, rfl, rfl, hb, ha, hB⟩ := hrel
    have HB := Lib.hid hb
    have HA := Lib.hid ha
    clear hb ha
    by_cases hlt : i < j
    · obtain ⟨b, off, rfl, hbw, hc⟩ := hR.cell1 (by omega)
      have hk : (i + j) / 2 < len := by omega
      have hks : (i + j) / 2 < l.length := by rw [HLL.out]; exact hk
      have c0 := hc ((i + j) / 2) hks _ rfl
      have HU := Lib.hid (fun t ht h => hU t ((i + j) / 2) ht hks h)
      have HU2 := Lib.hid (fun t ht h => hU ((i + j) / 2) t hks ht h)
      obtain ⟨z, hz⟩ : ∃ z, z = l[(i + j) / 2] := ⟨_, rfl⟩
      rw [← hz] at c0 HU HU2
      have d0 := (hB.cell (p := ⟨b, off + (i + j) / 2, none⟩) hbw).trans c0
      have dA := (hB.cell (p := ⟨pa, 0, none⟩) hpa).trans hA
      have dX := (hB.cell (p := ⟨px, 0, none⟩) hpx).trans hX
      clear c0 hc hz hks hR hA hX hU
      by_cases h1 : x ≤ z
      · have H1 := Lib.hid h1
        have hd : decide (x ≤ z) = true := by simpa using h1
        clear h1
        go_wp2_with fail
        refine (searchFn_any _ _ x z true b off len cap pa px dA dX d0 hk hd).mono ?_
        rintro e w2 ⟨rfl, hb2⟩
        have hB2 := hB.trans (hb2.mono hB.size)
        clear d0 dA dX hB hb2 hd
        go_wp2
        go_roundw
        case rel => exact ⟨i, (i + j) / 2, by omega, by omega, by go_num, by go_num, HB.out, fun t ht hti => by have := HU2.out t ht hti; have := H1.out; omega, hB2⟩
        case measure => simp [intOf]; omega
      · have H1 := Lib.hid h1
        have hd : decide (x ≤ z) = false := by simpa using h1
        clear h1
        go_wp2_with fail
        refine (searchFn_any _ _ x z false b off len cap pa px dA dX d0 hk hd).mono ?_
        rintro e w2 ⟨rfl, hb2⟩
        have hB2 := hB.trans (hb2.mono hB.size)
        clear d0 dA dX hB hb2 hd
        go_wp2
        go_roundw
        case rel => exact ⟨(i + j) / 2 + 1, j, by omega, by omega, by go_num, by go_num, fun t ht hti => by have := HU.out t ht (by omega); have := H1.out; omega, HA.out, hB2⟩
        case measure => simp [intOf]; omega
    · have hjj : i = j := by omega
      subst hjj
      have HC : Hid (CutAt l x i) := Lib.hid ⟨HB.out, HA.out⟩
      go_wp2
      go_ret
      exact ⟨i, rfl, hj, HC.out, hB⟩
set_option maxHeartbeats 1000000 in
theorem searchInts_any (w : World) (ao : Option Addr) (len cap : Nat) (l : List Int) (x : Int) (hR : Rs w ao len cap 1 l intC) (hn : len ≤ 1000000000) (hU : Upw l) :
    Calls Try.prog 42 #[.slice ao len cap, .int .i64 x] w fun e w' => ∃ i : Nat, e = .returned (.int .i64 i) ∧ i ≤ len ∧ CutAt l x i ∧ Below w.heap.size w w' := by
  have hmf : ∀ (fn : Fn) (first cap : Array Value) (w : World), (Instr.makeFunc fn first cap).run Try.prog w = .ok (.func fn first cap) w := fun _ _ _ _ => rfl
  obtain ⟨V, hV⟩ : ∃ V, V = w.alloc (Obj.cells #[.slice ao len cap] 73) := ⟨_, rfl⟩
  obtain ⟨W, hW⟩ : ∃ W, W = V.alloc (Obj.cells #[.int .i64 x] 3) := ⟨_, rfl⟩
  have hA : Blk W w.heap.size [.slice ao len cap] 73 := by rw [hW, hV]; exact (Blk.new w [.slice ao len cap] _).alloc _
  have hC : Blk W (w.heap.size + 1) [.int .i64 x] 3 := by
    have := Blk.new V [.int .i64 x] 3
    rw [hV, World.size_alloc] at this
    rw [hW, hV]; exact this
  have hB : Below w.heap.size w W := by rw [hW, hV]; exact (below_alloc w _).alloc (by simp) _
  have hRW := hR.below hB (Nat.le_refl _)
  have q0 := hA.cell (i := 0) rfl
  have y0 := hC.cell (i := 0) rfl
  have HA := Lib.hid hA
  have HC := Lib.hid hC
  rw [hW, hV] at q0 y0
  have HW := Lib.hid hW
  have HV := Lib.hid hV
  clear hA hC hW hV hR
  go_enter Try.func42, Try.ntmps42
  go_wp2_with fail
  rw [← HV.out, ← HW.out]
  refine (search_any W ao len cap w.heap.size (w.heap.size + 1) l x hRW hn hU (HA.out.cell (i := 0) rfl) (HC.out.cell (i := 0) rfl) HA.out.lt HC.out.lt).mono ?_
  rintro e w2 ⟨i, rfl, hi, hcut, hb2⟩
  have hB2 := below_then hB hb2
  have HCUT := Lib.hid hcut
  clear hcut q0 y0
  go_wp2
  go_ret
  exact ⟨i, rfl, hi, HCUT.out, hB2⟩
end Go.Proofs.Ytabdmcgfiabaoaa
