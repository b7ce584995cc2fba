/- Two signatures alike; a signature's bytes are read back. Conditions: as named in each theorem. -/
import Derived.Test.YtfcfgkhdlpgbdaaSignOf
namespace Go.Proofs.Ytfcfgkhdlpgbdaa
open Go.RowKit
set_option linter.unusedVariables false

set_option maxRecDepth 100000 in
set_option maxHeartbeats 1000000 in
theorem same_true (w : World) (b z : Int) (ao : Option Addr) (n cap : Nat) (bo : Option Addr) (m cap2 : Nat) (ao' : Option Addr) (cap' : Nat) (bo' : Option Addr) (cap2' : Nat) (W : List Int) (T : List ByteArray) (hn : n ≤ 1000000000) (hm : m ≤ 1000000000)
    (hW : Rs w ao n cap 1 W (fun x => [.int .i64 x])) (hT : Rs w bo m cap2 1 T (fun x => [.string x])) (hW' : Rs w ao' n cap' 1 W (fun x => [.int .i64 x])) (hT' : Rs w bo' m cap2' 1 T (fun x => [.string x])) :
    Calls Try.prog 35 #[.agg #[.int .i64 b, .int .i64 z, .slice ao n cap, .slice bo m cap2], .agg #[.int .i64 b, .int .i64 z, .slice ao' n cap', .slice bo' m cap2']] w fun e w' => e = .returned (.bool true) ∧ Below w.heap.size w w' := by
  obtain ⟨V, hV⟩ : ∃ V, V = (w.alloc (Obj.cells #[.int .i64 b, .int .i64 z, .slice ao n cap, .slice bo m cap2] 31)).alloc (Obj.cells #[.int .i64 b, .int .i64 z, .slice ao' n cap', .slice bo' m cap2'] 31) := ⟨_, rfl⟩
  obtain ⟨p1, hp1⟩ : ∃ p, p = w.heap.size := ⟨_, rfl⟩
  obtain ⟨p2, hp2⟩ : ∃ p, p = w.heap.size + 1 := ⟨_, rfl⟩
  have hG : Blk V p1 [.int .i64 b, .int .i64 z, .slice ao n cap, .slice bo m cap2] 31 := by rw [hV, hp1]; exact (Blk.new _ _ _).alloc _
  have hH : Blk V p2 [.int .i64 b, .int .i64 z, .slice ao' n cap', .slice bo' m cap2'] 31 := by
    have := Blk.new (w.alloc (Obj.cells #[.int .i64 b, .int .i64 z, .slice ao n cap, .slice bo m cap2] 31)) [.int .i64 b, .int .i64 z, .slice ao' n cap', .slice bo' m cap2'] 31
    rw [World.size_alloc] at this
    rw [hV, hp2]; exact this
  have hB : Below w.heap.size w V := by rw [hV]; exact bl_alloc (bel_alloc _ _) _
  have HB := Lib.hid hB
  have HV := Lib.hid hV
  have HP1 := Lib.hid hp1
  have HP2 := Lib.hid hp2
  have c0 := hG.cell (i := 0) rfl
  have c1 := hG.cell (i := 1) rfl
  have c2 := hG.cell (i := 2) rfl
  have c3 := hG.cell (i := 3) rfl
  have e0 := hH.cell (i := 0) rfl
  have e1 := hH.cell (i := 1) rfl
  have e2 := hH.cell (i := 2) rfl
  have e3 := hH.cell (i := 3) rfl
  have hW1 := hW.next hB
  have hT1 := hT.next hB
  have hW2 := hW'.next hB
  have hT2 := hT'.next hB
  clear hW hT hW' hT' hG hH hB hV hp1 hp2
  go_enter Try.func35, Try.ntmps35
  go_upto_region 1 with fail
  rw [← HP2.out, ← HP1.out, ← HV.out]
  go_wp2
  go_loopw [5] (fun i wr => ∃ k : Nat, k ≤ n ∧ i = .int .i64 k ∧ ∃ q, wr = V.drewN q) (fun i _ => n - (intOf i).toNat)
  case atStart => exact ⟨0, by omega, rfl, 0, rfl⟩
  case round =>
    obtain ⟨k, hk, rfl, q, rfl⟩ := hrel
    by_cases hlt : k < n
    · obtain ⟨b1, o1, x, rfl, hx, d1⟩ := hW1.one hlt
      obtain ⟨b2, o2, y, rfl, hy, d2⟩ := hW2.one hlt
      rw [hx] at hy
      cases hy
      have i1 : (k : Int) < (n : Int) := by omega
      clear hx hW1 hW2 hT1 hT2
      go_wp2
      go_quiet (fail)
      go_wp2
      go_roundw
      case rel => exact ⟨k + 1, by omega, by go_num, by first | exact ⟨_, rfl⟩ | exact ⟨_, by simp⟩⟩
      case measure => simp [intOf]; omega
    · go_wp2
      go_loopw [6] (fun i wr => ∃ k : Nat, k ≤ m ∧ i = .int .i64 k ∧ ∃ q, wr = V.drewN q) (fun i _ => m - (intOf i).toNat)
      case atStart => exact ⟨0, by omega, rfl, q, rfl⟩
      case round =>
        obtain ⟨j, hj, rfl, q', rfl⟩ := hrel
        by_cases hlt2 : j < m
        · obtain ⟨b1, o1, x, rfl, hx, d1⟩ := hT1.one hlt2
          obtain ⟨b2, o2, y, rfl, hy, d2⟩ := hT2.one hlt2
          rw [hx] at hy
          cases hy
          have i1 : (j : Int) < (m : Int) := by omega
          clear hx hW1 hW2 hT1 hT2
          go_wp2
          go_quiet (fail)
          go_wp2
          go_roundw
          case rel => exact ⟨j + 1, by omega, by go_num, by first | exact ⟨_, rfl⟩ | exact ⟨_, by simp⟩⟩
          case measure => simp [intOf]; omega
        · go_wp2
          go_ret
          exact ⟨rfl, below_drewN' HB.out _⟩
end Go.Proofs.Ytfcfgkhdlpgbdaa
