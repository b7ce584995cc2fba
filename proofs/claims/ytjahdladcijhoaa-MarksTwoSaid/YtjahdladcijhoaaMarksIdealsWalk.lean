/- MarksIdeals: the walk. No conditions. -/
import Derived.Test.YtjahdladcijhoaaMarksStep
namespace Go.Proofs.Ytjahdladcijhoaa
open Go.RowKit
set_option linter.unusedVariables false

theorem refZ_run (w : World) : (zeroValue 33).run Try.prog w = .ok (.agg #[.bool false, .slice none 0 0]) w := by kernel_rfl
theorem refB_new (w : World) : RefB (w.alloc (.cells #[.bool false, .slice none 0 0] 33)) w.heap.size (.slice none 0 0) [] :=
  ⟨Blk.new w _ _, [], rfl, World.ownsRow_nil _ _ _ _⟩
theorem ready_ideal (w : World) (p m : Nat) (seen : List (List UInt8)) (h : BookI w p m seen) :
    Calls Try.prog 17 #[.pointer (some ⟨p, 0, none⟩)] w fun e w' => e = .returned (.bool true) ∧ w = w' := by
  have hI := Lib.hid h
  clear h
  go_enter Try.func17, Try.ntmps17
  go_wp2_with fail
  refine (none_ideal _ _ _ _ hI.out).mono ?_
  rintro e w' ⟨rfl, rfl⟩
  go_wp2
  go_ret
  exact ⟨rfl, rfl⟩

theorem rs_cell4 {w : World} {ao : Option Addr} {len cap : Nat} {os : List OpV} (h : Rs w ao len cap 4 os OpV.c) (h0 : 0 < len) :
    ∃ b off, ao = some ⟨b, off, none⟩ ∧ b < w.heap.size ∧ ∀ k, (hk : k < os.length) → w.cell? ⟨b, off + k * 4, none⟩ = some (.int .i64 os[k].kind) ∧ w.cell? ⟨b, off + k * 4 + 1, none⟩ = some (.int .i64 os[k].n) ∧ w.cell? ⟨b, off + k * 4 + 2, none⟩ = some (.string os[k].text) ∧ w.cell? ⟨b, off + k * 4 + 3, none⟩ = some (.string os[k].mark) := by
  obtain ⟨_, _, _, h4⟩ := h
  obtain ⟨b, off, e, hb, hc⟩ := h4 h0
  refine ⟨b, off, e, hb, fun k hk => ⟨?_, ?_, ?_, ?_⟩⟩
  · simpa using hc k hk 0 _ rfl
  · simpa [Nat.add_assoc] using hc k hk 1 _ rfl
  · simpa [Nat.add_assoc] using hc k hk 2 _ rfl
  · simpa [Nat.add_assoc] using hc k hk 3 _ rfl

set_option maxHeartbeats 1000000 in
theorem marksIdeals_walk (w : World) (ao : Option Addr) (len cap : Nat) (ol : (Kd.sl opK).ok w [.slice ao len cap]) :
    Calls Try.prog 7 #[.slice ao len cap] w fun e w' => e = .returned (.bool true) ∧ Below w.heap.size w w' := by
  obtain ⟨os, hR, hos⟩ := ops_of ol
  clear ol
  have hlen := hR.2.2.1
  have HL := Lib.hid hlen
  clear hlen
  have hz := refZ_run
  go_enter Try.func7, Try.ntmps7
  go_wp2_with fail
  refine (ideal_any _).mono ?_
  rintro e w1 ⟨rfl, hI, hB⟩
  have hl1 := hI.2.2.2.2.1.1
  have hT : Two (w1.alloc (.cells #[.bool false, .slice none 0 0] 33)) (w.heap.size + 1) w.heap.size w1.heap.size (.slice none 0 0) [] :=
    ⟨hI.next (below_alloc _ _), refB_new w1, by omega, by omega, by simp [Value.ownBlock], by simp [Value.ownBlock]⟩
  have hB1 : Below w.heap.size w (w1.alloc (.cells #[.bool false, .slice none 0 0] 33)) := hB.alloc (by omega) _
  have hs1 : w.heap.size ≤ w1.heap.size := by omega
  clear hI hB
  go_wp2
  obtain ⟨q, hq⟩ : ∃ q, q = w1.heap.size := ⟨_, rfl⟩
  rw [← hq] at hT hs1
  rw [← hq]
  clear hl1
  go_loopw [5] (fun i wr => ∃ (k : Nat) (v : Value) (seen : List (List UInt8)), k ≤ len ∧ k ≤ 80 ∧ i = .int .i64 k ∧ Two wr (w.heap.size + 1) w.heap.size q v seen ∧ seen.length ≤ k ∧ Below w.heap.size w wr ∧ (∀ j, v.ownBlock = some j → w.heap.size ≤ j)) (fun i _ => 80 - (intOf i).toNat)
  case atStart => exact ⟨0, _, _, by omega, by omega, rfl, hT, by simp, hB1, by simp [Value.ownBlock]⟩
  case round =>
    clear hT hB1 hq
    obtain ⟨k, v, seen, hk, hk80, rfl, hT, hsn, hB, hv⟩ := hrel
    have HT := Lib.hid hT
    have HV := Lib.hid hv
    clear hT hv
    by_cases hlt : k < len ∧ k < 80
    · obtain ⟨h1, h2⟩ := hlt
      obtain ⟨b, off, rfl, hbw, hc⟩ := rs_cell4 hR (by omega)
      have hks : k < os.length := by rw [HL.out]; exact h1
      obtain ⟨c0, c1, c2, c3⟩ := hc k hks
      have hok := hos _ (List.getElem_mem hks)
      obtain ⟨o, ho⟩ : ∃ o, o = os[k] := ⟨_, rfl⟩
      rw [← ho] at c0 c1 c2 c3 hok
      obtain ⟨kd, n, t, mk⟩ := o
      have HO := Lib.hid hok
      clear ho hok hc hos hR
      have d0 := (hB.cell (p := ⟨b, off + k * 4, none⟩) hbw).trans c0
      have d1 := (hB.cell (p := ⟨b, off + k * 4 + 1, none⟩) hbw).trans c1
      have d2 := (hB.cell (p := ⟨b, off + k * 4 + 2, none⟩) hbw).trans c2
      have d3 := (hB.cell (p := ⟨b, off + k * 4 + 3, none⟩) hbw).trans c3
      dsimp only at d0 d1 d2 d3
      clear c0 c1 c2 c3 hks
      go_wp2_with fail
      refine (step_any _ _ _ _ _ _ _ _ _ _ HT.out (by omega) HO.out.1 HO.out.2.1 HO.out.2.2.1 HO.out.2.2.2).mono ?_
      rintro e w2 ⟨seen', v', rfl, hT2, hsn2, hK2, hv2⟩
      have hB2 : Below w.heap.size w w2 := hK2.below hB hB.size (by
        rintro j hj (e | e | e)
        · omega
        · omega
        · have := HV.out _ e; omega)
      have hv3 : ∀ j, v'.ownBlock = some j → w.heap.size ≤ j := fun j hj => (hv2 j hj).elim (HV.out j) (fun h => Nat.le_trans hB.size h)
      clear hB hK2 hv2 d0 d1 d2 d3
      go_wp2
      go_roundw
      case rel => exact ⟨k + 1, v', seen', by omega, by omega, by go_num, hT2, by omega, hB2, hv3⟩
      case measure => simp [intOf]; omega
    · by_cases h1 : k < len
      · have h2 : ¬ k < 80 := fun h => hlt ⟨h1, h⟩
        clear hlt
        go_wp2_with fail
        refine (ready_ideal _ _ _ _ HT.out.1).mono ?_
        rintro e w2 ⟨rfl, rfl⟩
        go_wp2_with fail
        refine (awake_any _).mono ?_
        rintro e w3 ⟨rfl, hb3⟩
        have hB3 : Below w.heap.size w w3 := hB.trans (hb3.mono hB.size)
        go_wp2
        go_ret
        exact ⟨rfl, hB3⟩
      · clear hlt
        go_wp2_with fail
        refine (ready_ideal _ _ _ _ HT.out.1).mono ?_
        rintro e w2 ⟨rfl, rfl⟩
        go_wp2_with fail
        refine (awake_any _).mono ?_
        rintro e w3 ⟨rfl, hb3⟩
        have hB3 : Below w.heap.size w w3 := hB.trans (hb3.mono hB.size)
        go_wp2
        go_ret
        exact ⟨rfl, hB3⟩
end Go.Proofs.Ytjahdladcijhoaa
