/- MarksAsks: the walk. No conditions. -/
import Derived.Test.YtjahdladcijhoaaMarksAwake
import Derived.Test.YtjahdladcijhoaaArgs
namespace Go.Proofs.Ytjahdladcijhoaa
open Go.RowKit
set_option linter.unusedVariables false

theorem marksAsks_walk (w : World) (ao : Option Addr) (len cap : Nat) (ol : (Kd.sl .str).ok w [.slice ao len cap]) (mk : ByteArray) (hmk : mk.size ≤ 140737488351232) :
    Calls Try.prog 6 #[.slice ao len cap, .string mk] w fun e w' => e = .returned (.bool true) ∧ Below w.heap.size w w' := by
  obtain ⟨ss, hR, hss⟩ := strs_of ol
  clear ol
  have hlen := hR.2.2.1
  have HL := Lib.hid hlen
  clear hlen
  go_enter Try.func6, Try.ntmps6
  go_wp2_with fail
  refine (ideal_any _).mono ?_
  rintro e w1 ⟨rfl, hI, hB⟩
  go_wp2_with fail
  refine (mark_as hI (by decide) (by decide) 1 [[102, 105, 114, 115, 116]] rfl rfl).mono ?_
  rintro e w2 ⟨rfl, hI2, hg2⟩
  have hB2 := book_step (p := 0) hB (Nat.le_refl _) hg2
  clear hI hB hg2
  go_wp2
  go_loopw [6] (fun i wr => ∃ k : Nat, k ≤ len ∧ k ≤ 40 ∧ i = .int .i64 k ∧ BookI wr (w.heap.size + 1) w.heap.size [[102, 105, 114, 115, 116]] ∧ Below w.heap.size w wr) (fun i _ => len - (intOf i).toNat)
  case atStart => exact ⟨0, by omega, by omega, rfl, hI2, hB2⟩
  case round =>
    clear hI2 hB2
    obtain ⟨k, hk, hk40, rfl, hI, hB⟩ := hrel
    by_cases hk2 : k < len ∧ k < 40
    · obtain ⟨hlt, hlt4⟩ := hk2
      obtain ⟨b, off, rfl, hbw, hc⟩ := hR.cell1 (by omega)
      have hks : k < ss.length := by rw [HL.out]; exact hlt
      have hcell := (hB.cell (p := ⟨b, off + k, none⟩) hbw).trans (hc k hks _ rfl)
      have hsz := hss _ (List.getElem_mem hks)
      have HSZ := Lib.hid hsz
      clear hR hss hc hsz
      go_wp2_with fail
      refine (is_ideal _ _ _ _ _ _ hI HSZ.out (by decide)).mono ?_
      rintro e w4 ⟨rfl, hb4⟩
      have hI4 := hI.next hb4
      have hB4 : Below w.heap.size w w4 := hB.trans (hb4.mono hB.size)
      clear hI hB hb4 hcell
      go_wp2
      go_roundw
      case rel => exact ⟨k + 1, by omega, by omega, by go_num, hI4, hB4⟩
      case measure => simp [intOf]; omega
    · by_cases hlt : k < len
      all_goals
        go_wp2_with fail
        refine (mark_as hI (by decide) (by decide) 2 [[102, 105, 114, 115, 116], [115, 101, 99, 111, 110, 100]] rfl rfl).mono ?_
        rintro e w4 ⟨rfl, hI4, hg4⟩
        have hB4 := book_step (p := 0) hB (Nat.le_refl _) hg4
        clear hI hB hg4
        go_wp2_with fail
        refine (refNumber_any 2 _ (by decide)).mono ?_
        rintro e w5 ⟨rfl, hb5⟩
        have hB5 : Below w.heap.size w w5 := hB4.trans (hb5.mono hB4.size)
        clear hI4 hB4 hb5
        go_wp2_with fail
        refine (awake_any _).mono ?_
        rintro e w6 ⟨rfl, hb6⟩
        have hB6 : Below w.heap.size w w6 := hB5.trans (hb6.mono hB5.size)
        clear hB5 hb6
        go_wp2
        go_ret
        exact ⟨rfl, hB6⟩
end Go.Proofs.Ytjahdladcijhoaa
