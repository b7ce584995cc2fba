/- KeepNeeds: the walk. No conditions. -/
import Derived.Test.YtoibbeiieelccaaKeepAwake
namespace Go.Proofs.Ytoibbeiieelccaa
open Go.RowKit
set_option linter.unusedVariables false

theorem ok_take2 {gs : List G} (h : ∀ g ∈ gs, g.ok) (n : Nat) : ∀ g ∈ gs.take n, g.ok := fun g hg => h g (List.mem_of_mem_take hg)

theorem keepNeeds_walk (w : World) (ao : Option Addr) (len cap : Nat) (ol : (Kd.sl gK).ok w [.slice ao len cap]) (ao2 : Option Addr) (len2 cap2 : Nat) (ol2 : (Kd.sl (.int .i64)).ok w [.slice ao2 len2 cap2]) :
    Calls Try.prog 3 #[.slice ao len cap, .slice ao2 len2 cap2] w fun e w' => e = .returned (.bool true) ∧ Below w.heap.size w w' := by
  obtain ⟨gs0, hR0, hgs0⟩ := gens_of ol
  obtain ⟨ws0, hW0, hws0⟩ := ints_of ol2
  clear ol ol2
  by_cases hcut : 60 < len2
  case' pos =>
    obtain ⟨b, off, rfl, hbw, hc⟩ := hW0.cell1 (by omega)
    have hW := hW0.take (m := 60) (by omega)
    have hws : ∀ x ∈ ws0.take 60, (Lit.int .i64 x).wf = true := fun x hx => hws0 x (List.mem_of_mem_take hx)
    obtain ⟨ws, hwse⟩ : ∃ ws, ws = ws0.take 60 := ⟨_, rfl⟩
    rw [← hwse] at hW hws
    have hc60 : (60 : Int) ≤ (cap2 : Int) := by have := hW0.1; omega
    have hc61 : 60 ≤ cap2 := by have := hW0.1; omega
    clear hW0 hws0 hc hwse
    go_enter Try.func3, Try.ntmps3
    go_wp2_with fail
    refine (few_any _ _ _ _ _ hR0).mono ?_
    rintro e w1 ⟨len', rfl, hl60, hR, rfl⟩
    go_wp2_with fail
    obtain ⟨ln, hlne⟩ : ∃ ln : Nat, ln = 60 := ⟨_, rfl⟩
    obtain ⟨aw, hawe⟩ : ∃ aw, aw = some (⟨b, off, none⟩ : Addr) := ⟨_, rfl⟩
    rw [← hlne, ← hawe] at hW
    rw [← hlne, ← hawe]
    have hn2 : ln ≤ 60 := by omega
    clear hlne hawe hbw hc60 hc61 hcut
  case' neg =>
    obtain ⟨ws, rfl⟩ : ∃ ws, ws = ws0 := ⟨_, rfl⟩
    obtain ⟨ln, rfl⟩ : ∃ ln, ln = len2 := ⟨_, rfl⟩
    obtain ⟨aw, rfl⟩ : ∃ aw, aw = ao2 := ⟨_, rfl⟩
    have hW := hW0
    have hws := hws0
    have hn2 : ln ≤ 60 := by omega
    clear hW0 hws0
    go_enter Try.func3, Try.ntmps3
    go_wp2_with fail
    refine (few_any _ _ _ _ _ hR0).mono ?_
    rintro e w1 ⟨len', rfl, hl60, hR, rfl⟩
    go_wp2_with fail
    clear hcut
  all_goals
    have hgs := ok_take2 hgs0 len'
    obtain ⟨gs, hgse⟩ : ∃ gs, gs = gs0.take len' := ⟨_, rfl⟩
    rw [← hgse] at hR hgs
    clear hR0 hgs0 hgse
    refine (need_any _ _ _ _ _ hR hgs (by omega) _ _ _ _ hW hws (by omega)).mono ?_
    rintro e w1 ⟨v1, rfl, hO1, hB1⟩
    have hR1 := hR.next hB1
    have hW1 := hW.next hB1
    obtain ⟨E, hE⟩ : ∃ E, E = needE gs ws := ⟨_, rfl⟩
    have HE := Lib.hid hE
    rw [← hE]
    clear hE
    go_wp2_with fail
    refine (refNeed_any _ _ _ _ _ hR1 (by omega) _ _ _ _ hW1 (by omega)).mono ?_
    rintro e w2 ⟨v2, rfl, hO2, hB2⟩
    have hO3 := owns_below hO1 hB2
    have hb2 := below_via hB1 hB2
    have hlen : (needR gs ws).length ≤ 1000000000 := by
      unfold needR
      split
      · have := needG_len gs ws
        have := hR.2.2.1
        omega
      · simp
    rw [← HE.out]
    clear hO1 hR1 hW1 hB1 hB2
    go_wp2_with fail
    refine (ints_true _ _ _ _ hlen hO3 hO2).mono ?_
    rintro e w3 ⟨rfl, hB3⟩
    have hb3 := below_via hb2 hB3
    clear hO3 hO2 hB3 hb2
    go_wp2_with fail
    refine (awake_any _).mono ?_
    rintro e w4 ⟨rfl, hB4⟩
    have hb4 := below_via hb3 hB4
    go_wp2
    go_ret
    exact ⟨rfl, hb4⟩
end Go.Proofs.Ytoibbeiieelccaa
