/- The reference's in, Need, Ints; few; Floor. Conditions: as named in each theorem. -/
import Derived.Test.YtoibbeiieelccaaKeepNeed
namespace Go.Proofs.Ytoibbeiieelccaa
open Go.RowKit
set_option linter.unusedVariables false

theorem in_any (w : World) (ao : Option Addr) (len cap : Nat) (ws : List Int) (g : Int) (R : Bool) (hW : Rs w ao len cap 1 ws intC) (hn : len ≤ 1000000) (hr : R = decide (g ∈ ws)) :
    Calls Try.prog 31 #[.slice ao len cap, .int .i64 g] w fun e w' => e = .returned (.bool R) ∧ w = w' := by
  have HL := Lib.hid hW.2.2.1
  have HR := Lib.hid hr
  clear hr
  go_enter Try.func31, Try.ntmps31
  go_wp2
  go_loopw [5] (fun i wr => ∃ k : Nat, k ≤ len ∧ i = .int .i64 k ∧ g ∉ ws.take k ∧ w = wr) (fun i _ => len - (intOf i).toNat)
  case atStart => exact ⟨0, by omega, rfl, by simp, rfl⟩
  case round =>
    obtain ⟨k, hk, rfl, hni, rfl⟩ := hrel
    have HNI := Lib.hid hni
    clear hni
    by_cases hlt : k < len
    · obtain ⟨b, off, rfl, hbw, hc⟩ := hW.cell1 (by omega)
      have hks : k < ws.length := by rw [HL.out]; exact hlt
      have c0 := hc k hks _ rfl
      have HM : Hid (ws[k] ∈ ws) := Lib.hid (List.getElem_mem hks)
      have htk := List.take_succ_eq_append_getElem hks
      obtain ⟨x, hx⟩ : ∃ x, x = ws[k] := ⟨_, rfl⟩
      rw [← hx] at c0 htk HM
      have HT := Lib.hid htk
      clear hx hc hW htk hks
      by_cases he : x = g
      · have hR1 : R = true := by rw [HR.out, ← he]; simpa using HM.out
        subst hR1
        subst he
        go_wp2
        go_ret
        exact ⟨rfl, rfl⟩
      · have HE := Lib.hid he
        go_wp2
        go_roundw
        case rel => exact ⟨k + 1, by omega, by go_num, by rw [HT.out]; simp only [List.mem_append, List.mem_singleton, not_or]; exact ⟨HNI.out, fun e => HE.out e.symm⟩, by simp⟩
        case measure => simp [intOf]; omega
    · have hkk : ws.take k = ws := List.take_of_length_le (by rw [HL.out]; omega)
      have h2 := HNI.out
      rw [hkk] at h2
      have hR0 : R = false := by rw [HR.out]; simpa using h2
      subst hR0
      clear hkk h2
      go_wp2
      go_ret
      exact ⟨rfl, rfl⟩

set_option maxRecDepth 100000 in
set_option maxHeartbeats 4000000 in
theorem refNeed_any (w : World) (ao : Option Addr) (len cap : Nat) (gs : List G) (hR : Rs w ao len cap 4 gs G.c) (hn : len ≤ 4096)
    (ao2 : Option Addr) (len2 cap2 : Nat) (ws : List Int) (hW : Rs w ao2 len2 cap2 1 ws intC) (hn2 : len2 ≤ 4096) :
    Calls Try.prog 12 #[.slice ao len cap, .slice ao2 len2 cap2] w fun e w' => ∃ v, e = .returned (.tuple #[v, .int .i64 (needE gs ws)]) ∧ w'.ownsRow w.heap.size 3 1 v (needR gs ws).length (intV (needR gs ws)) ∧ Below w.heap.size w w' := by
  obtain ⟨i0, hi, hz0, hz1, hz2⟩ := info_parts infoInt
  obtain ⟨E, hE⟩ : ∃ E, E = needE gs ws := ⟨_, rfl⟩
  obtain ⟨L, hL⟩ : ∃ L, L = needR gs ws := ⟨_, rfl⟩
  rw [← hE, ← hL]
  have HE := Lib.hid hE
  have HL := Lib.hid hL
  clear hE hL
  have HLEN := Lib.hid hR.2.2.1
  have HLEN2 := Lib.hid hW.2.2.1
  by_cases hc : chk gs = 0
  · have HC := Lib.hid hc
    clear hc
    go_enter Try.func12, Try.ntmps12
    go_wp2_with fail
    refine (refCheck_any _ _ _ _ _ hR hn).mono ?_
    rintro e w1 ⟨rfl, q, hw1⟩
    rw [HC.out]
    have hb1 : Below w.heap.size w w1 := by rw [hw1]; exact below_drewN' (Below.refl _ _) _
    clear hw1
    go_wp2
    go_loopw [7] (fun i wr => ∃ k : Nat, k ≤ len2 ∧ i = .int .i64 k ∧ (∀ x ∈ ws.take k, x ∈ gl gs) ∧ Below w.heap.size w wr) (fun i _ => len2 - (intOf i).toNat)
    case atStart => exact ⟨0, by omega, rfl, by simp, hb1⟩
    case round =>
      clear hb1
      obtain ⟨k, hk, rfl, hin, hB⟩ := hrel
      have HIN := Lib.hid hin
      clear hin
      by_cases hlt : k < len2
      · have hks : k < ws.length := by rw [HLEN2.out]; exact hlt
        obtain ⟨b, off, rfl, hbw, hcc⟩ := hW.cell1 (by omega)
        have c0 := (hB.cell (p := ⟨b, off + k, none⟩) hbw).trans (hcc k hks _ rfl)
        have htk := List.take_succ_eq_append_getElem hks
        obtain ⟨x, hx⟩ : ∃ x, x = ws[k] := ⟨_, rfl⟩
        rw [← hx] at c0 htk
        have HX : Hid (x ∈ ws) := Lib.hid (by rw [hx]; exact List.getElem_mem hks)
        have HT := Lib.hid htk
        clear hcc htk hx hks
        by_cases hxin : x ∈ gl gs
        · have hat := atZ_in hxin
          obtain ⟨A, hA⟩ : ∃ A, A = idx gs x := ⟨_, rfl⟩
          rw [← hA] at hat
          have HAT := Lib.hid hat
          have HXI := Lib.hid hxin
          clear hat hxin hA
          go_wp2_with fail
          refine (at_z _ _ _ _ _ _ _ (hR.below hB (Nat.le_refl _)) (by omega) HAT.out.symm).mono ?_
          rintro e w2 ⟨rfl, rfl⟩
          go_wp2
          go_roundw
          case rel => exact ⟨k + 1, by omega, by go_num, by rw [HT.out]; intro y hy; rcases List.mem_append.1 hy with h | h; exact HIN.out y h; rw [List.mem_singleton.1 h]; exact HXI.out, hB⟩
          case measure => simp [intOf]; omega
        · have hE8 : E = 8 := by rw [HE.out, needE, if_neg (by simp [HC.out]), if_pos ⟨x, HX.out, hxin⟩]
          have hL0 : L = [] := by rw [HL.out, needR, if_neg (by rw [← HE.out, hE8]; decide)]
          have hat := atZ_none hxin
          have HAT := Lib.hid hat
          clear hat hxin HL HE
          subst hE8 hL0
          go_wp2_with fail
          refine (at_z _ _ _ _ _ _ _ (hR.below hB (Nat.le_refl _)) (by omega) HAT.out.symm).mono ?_
          rintro e w2 ⟨rfl, rfl⟩
          go_wp2
          go_ret2
          exact ⟨_, rfl, World.ownsRow_nil _ _ _ _, hB⟩
      · have htk : ws.take k = ws := List.take_of_length_le (by rw [HLEN2.out]; omega)
        have hin := HIN.out
        rw [htk] at hin
        have hE0 : E = 0 := by rw [HE.out, needE, if_neg (by simp [HC.out]), if_neg (by rintro ⟨x, h1, h2⟩; exact h2 (hin x h1))]
        have hLL : L = needG gs ws := by rw [HL.out, needR, if_pos (by rw [← HE.out, hE0])]
        have HLL := Lib.hid hLL
        clear HE HL hLL hin htk HIN
        subst hE0
        go_wp2
        go_loopw [8, 9] (fun v i wr => ∃ k : Nat, k ≤ len ∧ i = .int .i64 k ∧ wr.ownsRow w.heap.size 3 1 v (needG (gs.take k) ws).length (intV (needG (gs.take k) ws)) ∧ Below w.heap.size w wr) (fun _ i _ => len - (intOf i).toNat)
        case atStart => exact ⟨0, by omega, rfl, by simpa [needG, intV] using World.ownsRow_nil _ _ _ _, hB⟩
        case round =>
          clear hB
          obtain ⟨k, hk, rfl, hO, hB⟩ := hrel
          have hS := hB.size
          by_cases hlt : k < len
          · obtain ⟨b, off, rfl, hbw, hcc⟩ := rs_g hR (by omega)
            have hks : k < gs.length := by rw [HLEN.out]; exact hlt
            obtain ⟨c0, c1, -, -⟩ := hcc k hks
            have hsucc := needG_succ gs ws k hks
            have hnl := Nat.le_trans (needG_len (gs.take k) ws) (List.length_take_le k gs)
            obtain ⟨x, hx⟩ : ∃ x, x = gs[k] := ⟨_, rfl⟩
            rw [← hx] at c0 c1 hsucc
            have d0 := (hB.cell (p := ⟨b, off + k * 4, none⟩) hbw).trans c0
            have d1 := (hB.cell (p := ⟨b, off + k * 4 + 1, none⟩) hbw).trans c1
            have HSU := Lib.hid hsucc
            have HWR := Lib.hid (hW.below hB (Nat.le_refl _))
            clear c0 c1 hcc hx hsucc hks
            by_cases hg : x.gen ∈ ws
            · have HG := Lib.hid hg
              by_cases hb : x.basis ∈ ws
              · have HBS := Lib.hid hb
                have hsu : needG (gs.take (k + 1)) ws = needG (gs.take k) ws := by rw [HSU.out, if_neg (by simp [hb])]
                have HSU2 := Lib.hid hsu
                clear hg hb hsu
                go_wp2_with fail
                refine (in_any _ _ _ _ _ _ true HWR.out (by omega) (by simp [HG.out])).mono ?_
                rintro e w2 ⟨rfl, rfl⟩
                go_wp2_with fail
                refine (in_any _ _ _ _ _ _ true HWR.out (by omega) (by simp [HBS.out])).mono ?_
                rintro e w2 ⟨rfl, rfl⟩
                go_wp2
                go_roundw
                case rel => exact ⟨k + 1, by omega, by go_num, by rw [HSU2.out]; exact hO, hB⟩
                case measure => simp [intOf]; omega
              · have HBS := Lib.hid hb
                have hsu : needG (gs.take (k + 1)) ws = needG (gs.take k) ws ++ [x.gen] := by rw [HSU.out, if_pos ⟨hg, hb⟩]
                have HSU2 := Lib.hid hsu
                obtain ⟨A, hA⟩ : ∃ A, A = needG (gs.take k) ws := ⟨_, rfl⟩
                rw [← hA] at hO hnl HSU2
                clear hg hb hsu hA
                go_wp2_with fail
                refine (in_any _ _ _ _ _ _ true HWR.out (by omega) (by simp [HG.out])).mono ?_
                rintro e w2 ⟨rfl, rfl⟩
                go_wp2_with fail
                refine (in_any _ _ _ _ _ _ false HWR.out (by omega) (by simp [HBS.out])).mono ?_
                rintro e w2 ⟨rfl, rfl⟩
                go_wp2_with (at_builtin; refine wpList_append_own _ rfl _ _ 23 rfl w.heap.size 3 i0 (.int .i64 0) 1 8 Try.underlying23 hi hz0 hz1 hz2 rfl (by decide) _ _ _ rfl (hO.alloc _) ⟨wr.heap.size, 0, none⟩ 1 1 [.int .i64 x.gen] rfl rfl (cell1_new _ _ _) (one1 _ rfl) (by unfold maxLen; omega) (by omega) (by simp; omega) ?_)
                intro v' w5 hO5 hg5 _
                have hO6 : w5.ownsRow w.heap.size 3 1 v' (needG (gs.take (k + 1)) ws).length (intV (needG (gs.take (k + 1)) ws)) := by
                  rw [HSU2.out, List.length_append]; simpa [intV] using hO5
                have hB6 : Below w.heap.size w w5 := (hB.alloc hS _).grown hg5 (by simp; omega) (fun j hj => (World.ownsRow.lt hO j hj).1)
                clear hO5 hg5 hO hB d0 d1
                go_wp2
                go_roundw
                case rel => exact ⟨k + 1, by omega, by go_num, hO6, hB6⟩
                case measure => simp [intOf]; omega
            · have HG := Lib.hid hg
              have hsu : needG (gs.take (k + 1)) ws = needG (gs.take k) ws := by rw [HSU.out, if_neg (by simp [hg])]
              have HSU2 := Lib.hid hsu
              clear hg hsu
              go_wp2_with fail
              refine (in_any _ _ _ _ _ _ false HWR.out (by omega) (by simp [HG.out])).mono ?_
              rintro e w2 ⟨rfl, rfl⟩
              go_wp2
              go_roundw
              case rel => exact ⟨k + 1, by omega, by go_num, by rw [HSU2.out]; exact hO, hB⟩
              case measure => simp [intOf]; omega
          · have htk : gs.take k = gs := List.take_of_length_le (by rw [HLEN.out]; omega)
            rw [htk, ← HLL.out] at hO
            clear htk
            go_wp2
            go_ret2
            exact ⟨_, rfl, hO, hB⟩
  · have hE0 : E = chk gs := by rw [HE.out, needE, if_pos hc]
    have hne : (E != 0) = true := by rw [hE0]; simpa using hc
    have hL0 : L = [] := by rw [HL.out, needR, if_neg (by rw [← HE.out, hE0]; exact hc)]
    have HE0 := Lib.hid hE0
    clear hE0 HE HL hc
    subst hL0
    go_enter Try.func12, Try.ntmps12
    go_wp2_with fail
    refine (refCheck_any _ _ _ _ _ hR hn).mono ?_
    rintro e w1 ⟨rfl, q, hw1⟩
    rw [← HE0.out]
    have hb1 : Below w.heap.size w w1 := by rw [hw1]; exact below_drewN' (Below.refl _ _) _
    clear hw1
    go_wp2
    go_ret2
    exact ⟨_, rfl, World.ownsRow_nil _ _ _ _, hb1⟩
end Go.Proofs.Ytoibbeiieelccaa
