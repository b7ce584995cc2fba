/- MsgRights, walked: which messages may be. No conditions. -/
import Derived.Test.YtlcpnpoleaanmaaMsgBytes
import Derived.Test.YtlcpnpoleaanmaaMsgRefRight
import Derived.Test.YtlcpnpoleaanmaaMsgFew
import Derived.Test.YtlcpnpoleaanmaaMsgArgs
namespace Go.Proofs.Ytlcpnpoleaanmaa
open Go.RowKit
set_option linter.unusedVariables false

theorem right_is (w : World) (m : Mg) (ao : Option Addr) (n cap : Nat) (hR : Rs w ao n cap 3 m.list enC) (hm : n ≤ maxLen) (b : Bool) (hb : Hid (b = true ↔ rightM m)) :
    Calls Try.prog 12 #[.agg #[.int .i64 m.kind, .int .i64 m.src, .int .i64 m.dst, .int .i64 m.ballot, .int .i64 m.gen, .int .i64 m.basis, .int .i64 m.floor, .int .i64 m.top, .int .i64 m.read, .string m.mark, .int .i64 m.pat, .int .i64 m.pof, .string m.ptext, .slice ao n cap]] w fun e w' => e = .returned (.bool b) ∧ Below w.heap.size w w' := by
  refine (right_any w m ao n cap hR hm).mono ?_
  rintro e w' ⟨⟨r, rfl, hr⟩, hb2⟩
  have : r = b := by rw [Bool.eq_iff_iff, hr, hb.out]
  rw [this]; exact ⟨rfl, hb2⟩
theorem rright_is (w : World) (m : Mg) (ao : Option Addr) (n cap : Nat) (hR : Rs w ao n cap 3 m.list enC) (hm : n ≤ maxLen) (b : Bool) (hb : Hid (b = true ↔ rightM m)) :
    Calls Try.prog 13 #[.agg #[.int .i64 m.kind, .int .i64 m.src, .int .i64 m.dst, .int .i64 m.ballot, .int .i64 m.gen, .int .i64 m.basis, .int .i64 m.floor, .int .i64 m.top, .int .i64 m.read, .string m.mark, .int .i64 m.pat, .int .i64 m.pof, .string m.ptext, .slice ao n cap]] w fun e w' => e = .returned (.bool b) ∧ Below w.heap.size w w' := by
  refine (rright_any w m ao n cap hR hm).mono ?_
  rintro e w' ⟨⟨r, rfl, hr⟩, hb2⟩
  have : r = b := by rw [Bool.eq_iff_iff, hr, hb.out]
  rw [this]; exact ⟨rfl, hb2⟩
theorem bool_of (P : Prop) : ∃ b : Bool, b = true ↔ P := by
  rcases Classical.em P with h | h
  · exact ⟨true, fun _ => h, fun _ => rfl⟩
  · exact ⟨false, (fun h => by cases h), fun h2 => absurd h2 h⟩

set_option maxRecDepth 100000 in
set_option maxHeartbeats 8000000 in
theorem msgRights_walk (w : World) (c0 : Array Value) (o0 : mgK.ok w c0.toList) :
    Calls Try.prog 3 #[.agg c0] w fun e w' => e = .returned (.bool true) ∧ Below w.heap.size w w' := by
  obtain ⟨m, ao, n, cap, hcs, hR, hok⟩ := mg_of o0
  obtain rfl : c0 = (mgC m (.slice ao n cap)).toArray := by rw [← hcs]
  clear hcs o0 hok
  obtain ⟨V, hV⟩ : ∃ V, V = w.alloc (.cells (mgC m (.slice ao n cap)).toArray 26) := ⟨_, rfl⟩
  obtain ⟨p1, hp1⟩ : ∃ p, p = w.heap.size := ⟨_, rfl⟩
  have hG : Blk V p1 (mgC m (.slice ao n cap)) 26 := by rw [hV, hp1]; exact Blk.new _ _ _
  have hB : Below w.heap.size w V := by rw [hV]; exact below_alloc' _ _
  have hwp : w.heap.size ≤ p1 := by omega
  obtain ⟨c0, c1, c2, c3, c4, c5, c6, c7, c8, c9, c10, c11, c12, c13⟩ := mg_cells hG
  have HRW : Hid (∀ W, Below w.heap.size w W → Rs W ao n cap 3 m.list enC) := Lib.hid (fun W h => hR.below h (Nat.le_refl _))
  unfold mgC at hV ⊢
  have HV := Lib.hid hV
  have HP1 := Lib.hid hp1
  have HB := Lib.hid hB
  have HG := Lib.hid hG
  clear hV hp1 hB hG hR
  go_enter Try.func3, Try.ntmps3
  go_upto_region 1 with fail
  rw [← HP1.out, ← HV.out]
  go_cut [] (fun wx => Blk wx p1 (mgC (fewM m) (.slice ao (cut80 n) cap)) 26 ∧ Below w.heap.size w wx)
  case first =>
    go_wp2_with fail
    refine (few_any V m ao n cap (HRW.out _ HB.out)).mono ?_
    rintro e w4 ⟨rfl, hb4⟩
    have hG4 := HG.out.below hb4 HG.out.lt
    have HB4 := Lib.hid (below_then' HB.out hb4)
    have HG4 := Lib.hid hG4
    clear c0 c1 c2 c3 c4 c5 c6 c7 c8 c9 c10 c11 c12 c13 hb4
    obtain ⟨c0, c1, c2, c3, c4, c5, c6, c7, c8, c9, c10, c11, c12, c13⟩ := mg_cells hG4
    have hf := hG4.frozen
    clear hG4
    unfold mgC
    go_wp2
    go_meet
    case rel => exact ⟨Blk.sets (m := fewM m) (v := .slice ao (cut80 n) cap) _ _ _ _ _ _ _ _ _ _ _ _ _ _ HG4.out, set14 HB4.out hwp _ _ _ _ _ _ _ _ _ _ _ _ _ _⟩
  case rest =>
    obtain ⟨hG, hB⟩ := hcut
    clear c0 c1 c2 c3 c4 c5 c6 c7 c8 c9 c10 c11 c12 c13
    obtain ⟨M, hM⟩ : ∃ M, M = fewM m := ⟨_, rfl⟩
    obtain ⟨N, hN⟩ : ∃ N, N = cut80 n := ⟨_, rfl⟩
    have hRM : ∀ W, Below w.heap.size w W → Rs W ao N cap 3 M.list enC := fun W h => by rw [hM, hN]; exact few_rows (HRW.out W h)
    have hN80 : N ≤ maxLen := by rw [hN]; have := (cut80_le n).2; unfold maxLen; omega
    rw [← hM, ← hN] at hG
    obtain ⟨b, hb⟩ := bool_of (rightM M)
    have HB1 := Lib.hid hb
    have HRM := Lib.hid hRM
    obtain ⟨c0, c1, c2, c3, c4, c5, c6, c7, c8, c9, c10, c11, c12, c13⟩ := mg_cells hG
    have H : ∀ w1 w2 : World, Blk w1 p1 (mgC M (.slice ao N cap)) 26 → Below w1.heap.size w1 w2 → Blk w2 p1 (mgC M (.slice ao N cap)) 26 := fun w1 w2 h hb => h.below hb h.lt
    have hH : Blk wc.drew p1 (mgC M (.slice ao N cap)) 26 := hG
    have hbw : Below w.heap.size w wc.drew := below_drewN' hB 1
    clear hM hN hRM hG hB hb
    go_wp2_with fail
    go_region_held3 (fun w' => w'.cell? ⟨p1, 0, none⟩ = some (.int .i64 M.kind) ∧ w'.cell? ⟨p1, 1, none⟩ = some (.int .i64 M.src) ∧ w'.cell? ⟨p1, 2, none⟩ = some (.int .i64 M.dst) ∧ w'.cell? ⟨p1, 3, none⟩ = some (.int .i64 M.ballot) ∧ w'.cell? ⟨p1, 4, none⟩ = some (.int .i64 M.gen) ∧ w'.cell? ⟨p1, 5, none⟩ = some (.int .i64 M.basis) ∧ w'.cell? ⟨p1, 6, none⟩ = some (.int .i64 M.floor) ∧ w'.cell? ⟨p1, 7, none⟩ = some (.int .i64 M.top) ∧ w'.cell? ⟨p1, 8, none⟩ = some (.int .i64 M.read) ∧ w'.cell? ⟨p1, 9, none⟩ = some (.string M.mark) ∧ w'.cell? ⟨p1, 10, none⟩ = some (.int .i64 M.pat) ∧ w'.cell? ⟨p1, 11, none⟩ = some (.int .i64 M.pof) ∧ w'.cell? ⟨p1, 12, none⟩ = some (.string M.ptext) ∧ w'.cell? ⟨p1, 13, none⟩ = some (.slice ao N cap))
      (first | go_keep | exact mg_cells (by assumption))
      (first
        | (go_at_call 12; ((with_reducible refine (right_is _ M ao N cap (HRM.out _ (by assumption)) hN80 b HB1).mono ?_)); rintro e w4 ⟨rfl, hb4⟩; replace hH := H _ _ (by assumption) hb4; replace hbw := below_then' (by assumption : Below w.heap.size w _) hb4; clear hb4)
        | (go_at_call 13; ((with_reducible refine (rright_is _ M ao N cap (HRM.out _ (by assumption)) hN80 b HB1).mono ?_)); rintro e w4 ⟨rfl, hb4⟩; replace hH := H _ _ (by assumption) hb4; replace hbw := below_then' (by assumption : Below w.heap.size w _) hb4; clear hb4)
        | (go_at_call 14; ((with_reducible refine (awake_any _).mono ?_)); rintro e w4 ⟨rfl, hb4⟩; replace hH := H _ _ (by assumption) hb4; replace hbw := below_then' (by assumption : Below w.heap.size w _) hb4; clear hb4))
    all_goals
      go_wp2
      go_ret
      exact ⟨rfl, hbw⟩
end Go.Proofs.Ytlcpnpoleaanmaa
