/- MsgCleans, walked: what is left of any message without the fields that its kind has not. No conditions. -/
import Derived.Test.YtlcpnpoleaanmaaMsgRefClean
import Derived.Test.YtlcpnpoleaanmaaMsgUse
namespace Go.Proofs.Ytlcpnpoleaanmaa
open Go.RowKit
set_option linter.unusedVariables false

theorem same_l1 (w : World) (C : Mg) (a : Option Addr) (n k : Nat) (a' : Option Addr) (n' k' : Nat) (hR : Rs w a n k 3 C.list enC) (hR' : Rs w a' n' k' 3 C.list enC) (hn : n ≤ 1000000000) :
    Calls Try.prog 17 #[.agg #[.int .i64 C.kind, .int .i64 C.src, .int .i64 C.dst, .int .i64 C.ballot, .int .i64 C.gen, .int .i64 C.basis, .int .i64 C.floor, .int .i64 C.top, .int .i64 C.read, .string C.mark, .int .i64 C.pat, .int .i64 C.pof, .string C.ptext, .slice a n k], .agg (mgC C (.slice a' n' k')).toArray] w fun e w' => e = .returned (.bool true) ∧ Below w.heap.size w w' :=
  same_is w C C a n k a' n' k' hR hR' hn true (Lib.hid ⟨fun _ => rfl, fun _ => rfl⟩)
theorem same_l2 (w : World) (C : Mg) (a : Option Addr) (n k : Nat) (a' : Option Addr) (n' k' : Nat) (hR : Rs w a n k 3 C.list enC) (hR' : Rs w a' n' k' 3 C.list enC) (hn : n' ≤ 1000000000) :
    Calls Try.prog 17 #[.agg (mgC C (.slice a' n' k')).toArray, .agg #[.int .i64 C.kind, .int .i64 C.src, .int .i64 C.dst, .int .i64 C.ballot, .int .i64 C.gen, .int .i64 C.basis, .int .i64 C.floor, .int .i64 C.top, .int .i64 C.read, .string C.mark, .int .i64 C.pat, .int .i64 C.pof, .string C.ptext, .slice a n k]] w fun e w' => e = .returned (.bool true) ∧ Below w.heap.size w w' :=
  same_is w C C a' n' k' a n k hR' hR hn true (Lib.hid ⟨fun _ => rfl, fun _ => rfl⟩)
/-- a message handed back, its rows beside it -/
def GiveP (C : Mg) (w : World) (e : Ending) (w' : World) : Prop := ∃ ao n cap, e = .returned (.agg (mgC C (.slice ao n cap)).toArray) ∧ Rs w' ao n cap 3 C.list enC ∧ Below w.heap.size w w'
theorem rclean_n (w : World) (m : Mg) (ao : Option Addr) (n cap : Nat) (hR : Rs w ao n cap 3 m.list enC) (C : Mg) (hC : Hid (cleanM m = C)) :
    Calls Try.prog 21 #[.agg #[.int .i64 m.kind, .int .i64 m.src, .int .i64 m.dst, .int .i64 m.ballot, .int .i64 m.gen, .int .i64 m.basis, .int .i64 m.floor, .int .i64 m.top, .int .i64 m.read, .string m.mark, .int .i64 m.pat, .int .i64 m.pof, .string m.ptext, .slice ao n cap]] w (GiveP C w) := by
  rw [← hC.out]; exact rclean_any w m ao n cap hR
theorem clean_n (w : World) (C : Mg) (a : Option Addr) (n k : Nat) (hR : Rs w a n k 3 C.list enC) (hn : n ≤ 1000) (hC : Hid (cleanM C = C)) :
    Calls Try.prog 20 #[.agg #[.int .i64 C.kind, .int .i64 C.src, .int .i64 C.dst, .int .i64 C.ballot, .int .i64 C.gen, .int .i64 C.basis, .int .i64 C.floor, .int .i64 C.top, .int .i64 C.read, .string C.mark, .int .i64 C.pat, .int .i64 C.pof, .string C.ptext, .slice a n k]] w (GiveP C w) := by
  have := clean_any w C a n k hR hn
  unfold CleanP at this
  rw [hC.out] at this
  exact this

set_option maxRecDepth 100000 in
set_option maxHeartbeats 8000000 in
theorem msgCleans_walk (w : World) (c0 : Array Value) (o0 : mgK.ok w c0.toList) :
    Calls Try.prog 6 #[.agg c0] w fun e w' => e = .returned (.bool true) ∧ Below w.heap.size w w' := by
  obtain ⟨m, ao, n, cap, hcs, hR, hok⟩ := mg_of o0
  obtain rfl : c0 = (mgC m (.slice ao n cap)).toArray := by rw [← hcs]
  clear hcs o0 hok
  obtain ⟨V, hV⟩ : ∃ V, V = w.alloc (.cells (mgC m (.slice ao n cap)).toArray 26) := ⟨_, rfl⟩
  obtain ⟨p1, hp1⟩ : ∃ p, p = w.heap.size := ⟨_, rfl⟩
  have hG : Blk V p1 (mgC m (.slice ao n cap)) 26 := by rw [hV, hp1]; exact Blk.new _ _ _
  have hB : Below w.heap.size w V := by rw [hV]; exact below_alloc' _ _
  have hwp : w.heap.size ≤ p1 := by omega
  have HRW : Hid (∀ W, Below w.heap.size w W → Rs W ao n cap 3 m.list enC) := Lib.hid (fun W h => hR.below h (Nat.le_refl _))
  unfold mgC at hV ⊢
  have HV := Lib.hid hV
  have HP1 := Lib.hid hp1
  have HB := Lib.hid hB
  have HG := Lib.hid hG
  clear hV hp1 hB hG hR
  go_enter Try.func6, Try.ntmps6
  go_upto_region 1 with fail
  rw [← HP1.out, ← HV.out]
  go_cut [] (fun wx => Blk wx p1 (mgC (fewM m) (.slice ao (cut80 n) cap)) 26 ∧ Below w.heap.size w wx)
  case first =>
    go_wp2_with (refine ld_mg HG.out rfl rfl rfl ?_)
    refine (few_any V m ao n cap (HRW.out _ HB.out)).mono ?_
    rintro e w4 ⟨rfl, hb4⟩
    have HB4 := Lib.hid (below_then' HB.out hb4)
    have HG4 := Lib.hid (HG.out.below hb4 HG.out.lt)
    clear hb4
    go_wp2_with (refine st_mg (m := fewM m) (ao := ao) (n := cut80 n) (cap := cap) HG4.out rfl rfl rfl rfl ?_)
    go_meet
    case rel => exact ⟨putM_blk HG4.out, putM_below HB4.out hwp _ _⟩
  case rest =>
    obtain ⟨hG, hB⟩ := hcut
    obtain ⟨M, hM⟩ : ∃ M, M = fewM m := ⟨_, rfl⟩
    obtain ⟨N, hN⟩ : ∃ N, N = cut80 n := ⟨_, rfl⟩
    have hRM : ∀ W, Below w.heap.size w W → Rs W ao N cap 3 M.list enC := fun W h => by rw [hM, hN]; exact few_rows (HRW.out W h)
    have hN80 : N ≤ 1000 := by rw [hN]; have := (cut80_le n).2; omega
    rw [← hM, ← hN] at hG
    obtain ⟨C, hC⟩ : ∃ C, C = cleanM M := ⟨_, rfl⟩
    have HC1 : Hid (cleanM M = C) := Lib.hid hC.symm
    have HC2 : Hid (cleanM C = C) := Lib.hid (by rw [hC]; exact clean_clean M)
    have hlen : C.list.length ≤ N := by
      rw [hC]
      show (if 76 ∈ flds M.kind then M.list else []).length ≤ N
      have := (hRM wc hB).2.2.1
      split
      · omega
      · simp
    have HRM := Lib.hid hRM
    have HG1 := Lib.hid hG
    have HB1 := Lib.hid hB
    clear hM hN hRM hG hB hC
    go_wp2_with (refine ld_mg HG1.out rfl rfl rfl ?_)
    refine (clean_any wc M ao N cap (HRM.out _ HB1.out) hN80).mono ?_
    rintro e w2 ⟨a3, n3, k3, rfl, hR3, hb2⟩
    rw [HC1.out] at hR3
    rw [HC1.out]
    have hn3 : n3 ≤ 1000 := by have := hR3.2.2.1; omega
    obtain ⟨X, hX⟩ : ∃ X, X = w2.alloc (Obj.cells #[.int .i64 C.kind, .int .i64 C.src, .int .i64 C.dst, .int .i64 C.ballot, .int .i64 C.gen, .int .i64 C.basis, .int .i64 C.floor, .int .i64 C.top, .int .i64 C.read, .string C.mark, .int .i64 C.pat, .int .i64 C.pof, .string C.ptext, .slice a3 n3 k3] 26) := ⟨_, rfl⟩
    obtain ⟨p3, hp3⟩ : ∃ p, p = w2.heap.size := ⟨_, rfl⟩
    have hBX : Below w2.heap.size w2 X := by rw [hX]; exact below_alloc' _ _
    have hG3 : Blk X p3 (mgC C (.slice a3 n3 k3)) 26 := by rw [hX, hp3]; exact Blk.new w2 (mgC C (.slice a3 n3 k3)) _
    have hG1 : Blk X p1 (mgC M (.slice ao N cap)) 26 := (HG1.out.below hb2 HG1.out.lt).below hBX (HG1.out.below hb2 HG1.out.lt).lt
    have HXB := Lib.hid (below_then' (below_then' HB1.out hb2) hBX)
    have HR3 := Lib.hid (hR3.below hBX (Nat.le_refl _))
    have HX := Lib.hid hX
    have HP3 := Lib.hid hp3
    have HT := Lib.hid (And.intro hG1 hG3)
    clear hb2 hX hp3 hBX hG3 hG1 hR3
    unfold mgC
    go_upto_region 3 with fail
    rw [← HP3.out, ← HX.out]
    have hH : Two X.drew p1 p3 M C (.slice ao N cap) (.slice a3 n3 k3) := HT.out
    have hbw : Below w.heap.size w X.drew := below_drewN' HXB.out 1
    have hS3 : Rs X.drew a3 n3 k3 3 C.list enC := HR3.out
    obtain ⟨c0, c1, c2, c3, c4, c5, c6, c7, c8, c9, c10, c11, c12, c13⟩ := mg_cells HT.out.1
    obtain ⟨g0, g1, g2', g3, g4, g5, g6, g7, g8, g9, g10, g11, g12, g13⟩ := mg_cells HT.out.2
    have hnn : n3 ≤ 1000000000 := by omega
    clear HT HXB HR3 HX HV HG HG1
    go_region_held3 (fun w' => w'.cell? ⟨p1, 0, none⟩ = some (.int .i64 M.kind) ∧ w'.cell? ⟨p1, 1, none⟩ = some (.int .i64 M.src) ∧ w'.cell? ⟨p1, 2, none⟩ = some (.int .i64 M.dst) ∧ w'.cell? ⟨p1, 3, none⟩ = some (.int .i64 M.ballot) ∧ w'.cell? ⟨p1, 4, none⟩ = some (.int .i64 M.gen) ∧ w'.cell? ⟨p1, 5, none⟩ = some (.int .i64 M.basis) ∧ w'.cell? ⟨p1, 6, none⟩ = some (.int .i64 M.floor) ∧ w'.cell? ⟨p1, 7, none⟩ = some (.int .i64 M.top) ∧ w'.cell? ⟨p1, 8, none⟩ = some (.int .i64 M.read) ∧ w'.cell? ⟨p1, 9, none⟩ = some (.string M.mark) ∧ w'.cell? ⟨p1, 10, none⟩ = some (.int .i64 M.pat) ∧ w'.cell? ⟨p1, 11, none⟩ = some (.int .i64 M.pof) ∧ w'.cell? ⟨p1, 12, none⟩ = some (.string M.ptext) ∧ w'.cell? ⟨p1, 13, none⟩ = some (.slice ao N cap) ∧ w'.cell? ⟨p3, 0, none⟩ = some (.int .i64 C.kind) ∧ w'.cell? ⟨p3, 1, none⟩ = some (.int .i64 C.src) ∧ w'.cell? ⟨p3, 2, none⟩ = some (.int .i64 C.dst) ∧ w'.cell? ⟨p3, 3, none⟩ = some (.int .i64 C.ballot) ∧ w'.cell? ⟨p3, 4, none⟩ = some (.int .i64 C.gen) ∧ w'.cell? ⟨p3, 5, none⟩ = some (.int .i64 C.basis) ∧ w'.cell? ⟨p3, 6, none⟩ = some (.int .i64 C.floor) ∧ w'.cell? ⟨p3, 7, none⟩ = some (.int .i64 C.top) ∧ w'.cell? ⟨p3, 8, none⟩ = some (.int .i64 C.read) ∧ w'.cell? ⟨p3, 9, none⟩ = some (.string C.mark) ∧ w'.cell? ⟨p3, 10, none⟩ = some (.int .i64 C.pat) ∧ w'.cell? ⟨p3, 11, none⟩ = some (.int .i64 C.pof) ∧ w'.cell? ⟨p3, 12, none⟩ = some (.string C.ptext) ∧ w'.cell? ⟨p3, 13, none⟩ = some (.slice a3 n3 k3))
      (first | go_keep | exact mg_cells2 hH.1 hH.2)
      (first
        | (go_at_call 21; ((with_reducible refine (rclean_n _ M ao N cap (HRM.out _ (by assumption)) C HC1).mono ?_)); rintro e w4 ⟨a4, n4, k4, rfl, hR4, hb4⟩; replace hH := Two.next hH hb4; replace hbw := below_then' (by assumption : Below w.heap.size w _) hb4; replace hS3 := hS3.below hb4 (Nat.le_refl _); clear hb4)
        | (go_at_call 20; ((with_reducible refine (clean_n _ C a3 n3 k3 (by assumption) hn3 HC2).mono ?_)); rintro e w4 ⟨a5, n5, k5, rfl, hR5, hb4⟩; have hn5 : n5 ≤ 1000000000 := (by have h5 := hR5.2.2.1; omega); replace hH := Two.next hH hb4; replace hbw := below_then' (by assumption : Below w.heap.size w _) hb4; replace hS3 := hS3.below hb4 (Nat.le_refl _); clear hb4)
        | (go_at_call 17; ((with_reducible refine (same_l1 _ C a3 n3 k3 a4 n4 k4 hS3 hR4 hnn).mono ?_)); rintro e w4 ⟨rfl, hb4⟩; replace hH := Two.next hH hb4; replace hbw := below_then' (by assumption : Below w.heap.size w _) hb4; replace hS3 := hS3.below hb4 (Nat.le_refl _); clear hb4)
        | (go_at_call 17; ((with_reducible refine (same_l2 _ C a3 n3 k3 a5 n5 k5 hS3 hR5 hn5).mono ?_)); rintro e w4 ⟨rfl, hb4⟩; replace hH := Two.next hH hb4; replace hbw := below_then' (by assumption : Below w.heap.size w _) hb4; replace hS3 := hS3.below hb4 (Nat.le_refl _); clear hb4)
        | (go_at_call 14; ((with_reducible refine (awake_any _).mono ?_)); rintro e w4 ⟨rfl, hb4⟩; replace hH := Two.next hH hb4; replace hbw := below_then' (by assumption : Below w.heap.size w _) hb4; replace hS3 := hS3.below hb4 (Nat.le_refl _); clear hb4))
    all_goals
      go_wp2
      go_ret
      exact ⟨rfl, hbw⟩
end Go.Proofs.Ytlcpnpoleaanmaa
