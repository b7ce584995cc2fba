/- MsgNobody, walked: without a book there are no bytes, and no message. No conditions. -/
import Derived.Test.YtlcpnpoleaanmaaMsgNil
import Derived.Test.YtlcpnpoleaanmaaMsgRightsWalk
namespace Go.Proofs.Ytlcpnpoleaanmaa
open Go.RowKit
set_option linter.unusedVariables false

theorem bytes_nob (w : World) (m : Mg) (ao : Option Addr) (n cap : Nat) (hR : Rs w ao n cap 3 m.list enC) (b : Bool) (hb : Hid (b = true ↔ rightM m)) (k : Int) (hk : Hid (k = if b = true then 15 else 1)) :
    Calls Try.prog 16 #[.pointer none, .agg (mgC m (.slice ao n cap)).toArray] w fun e w' => e = .returned (.tuple #[.string ByteArray.empty, .int .i64 k]) ∧ Below w.heap.size w w' := by
  rw [hk.out]
  cases b with
  | true => exact bytes_nil w m ao n cap hR (hb.out.1 rfl)
  | false => exact bytes_no w _ m ao n cap hR (fun h => by have := hb.out.2 h; cases this)
theorem of_nob (w : World) (s : ByteArray) (hm : s.size ≤ 140737488355328) (k : Int) (hk : Hid (k = if s.size < 32 then 3 else 6)) :
    Calls Try.prog 22 #[.pointer none, .string s] w fun e w' => e = .returned (.tuple #[.agg (mgC (mg0 0 0 0) (.slice none 0 0)).toArray, .int .i64 k]) ∧ Below w.heap.size w w' := by
  rw [hk.out]
  split
  · rename_i h; exact of_short w _ s h
  · rename_i h; exact of_nobook w s (by omega) hm

set_option maxRecDepth 100000 in
set_option maxHeartbeats 8000000 in
theorem msgNobody_walk (w : World) (c0 : Array Value) (o0 : mgK.ok w c0.toList) (s : ByteArray) (hsz : s.size ≤ 140737488351232) :
    Calls Try.prog 9 #[.agg c0, .string s] w fun e w' => e = .returned (.bool true) ∧ Below w.heap.size w w' := by
  obtain ⟨m, ao, n, cap, hcs, hR, hok⟩ := mg_of o0
  obtain rfl : c0 = (mgC m (.slice ao n cap)).toArray := by rw [← hcs]
  clear hcs o0 hok
  obtain ⟨V, hV⟩ : ∃ V, V = w.alloc (.cells (mgC m (.slice ao n cap)).toArray 26) := ⟨_, rfl⟩
  obtain ⟨p1, hp1⟩ : ∃ p, p = w.heap.size := ⟨_, rfl⟩
  have hG : Blk V p1 (mgC m (.slice ao n cap)) 26 := by rw [hV, hp1]; exact Blk.new _ _ _
  have hB : Below w.heap.size w V := by rw [hV]; exact below_alloc' _ _
  have hwp : w.heap.size ≤ p1 := by omega
  have HRW : Hid (∀ W, Below w.heap.size w W → Rs W ao n cap 3 m.list enC) := Lib.hid (fun W h => hR.below h (Nat.le_refl _))
  unfold mgC at hV ⊢
  have HV := Lib.hid hV
  have HP1 := Lib.hid hp1
  have HB := Lib.hid hB
  have HG := Lib.hid hG
  clear hV hp1 hB hG hR
  go_enter Try.func9, Try.ntmps9
  go_upto_region 1 with fail
  rw [← HP1.out, ← HV.out]
  go_cut [] (fun wx => Blk wx p1 (mgC (fewM m) (.slice ao (cut80 n) cap)) 26 ∧ Below w.heap.size w wx)
  case first =>
    go_wp2_with (refine ld_mg HG.out rfl rfl rfl ?_)
    refine (few_any V m ao n cap (HRW.out _ HB.out)).mono ?_
    rintro e w4 ⟨rfl, hb4⟩
    have HB4 := Lib.hid (below_then' HB.out hb4)
    have HG4 := Lib.hid (HG.out.below hb4 HG.out.lt)
    clear hb4
    go_wp2_with (refine st_mg (m := fewM m) (ao := ao) (n := cut80 n) (cap := cap) HG4.out rfl rfl rfl rfl ?_)
    go_meet
    case rel => exact ⟨putM_blk HG4.out, putM_below HB4.out hwp _ _⟩
  case rest =>
    obtain ⟨hG, hB⟩ := hcut
    obtain ⟨M, hM⟩ : ∃ M, M = fewM m := ⟨_, rfl⟩
    obtain ⟨N, hN⟩ : ∃ N, N = cut80 n := ⟨_, rfl⟩
    have hRM : ∀ W, Below w.heap.size w W → Rs W ao N cap 3 M.list enC := fun W h => by rw [hM, hN]; exact few_rows (HRW.out W h)
    have hN80 : N ≤ maxLen := by rw [hN]; have := (cut80_le n).2; unfold maxLen; omega
    rw [← hM, ← hN] at hG
    obtain ⟨b, hb⟩ := bool_of (rightM M)
    have HBB := Lib.hid hb
    obtain ⟨k1, hk1⟩ : ∃ k : Int, k = if b = true then 15 else 1 := ⟨_, rfl⟩
    obtain ⟨k2, hk2⟩ : ∃ k : Int, k = if s.size < 32 then 3 else 6 := ⟨_, rfl⟩
    have HK1 := Lib.hid hk1
    have HK2 := Lib.hid hk2
    have HRM := Lib.hid hRM
    have HG1 := Lib.hid hG
    have HB1 := Lib.hid hB
    clear hM hN hRM hG hB hb hk1 hk2
    go_wp2_with (refine ld_mg HG1.out rfl rfl rfl ?_)
    refine (bytes_nob wc M ao N cap (HRM.out _ HB1.out) b HBB k1 HK1).mono ?_
    rintro e w2 ⟨rfl, hb2⟩
    have HB2 := Lib.hid (below_then' HB1.out hb2)
    have HG2 := Lib.hid (HG1.out.below hb2 HG1.out.lt)
    clear hb2
    go_wp2_with fail
    refine (of_nob w2 s (by omega) k2 HK2).mono ?_
    rintro e w3 ⟨rfl, hb3⟩
    have HB3 := Lib.hid (below_then' HB2.out hb3)
    have HG3 := Lib.hid (HG2.out.below hb3 HG2.out.lt)
    clear hb3
    unfold mgC mg0
    obtain ⟨X, hX⟩ : ∃ X, X = w3.alloc (Obj.cells #[.int .i64 0, .int .i64 0, .int .i64 0, .int .i64 0, .int .i64 0, .int .i64 0, .int .i64 0, .int .i64 0, .int .i64 0, .string ByteArray.empty, .int .i64 0, .int .i64 0, .string ByteArray.empty, .slice none 0 0] 26) := ⟨_, rfl⟩
    have hBX : Below w3.heap.size w3 X := by rw [hX]; exact below_alloc' _ _
    have HBX := Lib.hid (below_then' HB3.out hBX)
    have HGX := Lib.hid (HG3.out.below hBX HG3.out.lt)
    have HX := Lib.hid hX
    clear hX hBX HV
    go_upto_region 5 with fail
    rw [← HX.out]
    go_wp2_with (refine ld_mg HGX.out rfl rfl rfl ?_)
    refine (rright_is X M ao N cap (HRM.out _ HBX.out) hN80 b HBB).mono ?_
    rintro e w4 ⟨rfl, hb4⟩
    have HB4 := Lib.hid (below_then' HBX.out hb4)
    clear hb4
    have key : ∀ k : Int, Hid (k = if b = true then 15 else 1) → True := fun _ _ => trivial
    clear key
    cases b
    case false =>
      have e1 : k1 = 1 := HK1.out
      subst e1
      by_cases h32 : s.size < 32
      case pos =>
        have e2 : k2 = 3 := by rw [HK2.out, if_pos h32]
        subst e2
        have d : decide ((s.size : Int) < 32) = true := decide_eq_true (by omega)
        clear HK1 HK2
        go_wp2_with fail
        refine (awake_any w4).mono ?_
        rintro e w5 ⟨rfl, hb5⟩
        have HB5 := Lib.hid (below_then' HB4.out hb5)
        clear hb5
        go_wp2
        go_ret
        exact ⟨rfl, HB5.out⟩
      case neg =>
        have e2 : k2 = 6 := by rw [HK2.out, if_neg h32]
        subst e2
        clear HK1 HK2
        go_wp2_with fail
        refine (awake_any w4).mono ?_
        rintro e w5 ⟨rfl, hb5⟩
        have HB5 := Lib.hid (below_then' HB4.out hb5)
        clear hb5
        go_wp2
        go_ret
        exact ⟨rfl, HB5.out⟩
    case true =>
      have e1 : k1 = 15 := HK1.out
      subst e1
      by_cases h32 : s.size < 32
      case pos =>
        have e2 : k2 = 3 := by rw [HK2.out, if_pos h32]
        subst e2
        have d : decide ((s.size : Int) < 32) = true := decide_eq_true (by omega)
        clear HK1 HK2
        go_wp2_with fail
        refine (awake_any w4).mono ?_
        rintro e w5 ⟨rfl, hb5⟩
        have HB5 := Lib.hid (below_then' HB4.out hb5)
        clear hb5
        go_wp2
        go_ret
        exact ⟨rfl, HB5.out⟩
      case neg =>
        have e2 : k2 = 6 := by rw [HK2.out, if_neg h32]
        subst e2
        clear HK1 HK2
        go_wp2_with fail
        refine (awake_any w4).mono ?_
        rintro e w5 ⟨rfl, hb5⟩
        have HB5 := Lib.hid (below_then' HB4.out hb5)
        clear hb5
        go_wp2
        go_ret
        exact ⟨rfl, HB5.out⟩
end Go.Proofs.Ytlcpnpoleaanmaa
