/- A message out of its bytes: the program's Of, by what its book says of the mark. Conditions: as named in each theorem. -/
import Derived.Test.YtlcpnpoleaanmaaMsgRead
import Derived.Test.YtlcpnpoleaanmaaMsgRightsWalk
import Derived.Test.YtlcpnpoleaanmaaMsgNil
namespace Go.Proofs.Ytlcpnpoleaanmaa
open Go.RowKit
set_option linter.unusedVariables false

/-- what bytes without their mark are -/
def OfB (l : List UInt8) (m : Mg) (k : Nat) : Prop :=
  ((stEnd (readM (l, 0)).2).2 ≠ 0 ∧ k = (stEnd (readM (l, 0)).2).2 ∧ m = mg0 0 0 0) ∨ ((stEnd (readM (l, 0)).2).2 = 0 ∧ ¬ rightM (readM (l, 0)).1 ∧ k = 5 ∧ m = mg0 0 0 0)
    ∨ ((stEnd (readM (l, 0)).2).2 = 0 ∧ rightM (readM (l, 0)).1 ∧ k = 0 ∧ m = (readM (l, 0)).1)
theorem OfB.one {l : List UInt8} {m m' : Mg} {k k' : Nat} (h : OfB l m k) (h' : OfB l m' k') : m = m' ∧ k = k' := by
  rcases h with ⟨a, b, c⟩ | ⟨a, r, b, c⟩ | ⟨a, r, b, c⟩ <;> rcases h' with ⟨a', b', c'⟩ | ⟨a', r', b', c'⟩ | ⟨a', r', b', c'⟩ <;> first
    | exact absurd a' a
    | exact absurd a a'
    | exact absurd r r'
    | exact absurd r' r
    | exact ⟨c.trans c'.symm, b.trans b'.symm⟩
theorem OfB.back {m : Mg} (h : rightM m) : OfB (bodyL m) m 0 := by
  refine .inr (.inr ?_)
  rw [read_back h]
  exact ⟨rfl, h, rfl, rfl⟩
def OfR (w : World) (l : List UInt8) (e : Ending) (w' : World) : Prop :=
  ∃ (m : Mg) (k : Nat) (ao : Option Addr) (n cap : Nat), e = .returned (.tuple #[.agg (mgC m (.slice ao n cap)).toArray, .int .i64 k]) ∧ OfB l m k ∧ Rs w' ao n cap 3 m.list enC ∧ n ≤ 1000 ∧ Below w.heap.size w w'
theorem Rs.nilM (w : World) : Rs w none 0 0 3 (mg0 0 0 0).list enC := ⟨by omega, by decide, rfl, fun h => absurd h (by decide)⟩

set_option maxRecDepth 100000 in
set_option maxHeartbeats 4000000 in
theorem of_sum (w : World) (bv : Value) (s : ByteArray) (k : Nat) (hk : s.size = k + 32) (hs : s.size ≤ 100000000)
    (HIS : Hid (∀ W, Below w.heap.size w W → Calls Try.prog 19 #[bv, .string (s.extract 0 k), .string (s.extract k s.size)] W fun e w' => e = .returned (.bool false) ∧ Below W.heap.size W w')) :
    Calls Try.prog 22 #[bv, .string s] w fun e w' => e = .returned (.tuple #[.agg (mgC (mg0 0 0 0) (.slice none 0 0)).toArray, .int .i64 6]) ∧ Below w.heap.size w w' := by
  have hmz := mgZ_run
  obtain ⟨V, hV⟩ : ∃ V, V = w.alloc (.cells mgZ.toArray 26) := ⟨_, rfl⟩
  obtain ⟨p2, hp2⟩ : ∃ p, p = w.heap.size := ⟨_, rfl⟩
  have hZ : Blk V p2 mgZ 26 := by rw [hV, hp2]; exact Blk.new _ _ _
  have hB : Below w.heap.size w V := by rw [hV]; exact below_alloc' _ _
  have hq2 : w.heap.size ≤ p2 := by omega
  unfold mgZ mgC mg0 at hV
  simp only at hV
  have HV := Lib.hid hV
  have HP2 := Lib.hid hp2
  have hbw := hB.drew
  have HZ := Lib.hid hZ
  have HQ := Lib.hid hq2
  have e1 : (s.size : Int) - 32 = (k : Int) := by omega
  have d1 : ¬ (k : Int) < 0 := by omega
  have i0 : (0 : Int) ≤ (k : Int) := by omega
  have i1 : (k : Int) ≤ (s.size : Int) := by omega
  have hS : Below w.heap.size w V.drew ∧ Blk V.drew p2 mgZ 26 := ⟨hbw, hZ⟩
  have H : ∀ w1 w2 : World, Below w1.heap.size w1 w2 → (Below w.heap.size w w1 ∧ Blk w1 p2 mgZ 26) → (Below w.heap.size w w2 ∧ Blk w2 p2 mgZ 26) := fun w1 w2 hb h => ⟨below_then' h.1 hb, h.2.below hb h.2.lt⟩
  clear hV hp2 hB hZ hq2 hk hbw
  go_enter Try.func22, Try.ntmps22
  go_upto_region 1 with fail
  rw [← HP2.out, ← HV.out]
  go_wp2_with fail
  go_region_held3 (fun w' => Below w.heap.size w w' ∧ Blk w' p2 mgZ 26)
    (first | assumption | go_keep)
    (((go_at_call 19; refine (HIS.out _ (And.left (by assumption : Below w.heap.size w _ ∧ _))).mono ?_; rintro e w4 ⟨rfl, hb4⟩; have hS2 := H _ _ hb4 (by assumption))))
  obtain ⟨hB2, hZ2⟩ := hS2
  have HB2 := Lib.hid hB2
  have HZ2 := Lib.hid hZ2
  clear hB2 hZ2 hS hb4
  go_wp2_with (refine st_mg (m := mg0 0 0 0) (ao := none) (n := 0) (cap := 0) HZ2.out rfl rfl rfl rfl ?_)
  refine bodyPost_ret (res_cell_row rfl _ _ p2 26 _ (0, 0) _ rfl (putM_blk HZ2.out) Try.underlying26 rfl (by kernel_rfl)) rfl ?_
  exact ⟨rfl, putM_below HB2.out HQ.out _ _⟩

set_option maxRecDepth 100000 in
set_option maxHeartbeats 4000000 in
theorem of_take (w : World) (bv : Value) (s : ByteArray) (k : Nat) (hk : s.size = k + 32) (hs : s.size ≤ 100000000)
    (HIS : Hid (∀ W, Below w.heap.size w W → Calls Try.prog 19 #[bv, .string (s.extract 0 k), .string (s.extract k s.size)] W fun e w' => e = .returned (.bool true) ∧ Below W.heap.size W w')) :
    Calls Try.prog 22 #[bv, .string s] w (OfR w (s.extract 0 k).data.toList) := by
  have hmz := mgZ_run
  obtain ⟨V, hV⟩ : ∃ V, V = w.alloc (.cells mgZ.toArray 26) := ⟨_, rfl⟩
  obtain ⟨p2, hp2⟩ : ∃ p, p = w.heap.size := ⟨_, rfl⟩
  have hZ : Blk V p2 mgZ 26 := by rw [hV, hp2]; exact Blk.new _ _ _
  have hB : Below w.heap.size w V := by rw [hV]; exact below_alloc' _ _
  have hq2 : w.heap.size ≤ p2 := by omega
  unfold mgZ mgC mg0 at hV
  simp only at hV
  obtain ⟨A, hA⟩ : ∃ A, A = s.extract 0 k := ⟨_, rfl⟩
  have hAs : A.size ≤ 1000000000 := by rw [hA, ByteArray.size_extract]; omega
  have HV := Lib.hid hV
  have HP2 := Lib.hid hp2
  have hbw := hB.drew
  have HZ := Lib.hid hZ
  have HQ := Lib.hid hq2
  have e1 : (s.size : Int) - 32 = (k : Int) := by omega
  have d1 : ¬ (k : Int) < 0 := by omega
  have i0 : (0 : Int) ≤ (k : Int) := by omega
  have i1 : (k : Int) ≤ (s.size : Int) := by omega
  have hS : Below w.heap.size w V.drew ∧ Blk V.drew p2 mgZ 26 := ⟨hbw, hZ⟩
  have H : ∀ w1 w2 : World, Below w1.heap.size w1 w2 → (Below w.heap.size w w1 ∧ Blk w1 p2 mgZ 26) → (Below w.heap.size w w2 ∧ Blk w2 p2 mgZ 26) := fun w1 w2 hb h => ⟨below_then' h.1 hb, h.2.below hb h.2.lt⟩
  rw [← hA]
  have HA := Lib.hid hA
  obtain ⟨M, hM⟩ : ∃ M, M = (readM (A.data.toList, 0)).1 := ⟨_, rfl⟩
  obtain ⟨Z, hZz⟩ : ∃ Z, Z = (readM (A.data.toList, 0)).2 := ⟨_, rfl⟩
  obtain ⟨b, hb⟩ := bool_of (rightM M)
  have HBB := Lib.hid hb
  have HMM := Lib.hid hM
  have HZZ := Lib.hid hZz
  clear hV hp2 hB hZ hq2 hk hbw hA hb hM hZz
  go_enter Try.func22, Try.ntmps22
  go_upto_region 1 with fail
  rw [← HP2.out, ← HV.out]
  go_wp2_with fail
  go_region_held3 (fun w' => Below w.heap.size w w' ∧ Blk w' p2 mgZ 26)
    (first | assumption | go_keep)
    (((go_at_call 19; refine (HIS.out _ (And.left (by assumption : Below w.heap.size w _ ∧ _))).mono ?_; rintro e w4 ⟨rfl, hb4⟩; have hS2 := H _ _ hb4 (by assumption))))
  obtain ⟨hB2, hZ2⟩ := hS2
  have HB2 := Lib.hid hB2
  have HZ2 := Lib.hid hZ2
  clear hB2 hZ2 hS hb4
  go_wp2_with fail
  rw [← HA.out]
  refine (read_any w4 A).mono ?_
  rintro e w5 ⟨rfl, hr5, hb5⟩
  obtain ⟨pr, hpr⟩ : ∃ p, p = w4.heap.size := ⟨_, rfl⟩
  have hB5 := below_then' HB2.out hb5
  have hZ5 := HZ2.out.below hb5 HZ2.out.lt
  have hw4 : w.heap.size ≤ w4.heap.size := HB2.out.size
  have hp2r : p2 < pr := by rw [hpr]; exact HZ2.out.lt
  rw [← hpr] at hr5 hw4
  rw [← hpr]
  have HB5 := Lib.hid hB5
  have HZ5 := Lib.hid hZ5
  have HR5 := Lib.hid hr5
  clear hB5 hZ5 hb5 hr5 hpr
  go_wp2_with fail
  refine (mread_any w5 pr A (A.data.toList, 0) hAs HR5.out).mono ?_
  rintro e w6 ⟨ao, n, cap, rfl, hr6, hrs6, hn6, hg6, hfar⟩
  have hfar' : ∀ b off, ao = some ⟨b, off, none⟩ → ¬ b = pr := fun b off e h => by have := hfar b off e; have := HR5.out.lt; omega
  have HFAR := Lib.hid hfar'
  have hp25 := HZ5.out.lt
  have HFAR2 : Hid (∀ b off, ao = some ⟨b, off, none⟩ → ¬ b = p2) := Lib.hid (fun b off e h => by have := hfar b off e; omega)
  clear hp25
  rw [← HMM.out] at hrs6
  rw [← HMM.out] at hn6
  rw [← HZZ.out] at hr6
  rw [← HMM.out]
  have hB6 : Below w.heap.size w w6 := HB5.out.grown hg6 HB5.out.size (by intro j hj; injection hj with hj; omega)
  have hZ6 := HZ5.out.grown hg6 (by intro e; injection e with e; omega)
  have hnn : M.list.length = n := hrs6.2.2.1
  obtain ⟨V7, hV7⟩ : ∃ V, V = w6.alloc (.cells (mgC M (.slice ao n cap)).toArray 26) := ⟨_, rfl⟩
  obtain ⟨pm, hpm⟩ : ∃ p, p = w6.heap.size := ⟨_, rfl⟩
  have hbV7 : Below w6.heap.size w6 V7 := by rw [hV7]; exact below_alloc' _ _
  have HM7 : Hid (Blk V7 pm (mgC M (.slice ao n cap)) 26) := Lib.hid (by rw [hV7, hpm]; exact Blk.new _ _ _)
  have HB7 := Lib.hid (below_then' hB6 hbV7)
  have HZ7 := Lib.hid (hZ6.below hbV7 hZ6.lt)
  have HR7 : Hid (RdB 92 V7 pr A Z) := Lib.hid (hr6.next hbV7)
  have HRS7 := Lib.hid (hrs6.below hbV7 (Nat.le_refl _))
  have hprm : pr < pm := by rw [hpm]; exact hr6.lt
  have HN6 : Hid (M.list.length ≤ 1000) := Lib.hid hn6
  have hn : n ≤ 1000 := by omega
  have HV7 := Lib.hid hV7
  have HPM := Lib.hid hpm
  clear hB6 hZ6 hbV7 hV7 hpm hr6 hrs6 hn6 hg6 hnn hfar hfar'
  unfold mgC at HV7 ⊢
  go_upto_region 8 with fail
  rw [← HPM.out, ← HV7.out]
  go_wp2_with fail
  refine (end_rd V7 pr A Z hAs HR7.out).mono ?_
  rintro e w8 ⟨rfl, hr8, hg8⟩
  have HB8 := Lib.hid (HB7.out.grown hg8 HB7.out.size (by intro j hj; injection hj with hj; omega))
  have HZ8 := Lib.hid (HZ7.out.grown hg8 (by intro e; injection e with e; omega))
  have HM8 := Lib.hid (HM7.out.grown hg8 (by intro e; injection e with e; omega))
  have HRS8 : Hid (Rs w8 ao n cap 3 M.list enC) := Lib.hid (HRS7.out.keptT (T := fun k => some pr = some k) (Kept.of_grown hg8) (fun b off e h => HFAR.out b off e (by injection h with h; exact h.symm)))
  have HOFB : Hid (∀ (m : Mg) (k : Nat), (((stEnd Z).2 ≠ 0 ∧ k = (stEnd Z).2 ∧ m = mg0 0 0 0) ∨ ((stEnd Z).2 = 0 ∧ ¬ rightM M ∧ k = 5 ∧ m = mg0 0 0 0) ∨ ((stEnd Z).2 = 0 ∧ rightM M ∧ k = 0 ∧ m = M)) → OfB A.data.toList m k) := Lib.hid (by
    intro m k h
    unfold OfB
    rw [← HMM.out, ← HZZ.out]
    exact h)
  obtain ⟨E, hE⟩ : ∃ E, E = (stEnd Z).2 := ⟨_, rfl⟩
  rw [← hE] at HOFB
  rw [← hE]
  clear hE hr8 hg8 HV7 HMM HZZ HB7 HZ7 HM7 HR7 HRS7
  by_cases hE0 : E = 0
  case neg =>
    have d2 : ((E : Int) != 0) = true := by simpa using hE0
    have HE0 := Lib.hid hE0
    clear hE0
    go_wp2_with (refine st_mg (m := mg0 0 0 0) (ao := none) (n := 0) (cap := 0) HZ8.out rfl rfl rfl rfl ?_)
    refine bodyPost_ret (res_cell_row rfl _ _ p2 26 _ (0, 0) _ rfl (putM_blk HZ8.out) Try.underlying26 rfl (by kernel_rfl)) rfl ?_
    exact ⟨_, _, _, _, _, rfl, HOFB.out _ _ (.inl ⟨HE0.out, rfl, rfl⟩), Rs.nilM _, by decide, putM_below HB8.out HQ.out _ _⟩
  case pos =>
    have HO1 : Hid (¬ rightM M → OfB A.data.toList (mg0 0 0 0) 5) := Lib.hid (fun h => HOFB.out _ _ (.inr (.inl ⟨hE0, h, rfl, rfl⟩)))
    have HO2 : Hid (rightM M → OfB A.data.toList M 0) := Lib.hid (fun h => HOFB.out _ _ (.inr (.inr ⟨hE0, h, rfl, rfl⟩)))
    clear HOFB
    subst hE0
    go_wp2_with (refine ld_mg HM8.out rfl rfl rfl ?_)
    refine (right_is w8 M ao n cap HRS8.out (by unfold maxLen; omega) b HBB).mono ?_
    rintro e w9 ⟨rfl, hb9⟩
    have HB9 := Lib.hid (below_then' HB8.out hb9)
    have HZ9 := Lib.hid (HZ8.out.below hb9 HZ8.out.lt)
    have HM9 := Lib.hid (HM8.out.below hb9 HM8.out.lt)
    have HRS9 := Lib.hid (HRS8.out.below hb9 (Nat.le_refl _))
    clear hb9
    cases b
    case false =>
      have r1 : ¬ rightM M := fun h => by have := HBB.out.2 h; cases this
      have HR1 := Lib.hid r1
      clear r1
      go_wp2_with (refine st_mg (m := mg0 0 0 0) (ao := none) (n := 0) (cap := 0) HZ9.out rfl rfl rfl rfl ?_)
      refine bodyPost_ret (res_cell_row rfl _ _ p2 26 _ (0, 0) _ rfl (putM_blk HZ9.out) Try.underlying26 rfl (by kernel_rfl)) rfl ?_
      exact ⟨_, 5, _, _, _, rfl, HO1.out HR1.out, Rs.nilM _, by decide, putM_below HB9.out HQ.out _ _⟩
    case true =>
      have HR1 := Lib.hid (HBB.out.1 rfl)
      go_wp2_with (first | (refine ld_mg HM9.out rfl rfl rfl ?_) | (refine st_mg (m := M) (ao := ao) (n := n) (cap := cap) HZ9.out rfl rfl rfl rfl ?_))
      refine bodyPost_ret (res_cell_row rfl _ _ p2 26 _ (0, 0) _ rfl (putM_blk HZ9.out) Try.underlying26 rfl (by kernel_rfl)) rfl ?_
      have hbf := putM_below HB9.out HQ.out M (.slice ao n cap)
      exact ⟨_, 0, _, _, _, rfl, HO2.out HR1.out, HRS9.out.keptT (T := fun k => some p2 = some k) (Kept.of_grown (putM_grown w9 p2 M _)) (fun b off e h => HFAR2.out b off e (by injection h with h; exact h.symm)), hn, hbf⟩
end Go.Proofs.Ytlcpnpoleaanmaa
