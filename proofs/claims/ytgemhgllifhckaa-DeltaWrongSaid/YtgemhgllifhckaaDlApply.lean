/- delta.Apply under an ideal book. Conditions: as named in each theorem. -/
import Derived.Test.YtgemhgllifhckaaDlMade
import Derived.Deep.RegionHeld3
namespace Go.Proofs.Ytgemhgllifhckaa
open Go.RowKit Sg
set_option linter.unusedVariables false
set_option linter.unusedSimpArgs false

theorem below_g {w a b : World} {m : Nat} (hk : Kept (fun k => some m = some k) w a) (hg : a.grownBy b (some m)) : Kept (fun k => some m = some k) w b := hk.trans (Kept.of_grown hg) (fun _ _ h => h)
theorem kept_b {w a b : World} {m : Nat} (hk : Kept (fun k => some m = some k) w a) (hb : Below a.heap.size a b) : Kept (fun k => some m = some k) w b := hk.trans (Kept.of_below (fun k => some m = some k) hb) (fun _ _ h => h)

set_option maxRecDepth 100000 in
set_option maxHeartbeats 2000000 in
theorem apply_wrong (w : World) (p m : Nat) (S : Bk) (basis bm mk : ByteArray) (z : Int) (ao : Option Addr) (n cap : Nat) (l : List St) (hI : BookI w p m S) (hS : S.length ≤ 10000000) (hR : Rs w ao n cap 3 l St.c) (hok : ∀ x ∈ l, x.ok) (hP : RightP ⟨bm, mk, z, l⟩) (hbs : basis.size ≤ 140737488351232) (hne : numS (S.idxOf (bytesOf basis) + 1) ≠ bm) :
    Calls Try.prog 24 #[.pointer (some ⟨p, 0, none⟩), .string basis, .agg #[.string bm, .string mk, .int .i64 z, .slice ao n cap]] w fun e w' => e = .returned (.tuple #[.string ByteArray.empty, .int .i64 13]) ∧ Kept (fun k => some m = some k) w w' := by
  have hpm := hI.2.2.2.2.1
  have hz := hP.2.2.1
  have hz2 := hP.2.2.2.1
  have h32 := hP.1
  have h32' := hP.2.1
  simp only at hz hz2 h32 h32'
  obtain ⟨V1, hV1⟩ : ∃ V, V = w.alloc (Obj.cells #[.string bm, .string mk, .int .i64 z, .slice ao n cap] 25) := ⟨_, rfl⟩
  obtain ⟨pd, hpd⟩ : ∃ q, q = w.heap.size := ⟨_, rfl⟩
  have hb1 : Below w.heap.size w V1 := by rw [hV1]; exact below_alloc _ _
  have hG1 : Blk V1 pd [.string bm, .string mk, .int .i64 z, .slice ao n cap] 25 := by rw [hV1, hpd]; exact Blk.new _ _ _
  have HRI := Lib.hid (deltaRight_any V1 bm mk z ao n cap l (wfI _ (by omega) (by omega)) (by unfold maxLen; omega) (by unfold maxLen; omega) (hR.next hb1) hok)
  have q0 := hG1.cell (i := 0) rfl
  have q1 := hG1.cell (i := 1) rfl
  have q2 := hG1.cell (i := 2) rfl
  have q3 := hG1.cell (i := 3) rfl
  have hmp : m < pd := by rw [hpd]; exact hpm.2
  have HP := Lib.hid hP
  have HR := Lib.hid hR
  have HOK := Lib.hid hok
  have HI := Lib.hid hI
  have HV1 := Lib.hid hV1
  have HPD := Lib.hid hpd
  have HB1 := Lib.hid (And.intro hb1 hG1)
  have HPM := Lib.hid hpm
  clear hV1 hpd hb1 hG1 hR hok hP hI hpm h32 h32' hz hz2
  go_enter Try.func24, Try.ntmps24
  go_upto_region 1 with fail
  rw [← HPD.out, ← HV1.out]
  go_wp2_with fail
  refine HRI.out.mono ?_
  rintro e w2 ⟨⟨r, rfl, hr⟩, hb2⟩
  have hr1 : r = true := hr.2 HP.out
  subst hr1
  have hG2 := HB1.out.2.below hb2 HB1.out.2.lt
  have HI2 := Lib.hid ((HI.out.next HB1.out.1).next hb2)
  have HK2 := Lib.hid (kept_b (Kept.of_below (fun k => some m = some k) HB1.out.1) hb2)
  have HR2 := Lib.hid ((HR.out.next HB1.out.1).next hb2)
  have d0 := hG2.cell (i := 0) rfl
  have HG2 := Lib.hid hG2
  have HM1 : Hid (Calls Try.prog 40 #[.pointer (some ⟨p, 0, none⟩), .string basis] w2.drew fun e w' => e = .returned (.string (numS (S.idxOf (bytesOf basis) + 1))) ∧ BookI w' p m (addS S (bytesOf basis)) ∧ w2.drew.grownBy w' (some m)) := Lib.hid (mark_as (s := basis) (HI2.out.next (bl_drew (Below.refl _ w2))) (by unfold maxLen; omega) (by omega) _ _ rfl rfl)
  have HC1 : Hid (∀ w', w2.drew.grownBy w' (some m) → Blk w' pd [.string bm, .string mk, .int .i64 z, .slice ao n cap] 25) := Lib.hid (fun w' hg => (HG2.out.below (bl_drew (Below.refl _ w2)) HG2.out.lt).grown hg (by intro e; injection e with e; omega))
  obtain ⟨MK, hMK⟩ : ∃ M, M = numS (S.idxOf (bytesOf basis) + 1) := ⟨_, rfl⟩
  rw [← hMK] at HM1
  have HMK := Lib.hid hMK
  clear hMK hG2 hb2 hr q0 q1 q2 q3 HRI
  have hneq : (MK.toList == bm.toList) = false := beqS_f (fun h => by
    apply hne
    rw [← HMK.out]
    exact ByteArray.ext (Array.ext' h))
  clear hne
  go_upto_region 3 with fail
  go_region_held3 (fun w' => w'.cell? ⟨pd, 0, none⟩ = some (.string bm)) (first | exact HH | exact d0)
    (first | (go_at_call 40; refine HM1.out.mono ?_; rintro e w7 ⟨rfl, hK7, hG7⟩; have HH := (HC1.out w7 hG7).cell (i := 0) rfl))
  all_goals (
    have HE := Lib.hid (below_g (kept_b HK2.out (bl_drew (Below.refl _ w2))) hG7)
    go_wp2
    go_ret2
    exact ⟨rfl, HE.out⟩)

set_option maxRecDepth 100000 in
set_option maxHeartbeats 2000000 in
theorem apply_back (w : World) (p m : Nat) (S : Bk) (basis bm mk : ByteArray) (z : Int) (ao : Option Addr) (n cap : Nat) (l : List St) (t : ByteArray) (hI : BookI w p m S) (hS : S.length ≤ 10000000) (hR : Rs w ao n cap 3 l St.c) (hok : ∀ x ∈ l, x.ok) (hP : RightP ⟨bm, mk, z, l⟩) (hbs : basis.size ≤ 140737488351232) (hrk : ∀ W, Kept (fun k => some m = some k) w W → Rs W ao n cap 3 l St.c) (hb2 : basis.size ≤ 524288) (heq : numS (S.idxOf (bytesOf basis) + 1) = bm) (hrun : runS basis l ByteArray.empty = (t, 0)) (ht : t.size ≤ 524288) (hn : n ≤ 1000000) (hmk : numS ((addS S (bytesOf basis)).idxOf (bytesOf t) + 1) = mk) :
    Calls Try.prog 24 #[.pointer (some ⟨p, 0, none⟩), .string basis, .agg #[.string bm, .string mk, .int .i64 z, .slice ao n cap]] w fun e w' => e = .returned (.tuple #[.string t, .int .i64 0]) ∧ Kept (fun k => some m = some k) w w' := by
  have hpm := hI.2.2.2.2.1
  have hz := hP.2.2.1
  have hz2 := hP.2.2.2.1
  have h32 := hP.1
  have h32' := hP.2.1
  simp only at hz hz2 h32 h32'
  obtain ⟨V1, hV1⟩ : ∃ V, V = w.alloc (Obj.cells #[.string bm, .string mk, .int .i64 z, .slice ao n cap] 25) := ⟨_, rfl⟩
  obtain ⟨pd, hpd⟩ : ∃ q, q = w.heap.size := ⟨_, rfl⟩
  have hb1 : Below w.heap.size w V1 := by rw [hV1]; exact below_alloc _ _
  have hG1 : Blk V1 pd [.string bm, .string mk, .int .i64 z, .slice ao n cap] 25 := by rw [hV1, hpd]; exact Blk.new _ _ _
  have HRI := Lib.hid (deltaRight_any V1 bm mk z ao n cap l (wfI _ (by omega) (by omega)) (by unfold maxLen; omega) (by unfold maxLen; omega) (hR.next hb1) hok)
  have q0 := hG1.cell (i := 0) rfl
  have q1 := hG1.cell (i := 1) rfl
  have q2 := hG1.cell (i := 2) rfl
  have q3 := hG1.cell (i := 3) rfl
  have hmp : m < pd := by rw [hpd]; exact hpm.2
  have HP := Lib.hid hP
  have HR := Lib.hid hR
  have HOK := Lib.hid hok
  have HI := Lib.hid hI
  have HV1 := Lib.hid hV1
  have HPD := Lib.hid hpd
  have HB1 := Lib.hid (And.intro hb1 hG1)
  have HPM := Lib.hid hpm
  clear hV1 hpd hb1 hG1 hR hok hP hI hpm h32 h32' hz hz2
  go_enter Try.func24, Try.ntmps24
  go_upto_region 1 with fail
  rw [← HPD.out, ← HV1.out]
  go_wp2_with fail
  refine HRI.out.mono ?_
  rintro e w2 ⟨⟨r, rfl, hr⟩, hb2⟩
  have hr1 : r = true := hr.2 HP.out
  subst hr1
  have hG2 := HB1.out.2.below hb2 HB1.out.2.lt
  have HI2 := Lib.hid ((HI.out.next HB1.out.1).next hb2)
  have HK2 := Lib.hid (kept_b (Kept.of_below (fun k => some m = some k) HB1.out.1) hb2)
  have HR2 := Lib.hid ((HR.out.next HB1.out.1).next hb2)
  have d0 := hG2.cell (i := 0) rfl
  have HG2 := Lib.hid hG2
  have HM1 : Hid (Calls Try.prog 40 #[.pointer (some ⟨p, 0, none⟩), .string basis] w2.drew fun e w' => e = .returned (.string (numS (S.idxOf (bytesOf basis) + 1))) ∧ BookI w' p m (addS S (bytesOf basis)) ∧ w2.drew.grownBy w' (some m)) := Lib.hid (mark_as (s := basis) (HI2.out.next (bl_drew (Below.refl _ w2))) (by unfold maxLen; omega) (by omega) _ _ rfl rfl)
  have HC1 : Hid (∀ w', w2.drew.grownBy w' (some m) → Blk w' pd [.string bm, .string mk, .int .i64 z, .slice ao n cap] 25) := Lib.hid (fun w' hg => (HG2.out.below (bl_drew (Below.refl _ w2)) HG2.out.lt).grown hg (by intro e; injection e with e; omega))
  obtain ⟨MK, hMK⟩ : ∃ M, M = numS (S.idxOf (bytesOf basis) + 1) := ⟨_, rfl⟩
  rw [← hMK] at HM1
  have HMK := Lib.hid hMK
  clear hMK hG2 hb2 hr q0 q1 q2 q3 HRI
  rw [heq] at HMK
  obtain rfl := HMK.out
  have hneq : (MK.toList == MK.toList) = true := by simp
  go_upto_region 3 with fail
  go_region_held3 (fun w' => w'.cell? ⟨pd, 0, none⟩ = some (.string MK)) (first | exact HH | exact d0)
    (first | (go_at_call 40; refine HM1.out.mono ?_; rintro e w7 ⟨rfl, hK7, hG7⟩; have HH := (HC1.out w7 hG7).cell (i := 0) rfl))
  all_goals (
    have HE := Lib.hid (below_g (kept_b HK2.out (bl_drew (Below.refl _ w2))) hG7)
    have hG7b := HC1.out w7 hG7
    have hR7 : Rs w7 ao n cap 3 l St.c := hrk w7 HE.out
    have x3 := hG7b.cell (i := 3) rfl
    have HRUN := Lib.hid (run_any w7 basis ao n cap l hb2 hR7 hn HOK.out)
    rw [hrun] at HRUN
    simp only at HRUN
    have HI7 := Lib.hid hK7
    have HG7 := Lib.hid hG7b
    clear hrun hR7 hG7b hG7 hK7 HH HM1 HC1 d0
    go_wp2_with fail
    refine HRUN.out.mono ?_
    rintro e w8 ⟨rfl, hb8⟩
    have hG8 := HG7.out.below hb8 HG7.out.lt
    have HI8 := Lib.hid (HI7.out.next hb8)
    have HK8 := Lib.hid (kept_b HE.out hb8)
    have d1 := hG8.cell (i := 1) rfl
    have HG8 := Lib.hid hG8
    have HM2 : Hid (Calls Try.prog 40 #[.pointer (some ⟨p, 0, none⟩), .string t] w8.drew fun e w' => e = .returned (.string mk) ∧ BookI w' p m (addS (addS S (bytesOf basis)) (bytesOf t)) ∧ w8.drew.grownBy w' (some m)) := Lib.hid (by
      have := mark_as (s := t) (HI8.out.next (bl_drew (Below.refl _ w8))) (by unfold maxLen; omega) (by have := addS_len S (bytesOf basis); omega) _ _ rfl rfl
      rw [show (addS S (bytesOf basis)).idxOf t.data.toList = (addS S (bytesOf basis)).idxOf (bytesOf t) from rfl, hmk] at this
      exact this)
    have HC2 : Hid (∀ w', w8.drew.grownBy w' (some m) → Blk w' pd [.string MK, .string mk, .int .i64 z, .slice ao n cap] 25) := Lib.hid (fun w' hg => (HG8.out.below (bl_drew (Below.refl _ w8)) HG8.out.lt).grown hg (by intro e; injection e with e; omega))
    have hnm : (mk.toList == mk.toList) = true := by simp
    clear hmk hG8 hb8 x3 HRUN
    go_upto_region 8 with fail
    go_region_held3 (fun w' => w'.cell? ⟨pd, 1, none⟩ = some (.string mk)) (first | exact HH | exact d1)
      (first | (go_at_call 40; refine HM2.out.mono ?_; rintro e w7 ⟨rfl, hK7, hG7⟩; have HH := (HC2.out w7 hG7).cell (i := 1) rfl))
    all_goals (
      have HE2 := Lib.hid (below_g (kept_b HK8.out (bl_drew (Below.refl _ w8))) hG7)
      go_wp2
      go_ret2
      exact ⟨rfl, HE2.out⟩))
end Go.Proofs.Ytgemhgllifhckaa
