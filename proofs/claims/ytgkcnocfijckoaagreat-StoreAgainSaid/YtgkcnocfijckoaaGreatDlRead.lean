/- The delta that bytes are: delta's Read. Conditions: as named in each theorem. -/
import Derived.Test.YtgkcnocfijckoaaGreatQL
import Derived.Test.YtgkcnocfijckoaaGreatDlRun
import Derived.Test.YtgkcnocfijckoaaGreatDlFew
import Derived.Maps.AppendAt
import Derived.Laws.Rows
namespace Go.Proofs.YtgkcnocfijckoaaGreat
open Go.RowKit Sg
set_option linter.unusedVariables false
set_option linter.unusedSimpArgs false
/-- the next step -/
def stepRd (z : RSt) : St × RSt :=
  if (stNum z).1 % 2 = 1 then (⟨((stNum (stNum z).2).1 : Nat), (((stNum z).1 / 2 : Nat) : Int), ByteArray.empty⟩, (stNum (stNum z).2).2)
  else if 4096 < (stNum z).1 / 2 then (⟨0, -1, ByteArray.empty⟩, (stNum z).2)
  else (⟨0, 0, mkB (stRaw ((stNum z).1 / 2) (stNum z).2).1⟩, (stRaw ((stNum z).1 / 2) (stNum z).2).2)
theorem stepRd_copy {z : RSt} (h : (stNum z).1 % 2 = 1) : stepRd z = (⟨((stNum (stNum z).2).1 : Nat), (((stNum z).1 / 2 : Nat) : Int), ByteArray.empty⟩, (stNum (stNum z).2).2) := by unfold stepRd; rw [if_pos h]
theorem stepRd_long {z : RSt} (h : ¬ (stNum z).1 % 2 = 1) (h2 : 4096 < (stNum z).1 / 2) : stepRd z = (⟨0, -1, ByteArray.empty⟩, (stNum z).2) := by unfold stepRd; rw [if_neg h, if_pos h2]
theorem stepRd_text {z : RSt} (h : ¬ (stNum z).1 % 2 = 1) (h2 : ¬ 4096 < (stNum z).1 / 2) : stepRd z = (⟨0, 0, mkB (stRaw ((stNum z).1 / 2) (stNum z).2).1⟩, (stRaw ((stNum z).1 / 2) (stNum z).2).2) := by unfold stepRd; rw [if_neg h, if_neg h2]
theorem stRaw_len (n : Nat) (z : RSt) : (stRaw n z).1.length ≤ n := by
  unfold stRaw
  split
  · split
    · simp
    · simp; omega
  · simp
theorem stepRd_bd (z : RSt) : 0 ≤ (stepRd z).1.pos ∧ (stepRd z).1.pos ≤ 4611686018427387903 ∧ -1 ≤ (stepRd z).1.len ∧ (stepRd z).1.len ≤ 4611686018427387903 ∧ (stepRd z).1.text.size ≤ 4096 := by
  have h1 := stNum_le z
  have h2 := stNum_le (stNum z).2
  by_cases a : (stNum z).1 % 2 = 1
  · rw [stepRd_copy a]; simp only [ByteArray.size_empty]; omega
  · by_cases b : 4096 < (stNum z).1 / 2
    · rw [stepRd_long a b]; simp only [ByteArray.size_empty]; omega
    · rw [stepRd_text a b]
      have := stRaw_len ((stNum z).1 / 2) (stNum z).2
      simp only [mkB, ByteArray.size, List.size_toArray]; omega
/-- a step takes a byte at least -/
theorem stepRd_left (z : RSt) (h : (stepRd z).2.2 = 0) : (stepRd z).2.1.length + 1 ≤ z.1.length := by
  have hn : ∀ y : RSt, (stNum y).2.2 = 0 → (stNum y).2.1.length + 1 ≤ y.1.length := fun y hy => by
    have a := (stNum_there hy).2
    have b := numL_pos (stNum y).1
    have c := congrArg List.length a
    rw [List.length_append] at c; omega
  by_cases a : (stNum z).1 % 2 = 1
  · rw [stepRd_copy a] at h ⊢
    have h1 := (stNum_there h).1
    have := hn _ h; have := hn _ h1
    simp only at *; omega
  · by_cases b : 4096 < (stNum z).1 / 2
    · rw [stepRd_long a b] at h ⊢; exact hn _ h
    · rw [stepRd_text a b] at h ⊢
      obtain ⟨h1, h2, _⟩ := stRaw_there h
      have c := congrArg List.length h2
      have := hn _ h1
      rw [List.length_append] at c
      simp only at *; omega
theorem stepRd_err {z : RSt} (h : z.2 ≠ 0) : (stepRd z).2 = z := by
  have e : stNum z = (0, z) := stNum_err h
  have e1 : (stNum z).1 = 0 := by rw [e]
  rw [stepRd_text (by rw [e1]; decide) (by rw [e1]; decide), e]
  exact stRaw_keep h
open Classical in
/-- the steps: the list, the reader, the error -/
noncomputable def rdSteps : Nat → List St → RSt → List St × RSt × Nat
  | 0, acc, z => (acc, z, 0)
  | n + 1, acc, z => if (stepRd z).2.2 ≠ 0 then ([], (stepRd z).2, (stepRd z).2.2) else if rightS (stepRd z).1 then rdSteps n (acc ++ [(stepRd z).1]) (stepRd z).2 else ([], (stepRd z).2, 5)
theorem rdSteps_end (acc : List St) (z : RSt) : rdSteps 0 acc z = (acc, z, 0) := rfl
theorem rdSteps_err {n k : Nat} {acc : List St} {z : RSt} (hk : k < n) (h : (stepRd z).2.2 ≠ 0) : rdSteps (n - k) acc z = ([], (stepRd z).2, (stepRd z).2.2) := by
  rw [show n - k = (n - (k + 1)) + 1 by omega, rdSteps, if_pos h]
theorem rdSteps_bad {n k : Nat} {acc : List St} {z : RSt} (hk : k < n) (h : ¬ (stepRd z).2.2 ≠ 0) (h2 : ¬ rightS (stepRd z).1) : rdSteps (n - k) acc z = ([], (stepRd z).2, 5) := by
  rw [show n - k = (n - (k + 1)) + 1 by omega, rdSteps, if_neg h, if_neg h2]
theorem rdSteps_go {n k : Nat} {acc : List St} {z : RSt} (hk : k < n) (h : ¬ (stepRd z).2.2 ≠ 0) (h2 : rightS (stepRd z).1) : rdSteps (n - k) acc z = rdSteps (n - (k + 1)) (acc ++ [(stepRd z).1]) (stepRd z).2 := by
  rw [show n - k = (n - (k + 1)) + 1 by omega, rdSteps, if_neg h, if_pos h2]
def dl0 : Dl := ⟨ByteArray.empty, ByteArray.empty, 0, []⟩
open Classical in
noncomputable def rdTail (b m : ByteArray) (s : Int) (R : List St × RSt × Nat) : Dl × Nat :=
  if R.2.2 ≠ 0 then (dl0, R.2.2) else if (stEnd R.2.1).2 ≠ 0 then (dl0, (stEnd R.2.1).2) else if RightP ⟨b, m, s, R.1⟩ then (⟨b, m, s, R.1⟩, 0) else (dl0, 5)
noncomputable def readD (l : List UInt8) : Dl × Nat :=
  rdTail (mkB (stRaw 32 (l, 0)).1) (mkB (stRaw 32 (stRaw 32 (l, 0)).2).1) ((stNum (stRaw 32 (stRaw 32 (l, 0)).2).2).1 : Nat) (rdSteps (stNum (stNum (stRaw 32 (stRaw 32 (l, 0)).2).2).2).1 [] (stNum (stNum (stRaw 32 (stRaw 32 (l, 0)).2).2).2).2)
theorem step_new2 (w : World) : Blk (w.alloc (Obj.cells #[.int .i64 0, .int .i64 0, .string ByteArray.empty] 107)) w.heap.size [.int .i64 0, .int .i64 0, .string ByteArray.empty] 107 := Blk.new w _ _
theorem grown_setNew {w w' : World} {row : Option Nat} {q : Nat} (h : w.grownBy w' row) (hq : w.heap.size ≤ q) (i : Nat) (v : Value) : w.grownBy (w'.setCell ⟨q, i, none⟩ v) row := by
  have hgs : w'.grownBy (w'.setCell ⟨q, i, none⟩ v) (some q) := grown_set (grown_refl _ _) i v
  refine ⟨hgs.os.trans h.os, hgs.tape.trans h.tape, hgs.output.trans h.output, Nat.le_trans h.size hgs.size, fun k hk1 hk2 => ?_⟩
  rw [hgs.block k (Nat.lt_of_lt_of_le hk1 h.size) (by simp; omega)]
  exact h.block k hk1 hk2
set_option maxRecDepth 100000 in
set_option maxHeartbeats 1000000 in
theorem step_rd (w : World) (p : Nat) (s : ByteArray) (z : RSt) (hs : s.size ≤ 1000000000) (h : RdB 127 w p s z) :
    Calls Tryz.prog 59 #[.pointer (some ⟨p, 0, none⟩)] w fun e w' => e = .returned (.agg #[.int .i64 (stepRd z).1.pos, .int .i64 (stepRd z).1.len, .string (stepRd z).1.text]) ∧ RdB 127 w' p s (stepRd z).2 ∧ w.grownBy w' (some p) := by
  have hstz := stepZ_run
  obtain ⟨V1, hV1⟩ : ∃ V, V = w.alloc (Obj.cells #[.int .i64 0, .int .i64 0, .string ByteArray.empty] 107) := ⟨_, rfl⟩
  obtain ⟨p2, hp2⟩ : ∃ q, q = w.heap.size := ⟨_, rfl⟩
  have hX : Blk V1 p2 [.int .i64 0, .int .i64 0, .string ByteArray.empty] 107 := by rw [hV1, hp2]; exact Blk.new _ _ _
  have hg1 : w.grownBy V1 (some p) := by rw [hV1]; exact grown_alloc (grown_refl _ _) _
  have hp : p < p2 := by rw [hp2]; exact h.lt
  have hr : RdB 127 V1 p s z := by rw [hV1]; exact h.grown (World.grownBy_alloc w _ none) (by simp)
  have HN := Lib.hid (num_rd V1 p s z hs hr)
  have hle := stNum_le z
  obtain ⟨R, hR⟩ : ∃ R, R = stepRd z := ⟨_, rfl⟩
  obtain ⟨Q, hQ⟩ : ∃ Q, Q = stNum z := ⟨_, rfl⟩
  have HC : Hid (Q.1 % 2 = 1 → R = (⟨((stNum Q.2).1 : Nat), ((Q.1 / 2 : Nat) : Int), ByteArray.empty⟩, (stNum Q.2).2)) := Lib.hid (fun h => by rw [hR, hQ]; exact stepRd_copy (by rw [← hQ]; exact h))
  have HL : Hid (¬ Q.1 % 2 = 1 → 4096 < Q.1 / 2 → R = (⟨0, -1, ByteArray.empty⟩, Q.2)) := Lib.hid (fun h h2 => by rw [hR, hQ]; exact stepRd_long (by rw [← hQ]; exact h) (by rw [← hQ]; exact h2))
  have HT : Hid (¬ Q.1 % 2 = 1 → ¬ 4096 < Q.1 / 2 → R = (⟨0, 0, mkB (stRaw (Q.1 / 2) Q.2).1⟩, (stRaw (Q.1 / 2) Q.2).2)) := Lib.hid (fun h h2 => by rw [hR, hQ]; exact stepRd_text (by rw [← hQ]; exact h) (by rw [← hQ]; exact h2))
  rw [← hQ] at HN hle
  rw [← hR]
  obtain ⟨K, z1⟩ := Q
  simp only at HN hle HC HL HT
  have HX := Lib.hid (And.intro hX (And.intro hg1 hp))
  have HP2 := Lib.hid hp2
  have HV1 := Lib.hid hV1
  have hand : bits .and .i64 (K : Int) 1 = ((K % 2 : Nat) : Int) := by
    have := i64_and K 1 (by omega) (by decide)
    rw [Nat.and_one_is_mod] at this
    exact this
  clear hX hg1 hp hr hp2 hV1 h hR hQ
  go_enter Tryz.func59, Tryz.ntmps59
  go_upto_region 1 with fail
  rw [← HP2.out, ← HV1.out]
  go_wp2_with fail
  refine HN.out.mono ?_
  rintro e w3 ⟨rfl, hr3, hg3⟩
  have HG3 := Lib.hid (grown_trans HX.out.2.1 hg3)
  have HX3 := Lib.hid (HX.out.1.grown hg3 (by have := HX.out.2.2; simp; omega))
  have HR3 := Lib.hid hr3
  clear hr3 hg3 HN
  by_cases h1 : K % 2 = 1
  · have HE := Lib.hid (HC.out h1)
    have e1 : (((K % 2 : Nat) : Int) == 1) = true := by rw [h1]; rfl
    have HN3 := Lib.hid (num_rd w3 p s z1 hs HR3.out)
    clear HC HL HT h1
    go_wp2_with fail
    refine HN3.out.mono ?_
    rintro e w4 ⟨rfl, hr4, hg4⟩
    have hX4 := HX3.out.grown hg4 (by have := HX.out.2.2; simp; omega)
    have HF := Lib.hid (And.intro hX4 (And.intro hr4 (grown_trans HG3.out hg4)))
    have z0 := hX4.cell (i := 0) rfl
    have z1 := hX4.cell (i := 1) rfl
    have z2 := hX4.cell (i := 2) rfl
    have f0 := hX4.frozen 0
    have f1 := hX4.frozen 1
    have f2 := hX4.frozen 2
    clear hX4 hr4 hg4
    go_wp2
    refine bodyPost_ret (results_cell_row rfl _ _ p2 107 _ (0, 0) _ rfl (((HF.out.1.set 0 _).set 1 _).set 2 _) Tryz.underlying107 rfl (by kernel_rfl)) rfl ?_
    rw [HE.out]
    exact ⟨rfl, HF.out.2.1.grown (grown_set (grown_set (grown_set (grown_refl _ (some p2)) _ _) _ _) _ _) (by have := HX.out.2.2; simp; omega), grown_setNew (grown_setNew (grown_setNew HF.out.2.2 (by rw [HP2.out]; exact Nat.le_refl _) _ _) (by rw [HP2.out]; exact Nat.le_refl _) _ _) (by rw [HP2.out]; exact Nat.le_refl _) _ _⟩
  · by_cases h2 : 4096 < K / 2
    · have HE := Lib.hid (HL.out h1 h2)
      have e1 : (((K % 2 : Nat) : Int) == 1) = false := by simp; omega
      have e2 : decide ((4096 : Int) < (K : Int) / 2) = true := decide_eq_true (by omega)
      have hX4 := HX3.out
      have HF := Lib.hid (And.intro hX4 (And.intro HR3.out HG3.out))
      have z0 := hX4.cell (i := 0) rfl
      have z1 := hX4.cell (i := 1) rfl
      have z2 := hX4.cell (i := 2) rfl
      have f0 := hX4.frozen 0
      have f1 := hX4.frozen 1
      have f2 := hX4.frozen 2
      clear hX4 HC HL HT h1 h2
      go_wp2
      refine bodyPost_ret (results_cell_row rfl _ _ p2 107 _ (0, 0) _ rfl (((HF.out.1.set 0 _).set 1 _).set 2 _) Tryz.underlying107 rfl (by kernel_rfl)) rfl ?_
      rw [HE.out]
      exact ⟨rfl, HF.out.2.1.grown (grown_set (grown_set (grown_set (grown_refl _ (some p2)) _ _) _ _) _ _) (by have := HX.out.2.2; simp; omega), grown_setNew (grown_setNew (grown_setNew HF.out.2.2 (by rw [HP2.out]; exact Nat.le_refl _) _ _) (by rw [HP2.out]; exact Nat.le_refl _) _ _) (by rw [HP2.out]; exact Nat.le_refl _) _ _⟩
    · have HE := Lib.hid (HT.out h1 h2)
      have e1 : (((K % 2 : Nat) : Int) == 1) = false := by simp; omega
      have e2 : decide ((4096 : Int) < (K : Int) / 2) = false := decide_eq_false (by omega)
      have HN3 : Hid (Calls Tryz.prog 57 #[.pointer (some ⟨p, 0, none⟩), .int .i64 ((K : Int) / 2)] w3 fun e w' => e = .returned (.string (mkB (stRaw (K / 2) z1).1)) ∧ RdB 127 w' p s (stRaw (K / 2) z1).2 ∧ w3.grownBy w' (some p)) := Lib.hid (by
        have := raw_rd w3 p s z1 (K / 2) (by omega) hs HR3.out
        have hc : ((K / 2 : Nat) : Int) = (K : Int) / 2 := by omega
        rw [hc] at this; exact this)
      clear HC HL HT h1 h2
      go_wp2_with fail
      refine HN3.out.mono ?_
      rintro e w4 ⟨rfl, hr4, hg4⟩
      have hX4 := HX3.out.grown hg4 (by have := HX.out.2.2; simp; omega)
      have HF := Lib.hid (And.intro hX4 (And.intro hr4 (grown_trans HG3.out hg4)))
      have z0 := hX4.cell (i := 0) rfl
      have z1 := hX4.cell (i := 1) rfl
      have z2 := hX4.cell (i := 2) rfl
      have f0 := hX4.frozen 0
      have f1 := hX4.frozen 1
      have f2 := hX4.frozen 2
      clear hX4 hr4 hg4
      go_wp2
      refine bodyPost_ret (results_cell_row rfl _ _ p2 107 _ (0, 0) _ rfl (((HF.out.1.set 0 _).set 1 _).set 2 _) Tryz.underlying107 rfl (by kernel_rfl)) rfl ?_
      rw [HE.out]
      exact ⟨rfl, HF.out.2.1.grown (grown_set (grown_set (grown_set (grown_refl _ (some p2)) _ _) _ _) _ _) (by have := HX.out.2.2; simp; omega), grown_setNew (grown_setNew (grown_setNew HF.out.2.2 (by rw [HP2.out]; exact Nat.le_refl _) _ _) (by rw [HP2.out]; exact Nat.le_refl _) _ _) (by rw [HP2.out]; exact Nat.le_refl _) _ _⟩
/-- the state of the reading: what goes out, the delta so far, the reader -/
structure RdS (T : TypeId) (w wr : World) (pz pr pd : Nat) (s b m : ByteArray) (sz : Int) (v : Value) (L : List St) (z : RSt) : Prop where
  zb : Blk wr pz [.string ByteArray.empty, .string ByteArray.empty, .int .i64 0, .slice none 0 0] 55
  g : Blk wr pd [.string b, .string m, .int .i64 sz, v] 55
  r : RdB T wr pr s z
  o : Own wr (pd + 1) v L
  bl : Below w.heap.size w wr
  o1 : w.heap.size ≤ pz
  o2 : pz < pr
  o3 : pr < pd
section
variable {T : TypeId} {w wr : World} {pz pr pd : Nat} {s b m : ByteArray} {sz : Int} {v : Value} {L : List St} {z : RSt}
theorem RdS.next (h : RdS T w wr pz pr pd s b m sz v L z) {w' : World} (hb : Below wr.heap.size wr w') : RdS T w w' pz pr pd s b m sz v L z :=
  ⟨h.zb.below hb h.zb.lt, h.g.below hb h.g.lt, h.r.next hb, h.o.below hb, bl_nx h.bl hb, h.o1, h.o2, h.o3⟩
theorem RdS.alloc (h : RdS T w wr pz pr pd s b m sz v L z) (ob : Obj) : RdS T w (wr.alloc ob) pz pr pd s b m sz v L z := h.next (below_alloc _ _)
theorem RdS.read (h : RdS T w wr pz pr pd s b m sz v L z) {w' : World} {z' : RSt} (hr : RdB T w' pr s z') (hg : wr.grownBy w' (some pr)) : RdS T w w' pz pr pd s b m sz v L z' := by
  have h1 := h.o1; have h2 := h.o2; have h3 := h.o3
  exact ⟨h.zb.grown hg (by simp; omega), h.g.grown hg (by simp; omega), hr, World.ownsRow.kept h.o hg (.inr fun e => by have := (World.ownsRow.lt h.o pr e).1; omega), h.bl.grown hg h.bl.size (fun k hk => by cases hk; omega), h1, h2, h3⟩
end
theorem errs_d (w : World) (p : Nat) (s : ByteArray) (z : RSt) (h : RdB 127 w p s z) :
    Calls Tryz.prog 60 #[.pointer (some ⟨p, 0, none⟩)] w fun e' w' => e' = .returned (.int .i64 (z.2 : Nat)) ∧ w = w' := by
  obtain ⟨a, ha, hl, hb⟩ := h
  exact err_rd w p s a z.2 hb
theorem RdS.app {T : TypeId} {w wr : World} {pz pr pd : Nat} {s b m : ByteArray} {sz : Int} {v : Value} {L : List St} {z : RSt} (h : RdS T w wr pz pr pd s b m sz v L z) {w5 : World} {v5 : Value} {x : St} (ho : w5.ownsRow (pd + 1) 107 3 v5 (L.length + 1) (L.flatMap St.c ++ x.c)) (hg : wr.grownBy w5 v.ownBlock) :
    RdS T w (w5.setCell ⟨pd, 3, none⟩ v5) pz pr pd s b m sz v5 (L ++ [x]) z := by
  have h1 := h.o1; have h2 := h.o2; have h3 := h.o3
  have hgs : w5.grownBy (w5.setCell ⟨pd, 3, none⟩ v5) (some pd) := grown_set (grown_refl _ _) 3 _
  have far : ∀ q, q ≤ pd → some q ≠ v.ownBlock := fun q hq e => by have := (World.ownsRow.lt h.o q e.symm).1; omega
  have hO : Own w5 (pd + 1) v5 (L ++ [x]) := Own.snoc ho
  refine ⟨(h.zb.grown hg (far pz (by omega))).setOther (by simp; omega) v5, (h.g.grown hg (far pd (by omega))).set 3 v5, (h.r.grown hg (far pr (by omega))).grown hgs (by simp; omega), World.ownsRow.kept hO hgs (.inr fun e => by have := (World.ownsRow.lt hO pd e).1; omega), ?_, h1, h2, h3⟩
  have hb5 : Below w.heap.size w w5 := h.bl.grown hg h.bl.size (fun k hk => by have := (World.ownsRow.lt h.o k hk).1; omega)
  exact hb5.grown hgs hb5.size (fun k hk => by cases hk; omega)
theorem RdS.put {T : TypeId} {w wr : World} {pz pr pd : Nat} {s b m : ByteArray} {sz : Int} {v : Value} {L : List St} {z : RSt} (h : RdS T w wr pz pr pd s b m sz v L z) (v0 v1 v2 v3 : Value) :
    Blk ((((wr.setCell ⟨pz, 0, none⟩ v0).setCell ⟨pz, 1, none⟩ v1).setCell ⟨pz, 2, none⟩ v2).setCell ⟨pz, 3, none⟩ v3) pz [v0, v1, v2, v3] 55 ∧ Below w.heap.size w ((((wr.setCell ⟨pz, 0, none⟩ v0).setCell ⟨pz, 1, none⟩ v1).setCell ⟨pz, 2, none⟩ v2).setCell ⟨pz, 3, none⟩ v3) ∧ Own ((((wr.setCell ⟨pz, 0, none⟩ v0).setCell ⟨pz, 1, none⟩ v1).setCell ⟨pz, 2, none⟩ v2).setCell ⟨pz, 3, none⟩ v3) w.heap.size v L := by
  have hg : wr.grownBy ((((wr.setCell ⟨pz, 0, none⟩ v0).setCell ⟨pz, 1, none⟩ v1).setCell ⟨pz, 2, none⟩ v2).setCell ⟨pz, 3, none⟩ v3) (some pz) := grown_set (grown_set (grown_set (grown_set (grown_refl _ _) 0 v0) 1 v1) 2 v2) 3 v3
  have h1 := h.o1; have h2 := h.o2; have h3 := h.o3
  refine ⟨(((h.zb.set 0 v0).set 1 v1).set 2 v2).set 3 v3, h.bl.grown hg h.bl.size (fun k hk => by cases hk; omega), ?_⟩
  have hk : Own ((((wr.setCell ⟨pz, 0, none⟩ v0).setCell ⟨pz, 1, none⟩ v1).setCell ⟨pz, 2, none⟩ v2).setCell ⟨pz, 3, none⟩ v3) (pd + 1) v L := World.ownsRow.kept h.o hg (.inr fun e => by have := (World.ownsRow.lt h.o pz e).1; omega)
  exact owns_mono hk (by omega)
theorem rdTail_err {b m : ByteArray} {s : Int} {R : List St × RSt × Nat} (h : R.2.2 ≠ 0) : rdTail b m s R = (dl0, R.2.2) := by unfold rdTail; rw [if_pos h]
theorem rdTail_end {b m : ByteArray} {s : Int} {R : List St × RSt × Nat} (h : ¬ R.2.2 ≠ 0) (h2 : (stEnd R.2.1).2 ≠ 0) : rdTail b m s R = (dl0, (stEnd R.2.1).2) := by unfold rdTail; rw [if_neg h, if_pos h2]
theorem rdTail_yes {b m : ByteArray} {s : Int} {R : List St × RSt × Nat} (h : ¬ R.2.2 ≠ 0) (h2 : ¬ (stEnd R.2.1).2 ≠ 0) (h3 : RightP ⟨b, m, s, R.1⟩) : rdTail b m s R = (⟨b, m, s, R.1⟩, 0) := by unfold rdTail; rw [if_neg h, if_neg h2, if_pos h3]
theorem rdTail_no {b m : ByteArray} {s : Int} {R : List St × RSt × Nat} (h : ¬ R.2.2 ≠ 0) (h2 : ¬ (stEnd R.2.1).2 ≠ 0) (h3 : ¬ RightP ⟨b, m, s, R.1⟩) : rdTail b m s R = (dl0, 5) := by unfold rdTail; rw [if_neg h, if_neg h2, if_neg h3]
theorem fit_any {x : St} : fitS (-1) x := fun _ => .inl (by decide)
theorem rightS_ok {x : St} (h : rightS x) : x.ok := by
  obtain ⟨r1, r2, r3, r4, r5⟩ := rightS_pos h
  exact ⟨wfI _ (by omega) (by omega), wfI _ (by omega) (by omega), by unfold maxLen; omega⟩
/-- what Read answers -/
def ReadR (d : Dl × Nat) (w : World) (e : Ending) (w' : World) : Prop := ∃ v, e = .returned (.tuple #[.agg #[.string d.1.basis, .string d.1.mark, .int .i64 d.1.size, v], .int .i64 (d.2 : Nat)]) ∧ Own w' w.heap.size v d.1.steps ∧ Below w.heap.size w w'
theorem ReadR.zero {e : Nat} {w w' : World} {d : Dl × Nat} (hd : d = (dl0, e)) (hb : Below w.heap.size w w') : ReadR d w (.returned (.tuple #[.agg #[.string ByteArray.empty, .string ByteArray.empty, .int .i64 0, .slice none 0 0], .int .i64 (e : Nat)])) w' := by
  rw [hd]; exact ⟨_, rfl, Own.nil _ _, hb⟩
set_option maxRecDepth 100000 in
set_option maxHeartbeats 4000000 in
theorem read_d (w : World) (s : ByteArray) (hs : s.size ≤ 1000000) : Calls Tryz.prog 25 #[.string s] w (ReadR (readD s.data.toList) w) := by
  obtain ⟨i0, hi, hz0, hz1, hz2⟩ := info_parts infoStep
  have hstz := stepZ_run
  have hdz := deltaZ_run
  obtain ⟨V1, hV1⟩ : ∃ V, V = w.alloc (Obj.cells #[.string ByteArray.empty, .string ByteArray.empty, .int .i64 0, .slice none 0 0] 55) := ⟨_, rfl⟩
  obtain ⟨pz, hpz⟩ : ∃ p, p = w.heap.size := ⟨_, rfl⟩
  have hZ1 : Blk V1 pz [.string ByteArray.empty, .string ByteArray.empty, .int .i64 0, .slice none 0 0] 55 := by rw [hV1, hpz]; exact Blk.new _ _ _
  have hB1 : Below w.heap.size w V1 := by rw [hV1]; exact below_alloc _ _
  have HZ1 := Lib.hid (And.intro hZ1 hB1)
  have HV1 := Lib.hid hV1
  have HPZ := Lib.hid hpz
  obtain ⟨P, hP⟩ : ∃ P, P = readD s.data.toList := ⟨_, rfl⟩
  rw [← hP]
  unfold readD at hP
  obtain ⟨R1, hR1⟩ : ∃ R, R = stRaw 32 (s.data.toList, 0) := ⟨_, rfl⟩
  rw [← hR1] at hP
  obtain ⟨b1, z1⟩ := R1
  simp only at hP
  obtain ⟨R2, hR2⟩ : ∃ R, R = stRaw 32 z1 := ⟨_, rfl⟩
  rw [← hR2] at hP
  obtain ⟨b2, z2⟩ := R2
  simp only at hP
  obtain ⟨R3, hR3⟩ : ∃ R, R = stNum z2 := ⟨_, rfl⟩
  have hb3 := stNum_le z2
  rw [← hR3] at hP hb3
  obtain ⟨sz, z3⟩ := R3
  simp only at hP hb3
  obtain ⟨R4, hR4⟩ : ∃ R, R = stNum z3 := ⟨_, rfl⟩
  have hb4 := stNum_le z3
  rw [← hR4] at hP hb4
  obtain ⟨n, z4⟩ := R4
  simp only at hP hb4
  have hl4 : z4.1.length ≤ s.size := by
    have a1 := stRaw_left 32 (s.data.toList, 0)
    have a2 := stRaw_left 32 z1
    have a3 := stNum_left z2
    have a4 := stNum_left z3
    rw [← hR1] at a1
    rw [← hR2] at a2
    rw [← hR3] at a3
    rw [← hR4] at a4
    have := a1.len; have := a2.len; have := a3.len; have := a4.len
    simp only [bs_len] at *
    omega
  obtain ⟨B1, hB1e⟩ : ∃ B, B = mkB b1 := ⟨_, rfl⟩
  obtain ⟨B2, hB2e⟩ : ∃ B, B = mkB b2 := ⟨_, rfl⟩
  have hs1 : B1.size ≤ 32 := by rw [hB1e]; have := stRaw_len 32 (s.data.toList, 0); rw [← hR1] at this; simpa [mkB, ByteArray.size] using this
  have hs2 : B2.size ≤ 32 := by rw [hB2e]; have := stRaw_len 32 z1; rw [← hR2] at this; simpa [mkB, ByteArray.size] using this
  rw [← hB1e, ← hB2e] at hP
  obtain ⟨R, hR⟩ : ∃ R, R = rdSteps n [] z4 := ⟨_, rfl⟩
  rw [← hR] at hP
  have HP := Lib.hid hP
  have HR0 := Lib.hid hR
  have HR1 := Lib.hid hR1
  have HR2 := Lib.hid hR2
  have HR3 := Lib.hid hR3
  have HR4 := Lib.hid hR4
  have HB1E := Lib.hid hB1e
  have HB2E := Lib.hid hB2e
  clear hP hR hR1 hR2 hR3 hR4 hB1e hB2e hZ1 hB1 hV1 hpz
  go_enter Tryz.func25, Tryz.ntmps25
  go_upto_region 1 with fail
  rw [← HPZ.out, ← HV1.out]
  go_wp2_with fail
  refine (read_any V1 s).mono ?_
  rintro e w2 ⟨rfl, hr2, hb2⟩
  obtain ⟨pr, hpr⟩ : ∃ p, p = V1.heap.size := ⟨_, rfl⟩
  rw [← hpr] at hr2
  rw [← hpr]
  have HPR := Lib.hid hpr
  have HO2 : Hid (pz < pr) := Lib.hid (by rw [hpr]; exact HZ1.out.1.lt)
  have HWZ : Hid (w.heap.size ≤ pz) := Lib.hid (by rw [HPZ.out]; exact Nat.le_refl _)
  have H2 := Lib.hid (And.intro hr2 (And.intro (HZ1.out.1.below hb2 HZ1.out.1.lt) (bl_nx HZ1.out.2 hb2)))
  clear hr2 hb2 hpr
  go_wp2_with fail
  refine (raw_rd w2 pr s _ 32 (by omega) (by omega) H2.out.1).mono ?_
  rw [← HR1.out]
  rintro e w3 ⟨rfl, hr3, hg3⟩
  simp only at hr3 ⊢
  rw [← HB1E.out]
  have H3 := Lib.hid (And.intro hr3 (And.intro (H2.out.2.1.grown hg3 (by have := HO2.out; simp; omega)) (H2.out.2.2.grown hg3 H2.out.2.2.size (fun k hk => by cases hk; have := HO2.out; have := HWZ.out; omega))))
  clear hr3 hg3
  go_wp2_with fail
  refine (raw_rd w3 pr s _ 32 (by omega) (by omega) H3.out.1).mono ?_
  rw [← HR2.out]
  rintro e w4 ⟨rfl, hr4, hg4⟩
  simp only at hr4 ⊢
  rw [← HB2E.out]
  have H4 := Lib.hid (And.intro hr4 (And.intro (H3.out.2.1.grown hg4 (by have := HO2.out; simp; omega)) (H3.out.2.2.grown hg4 H3.out.2.2.size (fun k hk => by cases hk; have := HO2.out; have := HWZ.out; omega))))
  clear hr4 hg4
  go_wp2_with fail
  refine (num_rd w4 pr s _ (by omega) H4.out.1).mono ?_
  rw [← HR3.out]
  rintro e w5 ⟨rfl, hr5, hg5⟩
  simp only at hr5 ⊢
  have H5 := Lib.hid (And.intro hr5 (And.intro (H4.out.2.1.grown hg5 (by have := HO2.out; simp; omega)) (H4.out.2.2.grown hg5 H4.out.2.2.size (fun k hk => by cases hk; have := HO2.out; have := HWZ.out; omega))))
  clear hr5 hg5
  obtain ⟨V6, hV6⟩ : ∃ V, V = w5.alloc (Obj.cells #[.string B1, .string B2, .int .i64 sz, .slice none 0 0] 55) := ⟨_, rfl⟩
  obtain ⟨pd, hpd⟩ : ∃ p, p = w5.heap.size := ⟨_, rfl⟩
  have HS6 : Hid (RdS 127 w V6 pz pr pd s B1 B2 sz (.slice none 0 0) [] z3) := by
    have h1 := H5.out.1.lt
    rw [hV6, hpd]
    exact Lib.hid ⟨H5.out.2.1.alloc _, Blk.new w5 _ _, H5.out.1.grown (World.grownBy_alloc w5 _ none) (by simp), Own.nil _ _, H5.out.2.2.alloc H5.out.2.2.size _, HWZ.out, HO2.out, h1⟩
  have HV6 := Lib.hid hV6
  have HPD := Lib.hid hpd
  clear hV6 hpd
  go_upto_region 3 with fail
  rw [← HPD.out, ← HV6.out]
  go_wp2_with fail
  refine (num_rd V6 pr s _ (by omega) HS6.out.r).mono ?_
  rw [← HR4.out]
  rintro e w7 ⟨rfl, hr7, hg7⟩
  simp only at hr7 ⊢
  have HS7 := Lib.hid (HS6.out.read hr7 hg7)
  clear hr7 hg7 HS6 H5 H4 H3 H2 HV6 HPD HPR HV1 HZ1
  go_wp2_with fail
  go_loopw [21] (fun i wr => ∃ (k : Nat) (v : Value) (L : List St) (z : RSt), i = .int .i64 k ∧ k ≤ n ∧ RdS 127 w wr pz pr pd s B1 B2 sz v L z ∧ R = rdSteps (n - k) L z ∧ L.length + z.1.length ≤ s.size ∧ ∀ x ∈ L, rightS x) (fun i _ => n - (intOf i).toNat)
  case atStart => exact ⟨0, _, [], z4, by go_num, Nat.zero_le _, HS7.out, HR0.out, by simpa using hl4, by simp⟩
  case round =>
    clear HS7 HR0 hl4
    obtain ⟨k, v, L, z, rfl, hk, hS, hRk, hLz, hLR⟩ := hrel
    have HLR := Lib.hid hLR
    clear hLR
    by_cases hlt : k < n
    · have HSR := Lib.hid (step_rd wr pr s z (by omega) hS.r)
      obtain ⟨bd1, bd2, bd3, bd4, bd5⟩ := stepRd_bd z
      have hER : Hid ((stepRd z).2.2 ≠ 0 → R = ([], (stepRd z).2, (stepRd z).2.2)) := Lib.hid (fun h => by rw [hRk]; exact rdSteps_err hlt h)
      have hBAD : Hid (¬ (stepRd z).2.2 ≠ 0 → ¬ rightS (stepRd z).1 → R = ([], (stepRd z).2, 5)) := Lib.hid (fun h h2 => by rw [hRk]; exact rdSteps_bad hlt h h2)
      have hGO : Hid (¬ (stepRd z).2.2 ≠ 0 → rightS (stepRd z).1 → R = rdSteps (n - (k + 1)) (L ++ [(stepRd z).1]) (stepRd z).2) := Lib.hid (fun h h2 => by rw [hRk]; exact rdSteps_go hlt h h2)
      have hLF : Hid ((stepRd z).2.2 = 0 → (stepRd z).2.1.length + 1 ≤ z.1.length) := Lib.hid (stepRd_left z)
      obtain ⟨Q, hQ⟩ : ∃ Q, Q = stepRd z := ⟨_, rfl⟩
      rw [← hQ] at HSR bd1 bd2 bd3 bd4 bd5 hER hBAD hGO hLF
      obtain ⟨x, y⟩ := Q
      simp only at HSR bd1 bd2 bd3 bd4 bd5 hER hBAD hGO hLF
      obtain ⟨xp, xl, xt⟩ := x
      simp only at HSR bd1 bd2 bd3 bd4 bd5 hER hBAD hGO hLF
      have HS := Lib.hid hS
      have i1 : (k : Int) < (n : Int) := by omega
      clear hQ hRk hS
      go_wp2_with fail
      refine HSR.out.mono ?_
      rintro e w8 ⟨rfl, hr8, hg8⟩
      have HS8 := Lib.hid (HS.out.read hr8 hg8)
      clear hr8 hg8 HSR HS
      obtain ⟨V9, hV9⟩ : ∃ V, V = w8.alloc (Obj.cells #[.int .i64 xp, .int .i64 xl, .string xt] 107) := ⟨_, rfl⟩
      obtain ⟨px, hpx⟩ : ∃ p, p = w8.heap.size := ⟨_, rfl⟩
      have hS9 := HS8.out.alloc (Obj.cells #[.int .i64 xp, .int .i64 xl, .string xt] 107)
      have hX9 : Blk V9 px [.int .i64 xp, .int .i64 xl, .string xt] 107 := by rw [hV9, hpx]; exact Blk.new _ _ _
      rw [← hV9] at hS9
      have HS9 := Lib.hid hS9
      have HX9 := Lib.hid hX9
      have HV9 := Lib.hid hV9
      have HPX := Lib.hid hpx
      have hlp : pd < px := by rw [hpx]; exact HS8.out.g.lt
      clear hS9 hX9 hV9 hpx HS8
      go_upto_region 7 with fail
      rw [← HPX.out, ← HV9.out]
      go_wp2_with fail
      refine (errs_d V9 pr s y HS9.out.r).mono ?_
      rintro e w9 ⟨rfl, rfl⟩
      by_cases hy : y.2 = 0
      · have d1 : (((y.2 : Nat) : Int) != 0) = false := by simp [hy]
        have HY := Lib.hid hy
        have y0 := HX9.out.cell (i := 0) rfl
        have y1 := HX9.out.cell (i := 1) rfl
        have y2 := HX9.out.cell (i := 2) rfl
        have HRT := Lib.hid (right_any V9 xp xl xt (wfI _ (by omega) (by omega)) (wfI _ (by omega) (by omega)) (by unfold maxLen; omega) (-1) rfl)
        clear hy
        go_wp2_with fail
        refine HRT.out.mono ?_
        rintro e wa ⟨⟨r, rfl, hr⟩, hba⟩
        have HSX := Lib.hid (HS9.out.next hba)
        have hXa := HX9.out.below hba HX9.out.lt
        clear hba y0 y1 y2 HRT HS9
        cases r with
        | false =>
          have HPE : Hid (P = (dl0, 5)) := Lib.hid (by
            have := hBAD.out (by rw [HY.out]; simp) (fun h => by have := hr.2 ⟨h, fit_any⟩; cases this)
            rw [HP.out, this]; exact rdTail_err (by simp))
          clear hr hXa hBAD hGO hER hLF
          have zc0 := HSX.out.zb.cell (i := 0) rfl
          have zc1 := HSX.out.zb.cell (i := 1) rfl
          have zc2 := HSX.out.zb.cell (i := 2) rfl
          have zc3 := HSX.out.zb.cell (i := 3) rfl
          have f0 := HSX.out.zb.frozen 0
          have f1 := HSX.out.zb.frozen 1
          have f2 := HSX.out.zb.frozen 2
          have f3 := HSX.out.zb.frozen 3
          go_wp2
          refine bodyPost_ret (res_cell_row rfl _ _ pz 55 _ (0, 0) _ rfl (HSX.out.put _ _ _ _).1 Tryz.underlying55 rfl (by kernel_rfl)) rfl ?_
          exact ReadR.zero HPE.out (HSX.out.put _ _ _ _).2.1
        | true =>
          have hrx := (hr.1 rfl).1
          have HRK : Hid (R = rdSteps (n - (k + 1)) (L ++ [⟨xp, xl, xt⟩]) y) := Lib.hid (hGO.out (by rw [HY.out]; simp) hrx)
          have HLL : Hid ((L ++ [(⟨xp, xl, xt⟩ : St)]).length + y.1.length ≤ s.size) := Lib.hid (by have := hLF.out HY.out; rw [List.length_append, List.length_singleton]; omega)
          have HLR2 : Hid (∀ x ∈ L ++ [(⟨xp, xl, xt⟩ : St)], rightS x) := Lib.hid (fun x hx => by rcases List.mem_append.1 hx with h | h; exact HLR.out x h; rw [List.mem_singleton.1 h]; exact hrx)
          obtain ⟨aw, kw, rfl⟩ := owns_slice HSX.out.o
          have q3 := HSX.out.g.cell (i := 3) rfl
          have y0 := hXa.cell (i := 0) rfl
          have y1 := hXa.cell (i := 1) rfl
          have y2 := hXa.cell (i := 2) rfl
          have HOA : Hid (wa.ownsRow (pd + 1) 107 3 (.slice aw L.length kw) L.length (L.flatMap St.c)) := Lib.hid HSX.out.o
          have HLB : Hid (L.length ≤ 1000000) := Lib.hid (by omega)
          have hpdl : pd + 1 ≤ wa.heap.size := HSX.out.g.lt
          clear hr hXa hBAD hGO hER hLF hrx hLz
          go_wp2_with (at_builtin; refine wpList_append_own_at _ rfl _ _ 53 rfl (pd + 1) 107 i0 (.agg #[.int .i64 0, .int .i64 0, .string ByteArray.empty]) 3 32 Tryz.underlying53 hi hz0 hz1 hz2 rfl (by decide) _ L.length (L.flatMap St.c) rfl (World.ownsRow.alloc HOA.out _) ⟨wa.heap.size, 0, none⟩ 1 1 [.int .i64 xp, .int .i64 xl, .string xt] rfl rfl (cells_new wa _ _) (sc_one ⟨xp, xl, xt⟩) (by have := HLB.out; unfold maxLen; omega) (by have := HLB.out; omega) (by simp; omega) ?_)
          intro v5 w5 hO5 hg5 _ _
          obtain ⟨a5, k5, rfl⟩ := owns_slice hO5
          have hS5 := (HSX.out.alloc (.cells #[.int .i64 xp, .int .i64 xl, .string xt] 107)).app (x := ⟨xp, xl, xt⟩) hO5 hg5
          have hG5 := (HSX.out.alloc (.cells #[.int .i64 xp, .int .i64 xl, .string xt] 107)).g.grown hg5 (fun e => by have := (World.ownsRow.lt HOA.out pd e.symm).1; omega)
          have c5 := hG5.cell (i := 3) rfl
          have g5 := hG5.frozen 3
          have HS5 := Lib.hid hS5
          clear hS5 hG5 hO5 hg5 q3 y0 y1 y2 HOA HSX
          go_wp2
          go_roundw
          case rel => exact ⟨k + 1, _, L ++ [⟨xp, xl, xt⟩], y, by go_num, by omega, HS5.out, HRK.out, HLL.out, HLR2.out⟩
          case measure => simp [intOf]; omega
      · have d1 : (((y.2 : Nat) : Int) != 0) = true := by simp [hy]
        have HPE : Hid (P = (dl0, y.2)) := Lib.hid (by rw [HP.out, hER.out hy]; exact rdTail_err hy)
        have HSX := HS9
        clear hBAD hGO hER hLF hy
        go_wp2_with fail
        refine (errs_d V9 pr s y HS9.out.r).mono ?_
        rintro e w9 ⟨rfl, rfl⟩
        have zc0 := HSX.out.zb.cell (i := 0) rfl
        have zc1 := HSX.out.zb.cell (i := 1) rfl
        have zc2 := HSX.out.zb.cell (i := 2) rfl
        have zc3 := HSX.out.zb.cell (i := 3) rfl
        have f0 := HSX.out.zb.frozen 0
        have f1 := HSX.out.zb.frozen 1
        have f2 := HSX.out.zb.frozen 2
        have f3 := HSX.out.zb.frozen 3
        go_wp2
        refine bodyPost_ret (res_cell_row rfl _ _ pz 55 _ (0, 0) _ rfl (HSX.out.put _ _ _ _).1 Tryz.underlying55 rfl (by kernel_rfl)) rfl ?_
        exact ReadR.zero HPE.out (HSX.out.put _ _ _ _).2.1
    · have hRe : R = (L, z, 0) := by rw [hRk, show n - k = 0 by omega]; rfl
      have HEN := Lib.hid (end_rd wr pr s z (by omega) hS.r)
      have HEN1 : Hid ((stEnd z).2 ≠ 0 → P = (dl0, (stEnd z).2)) := Lib.hid (fun h => by rw [HP.out, hRe]; exact rdTail_end (by simp) h)
      have HEN2 : Hid (¬ (stEnd z).2 ≠ 0 → RightP ⟨B1, B2, sz, L⟩ → P = (⟨B1, B2, sz, L⟩, 0)) := Lib.hid (fun h h2 => by rw [HP.out, hRe]; exact rdTail_yes (by simp) h h2)
      have HEN3 : Hid (¬ (stEnd z).2 ≠ 0 → ¬ RightP ⟨B1, B2, sz, L⟩ → P = (dl0, 5)) := Lib.hid (fun h h2 => by rw [HP.out, hRe]; exact rdTail_no (by simp) h h2)
      obtain ⟨y, hy⟩ : ∃ y, y = stEnd z := ⟨_, rfl⟩
      rw [← hy] at HEN HEN1 HEN2 HEN3
      have HS := Lib.hid hS
      have HLB : Hid (L.length ≤ 1000000) := Lib.hid (by omega)
      clear hRe hRk hS hy hLz
      go_wp2_with fail
      refine HEN.out.mono ?_
      rintro e w8 ⟨rfl, hr8, hg8⟩
      have HSX := Lib.hid (HS.out.read hr8 hg8)
      clear hr8 hg8 HS HEN
      by_cases hy : y.2 = 0
      · have d1 : (((y.2 : Nat) : Int) != 0) = false := by simp [hy]
        have HY := Lib.hid hy
        obtain ⟨aw, kw, rfl⟩ := owns_slice HSX.out.o
        have HRT := Lib.hid (deltaRight_any w8 B1 B2 sz aw L.length kw L (wfI _ (by omega) (by omega)) (by unfold maxLen; omega) (by unfold maxLen; omega) (Own.rs rfl HSX.out.o) (fun x hx => rightS_ok (HLR.out x hx)))
        have q0 := HSX.out.g.cell (i := 0) rfl
        have q1 := HSX.out.g.cell (i := 1) rfl
        have q2 := HSX.out.g.cell (i := 2) rfl
        have q3 := HSX.out.g.cell (i := 3) rfl
        have HS8 := HSX
        clear HSX hy
        go_wp2_with fail
        refine HRT.out.mono ?_
        rintro e wa ⟨⟨r, rfl, hr⟩, hba⟩
        have HSX := Lib.hid (HS8.out.next hba)
        clear hba HRT HS8 q0 q1 q2 q3
        cases r with
        | false =>
          have HPE : Hid (P = (dl0, 5)) := Lib.hid (HEN3.out (by rw [HY.out]; simp) (fun h => by have := hr.2 h; cases this))
          clear hr HEN1 HEN2 HEN3
          have zc0 := HSX.out.zb.cell (i := 0) rfl
          have zc1 := HSX.out.zb.cell (i := 1) rfl
          have zc2 := HSX.out.zb.cell (i := 2) rfl
          have zc3 := HSX.out.zb.cell (i := 3) rfl
          have f0 := HSX.out.zb.frozen 0
          have f1 := HSX.out.zb.frozen 1
          have f2 := HSX.out.zb.frozen 2
          have f3 := HSX.out.zb.frozen 3
          go_wp2
          refine bodyPost_ret (res_cell_row rfl _ _ pz 55 _ (0, 0) _ rfl (HSX.out.put _ _ _ _).1 Tryz.underlying55 rfl (by kernel_rfl)) rfl ?_
          exact ReadR.zero HPE.out (HSX.out.put _ _ _ _).2.1
        | true =>
          have HPE : Hid (P = (⟨B1, B2, sz, L⟩, 0)) := Lib.hid (HEN2.out (by rw [HY.out]; simp) (hr.1 rfl))
          clear hr HEN1 HEN2 HEN3
          have q0 := HSX.out.g.cell (i := 0) rfl
          have q1 := HSX.out.g.cell (i := 1) rfl
          have q2 := HSX.out.g.cell (i := 2) rfl
          have q3 := HSX.out.g.cell (i := 3) rfl
          have zc0 := HSX.out.zb.cell (i := 0) rfl
          have zc1 := HSX.out.zb.cell (i := 1) rfl
          have zc2 := HSX.out.zb.cell (i := 2) rfl
          have zc3 := HSX.out.zb.cell (i := 3) rfl
          have f0 := HSX.out.zb.frozen 0
          have f1 := HSX.out.zb.frozen 1
          have f2 := HSX.out.zb.frozen 2
          have f3 := HSX.out.zb.frozen 3
          go_wp2
          refine bodyPost_ret (res_cell_row rfl _ _ pz 55 _ (0, 0) _ rfl (HSX.out.put _ _ _ _).1 Tryz.underlying55 rfl (by kernel_rfl)) rfl ?_
          rw [HPE.out]
          exact ⟨_, rfl, (HSX.out.put _ _ _ _).2.2, (HSX.out.put _ _ _ _).2.1⟩
      · have d1 : (((y.2 : Nat) : Int) != 0) = true := by simp [hy]
        have HPE : Hid (P = (dl0, y.2)) := Lib.hid (HEN1.out hy)
        clear HEN1 HEN2 HEN3 hy
        have zc0 := HSX.out.zb.cell (i := 0) rfl
        have zc1 := HSX.out.zb.cell (i := 1) rfl
        have zc2 := HSX.out.zb.cell (i := 2) rfl
        have zc3 := HSX.out.zb.cell (i := 3) rfl
        have f0 := HSX.out.zb.frozen 0
        have f1 := HSX.out.zb.frozen 1
        have f2 := HSX.out.zb.frozen 2
        have f3 := HSX.out.zb.frozen 3
        go_wp2
        refine bodyPost_ret (res_cell_row rfl _ _ pz 55 _ (0, 0) _ rfl (HSX.out.put _ _ _ _).1 Tryz.underlying55 rfl (by kernel_rfl)) rfl ?_
        exact ReadR.zero HPE.out (HSX.out.put _ _ _ _).2.1
end Go.Proofs.YtgkcnocfijckoaaGreat
