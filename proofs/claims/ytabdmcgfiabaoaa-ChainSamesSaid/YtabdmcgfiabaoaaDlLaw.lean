/- Chapter 6's small parts: cut, a block out of range, Sent, the chapter's example. Conditions: as named in each theorem. -/
import Derived.Test.YtabdmcgfiabaoaaDlOf
namespace Go.Proofs.Ytabdmcgfiabaoaa
open Go.RowKit Sg
set_option linter.unusedVariables false
set_option linter.unusedSimpArgs false
set_option maxRecDepth 100000 in
set_option maxHeartbeats 1000000 in
theorem of_bad (w : World) (v : Value) (b s : ByteArray) (block : Int) (wb : (Lit.int .i64 block).wf = true) (hb : ¬ (16 ≤ block ∧ block ≤ 1024)) :
    Calls Try.prog 28 #[v, .string b, .string s, .int .i64 block] w fun e w' => e = .returned (.tuple #[.agg #[.string ByteArray.empty, .string ByteArray.empty, .int .i64 0, .slice none 0 0], .int .i64 1]) ∧ Below w.heap.size w w' := by
  have hdz := dlZ_run
  obtain ⟨V1, hV1⟩ : ∃ V, V = w.alloc (Obj.cells #[.string ByteArray.empty, .string ByteArray.empty, .int .i64 0, .slice none 0 0] 25) := ⟨_, rfl⟩
  obtain ⟨pz, hpz⟩ : ∃ q, q = w.heap.size := ⟨_, rfl⟩
  have hbV : Below w.heap.size w V1 := by rw [hV1]; exact below_alloc _ _
  have hZ1 : Blk V1 pz [.string ByteArray.empty, .string ByteArray.empty, .int .i64 0, .slice none 0 0] 25 := by rw [hV1, hpz]; exact Blk.new _ _ _
  have HSG := Lib.hid (sign_bad V1 v b block wb hb)
  have HZ1 := Lib.hid hZ1
  have HBV := Lib.hid hbV
  have HV1 := Lib.hid hV1
  have HPZ := Lib.hid hpz
  clear hbV hZ1 hV1 hpz
  go_enter Try.func28, Try.ntmps28
  go_upto_region 1 with fail
  rw [← HPZ.out, ← HV1.out]
  go_wp2_with fail
  refine HSG.out.mono ?_
  rintro e w2 ⟨rfl, hb2⟩
  obtain ⟨V3, hV3⟩ : ∃ V, V = w2.alloc (Obj.cells #[.int .i64 0, .int .i64 0, .slice none 0 0, .slice none 0 0] 75) := ⟨_, rfl⟩
  have hw2 : V1.heap.size ≤ w2.heap.size := hb2.size
  have hb3 : Below w2.heap.size w2 V3 := by rw [hV3]; exact below_alloc _ _
  have hZ3 := (HZ1.out.below hb2 HZ1.out.lt).below hb3 (Nat.lt_of_lt_of_le HZ1.out.lt hw2)
  have hB3 := bl_nx (bl_nx HBV.out hb2) hb3
  have z0 := hZ3.cell (i := 0) rfl
  have z1 := hZ3.cell (i := 1) rfl
  have z2 := hZ3.cell (i := 2) rfl
  have z3 := hZ3.cell (i := 3) rfl
  have f0 := hZ3.frozen 0
  have f1 := hZ3.frozen 1
  have f2 := hZ3.frozen 2
  have f3 := hZ3.frozen 3
  have HZ3 := Lib.hid hZ3
  have HB3 := Lib.hid hB3
  have HV3 := Lib.hid hV3
  clear hZ3 hB3 hV3 hb2 hb3 hw2 hb
  go_upto_region 2 with fail
  rw [← HV3.out]
  go_wp2
  have hw : w.heap.size ≤ pz := Nat.le_of_eq HPZ.out.symm
  refine bodyPost_ret (results_cell_tmp_row rfl _ _ pz 25 _ (0, 0) _ rfl ((((HZ3.out.set 0 _).set 1 _).set 2 _).set 3 _) Try.underlying25 rfl (by kernel_rfl)) rfl ?_
  exact ⟨rfl, (((HB3.out.setCell hw _).setCell hw _).setCell hw _).setCell hw _⟩
/-- the bytes that some steps send -/
def sentL (l : List St) : Nat := (l.map (fun x => x.text.size)).sum
theorem below_kept {w w1 w2 : World} {m : Nat} (h : Below w.heap.size w w1) (hm : w.heap.size ≤ m) (hk : Kept (fun k => some m = some k) w1 w2) : Below w.heap.size w w2 :=
  hk.below h h.size (fun k hk e => by injection e with e; omega)
end Go.Proofs.Ytabdmcgfiabaoaa
