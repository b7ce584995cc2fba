/- delta.Of under a real book. Conditions: as named in each theorem. -/
import Derived.Test.YtgemhgllifhckaaQE
import Derived.Test.YtgemhgllifhckaaSgReal
namespace Go.Proofs.Ytgemhgllifhckaa
open Go.RowKit Sg
set_option linter.unusedVariables false
set_option linter.unusedSimpArgs false
/-- the marks of a text's blocks -/
noncomputable def shasOf (basis : ByteArray) (B : Nat) : List ByteArray := (pieces basis B (cnt basis.size B)).map shaS
theorem rl_marks (l : List ByteArray) (S : Bk) : (Rl.marksOf S l).2 = l.map shaS := by
  have h : ∀ (l : List ByteArray) (z : Bk × List ByteArray), (l.foldl Rl.markS z).2 = z.2 ++ l.map shaS := by
    intro l
    induction l with
    | nil => intro z; simp
    | cons p l ih => intro z; rw [List.foldl_cons, ih]; simp [Rl.markS]
  unfold Rl.marksOf
  rw [h]; rfl
theorem shas_size (basis : ByteArray) (B : Nat) : ∀ t ∈ shasOf basis B, t.size = 32 := by
  intro t ht
  obtain ⟨p, _, rfl⟩ := List.mem_map.1 ht
  exact shaS_size p
noncomputable def stepsR (basis s : ByteArray) (B : Nat) : List St :=
  stepsM (mfR B basis.size ((pieces basis B (cnt basis.size B)).map weakI) (emR (shasOf basis B))) (tailF B basis.size ((pieces basis B (cnt basis.size B)).map weakI) (emR (shasOf basis B))) s basis.size B
def OfRP (w : World) (p : Nat) (basis s : ByteArray) (B : Nat) (e : Ending) (w' : World) : Prop :=
  ∃ sv, e = .returned (.tuple #[.agg #[.string (shaS basis), .string (shaS s), .int .i64 s.size, sv], .int .i64 0]) ∧ Own w' w.heap.size sv (stepsR basis s B) ∧ Below w.heap.size w w'
theorem real_below {a b : World} {p : Nat} (h1 : RealB a p) (h2 : RealB b p) (hg : a.grownBy b (some p)) : Below a.heap.size a b := ⟨hg.os, hg.tape, hg.output, hg.size, fun k hk => by
  by_cases e : k = p
  · subst e
    unfold RealB Blk at h1 h2
    rw [h1, h2]
  · exact hg.block k hk (fun h => e (by injection h))⟩
theorem below_of_none' {w w' : World} (h : Kept (fun k => (none : Option Nat) = some k) w w') : Below w.heap.size w w' := ⟨h.os, h.tape, h.output, h.size, fun k hk => h.block k hk (by simp)⟩
set_option maxRecDepth 100000 in
set_option maxHeartbeats 2000000 in
theorem of_real (w : World) (p : Nat) (basis s : ByteArray) (B : Nat) (hI : RealB w p) (hb1 : 16 ≤ B) (hb2_ : B ≤ 1024) (hbs : basis.size ≤ 524288) (hs : s.size ≤ 524288) :
    Calls Try.prog 15 #[.pointer (some ⟨p, 0, none⟩), .string basis, .string s, .int .i64 B] w (OfRP w p basis s B) := by
  have hdz := dlZ_run
  obtain ⟨V1, hV1⟩ : ∃ V, V = w.alloc (Obj.cells #[.string ByteArray.empty, .string ByteArray.empty, .int .i64 0, .slice none 0 0] 25) := ⟨_, rfl⟩
  obtain ⟨pz, hpz⟩ : ∃ q, q = w.heap.size := ⟨_, rfl⟩
  have hbV : Below w.heap.size w V1 := by rw [hV1]; exact below_alloc _ _
  have hZ1 : Blk V1 pz [.string ByteArray.empty, .string ByteArray.empty, .int .i64 0, .slice none 0 0] 25 := by rw [hV1, hpz]; exact Blk.new _ _ _
  have hIV := hI.next hbV
  obtain ⟨n, hn⟩ : ∃ n, n = cnt basis.size B := ⟨_, rfl⟩
  have hn3 : n ≤ 524288 := by rw [hn]; exact Nat.le_trans (cnt_le (by omega)) hbs
  have HSG := Lib.hid (Rl.sign_ideal V1 p p [] basis B ⟨hIV, hIV.lt, hIV.lt⟩ hbs hb1 hb2_ (by simp))
  obtain ⟨LI, hLI⟩ : ∃ L, L = (pieces basis B n).map weakI := ⟨_, rfl⟩
  obtain ⟨LS, hLS⟩ : ∃ L, L = shasOf basis B := ⟨_, rfl⟩
  have hsl1 : LS.length = n := by rw [hLS]; unfold shasOf; rw [List.length_map, pieces_len, hn]
  have hsl2 : LI.length = n := by rw [hLI, List.length_map, pieces_len]
  have h32 : ∀ t ∈ LS, t.size = 32 := by rw [hLS]; exact shas_size basis B
  have hOK : sigOk B basis.size LI LS := by rw [hLI, hn]; exact sign_ok basis B LS hb1 hb2_ hbs (by rw [hsl1, hn]) h32
  have hst : stepsR basis s B = stepsM (mfR B basis.size LI (emR LS)) (tailF B basis.size LI (emR LS)) s basis.size B := by unfold stepsR; rw [hLI, hLS, hn]
  rw [rl_marks, ← hn, ← hLI, show (pieces basis B n).map shaS = LS by rw [hLS, hn]; rfl] at HSG
  have HST := Lib.hid hst
  have HL := Lib.hid (And.intro hsl1 (And.intro hsl2 (And.intro h32 hOK)))
  have HZ1 := Lib.hid hZ1
  have HBV := Lib.hid hbV
  have HV1 := Lib.hid hV1
  have HPZ := Lib.hid hpz
  have HI := Lib.hid hI
  have HN := Lib.hid (And.intro hn hLI)
  clear hbV hZ1 hV1 hpz hIV hLI hLS hn hst hsl1 hsl2 h32 hOK hI
  go_enter Try.func15, Try.ntmps15
  go_upto_region 1 with fail
  rw [← HPZ.out, ← HV1.out]
  go_wp2_with fail
  refine HSG.out.mono ?_
  rintro e w2 ⟨wv, sv, rfl, hW2, hS2, hI2, hg2⟩
  obtain ⟨aw, kw, rfl⟩ := slice_of hW2
  obtain ⟨av, kv, rfl⟩ := slice_of hS2
  rw [HL.out.2.1] at hW2 ⊢
  rw [HL.out.1] at hS2 ⊢
  have hb2 : Below V1.heap.size V1 w2 := real_below (HI.out.next HBV.out) hI2.1 hg2
  obtain ⟨V3, hV3⟩ : ∃ V, V = w2.alloc (Obj.cells #[.int .i64 B, .int .i64 basis.size, .slice aw n kw, .slice av n kv] 52) := ⟨_, rfl⟩
  obtain ⟨p8, hp8⟩ : ∃ q, q = w2.heap.size := ⟨_, rfl⟩
  have hb3 : Below w2.heap.size w2 V3 := by rw [hV3]; exact below_alloc _ _
  have hG3 : Blk V3 p8 [.int .i64 B, .int .i64 basis.size, .slice aw n kw, .slice av n kv] 52 := by rw [hV3, hp8]; exact Blk.new w2 _ _
  have hW3 := (RowI.rs hW2 HL.out.2.1).next hb3
  have hS3 := (RowS.rs hS2 HL.out.1).next hb3
  have hI3 : RealB V3 p := hI2.1.next hb3
  have hB3 := below_then HBV.out (below_then hb2 hb3)
  have hZ3 := (HZ1.out.below hb2 HZ1.out.lt).below hb3 (Nat.lt_of_lt_of_le HZ1.out.lt hb2.size)
  have c0 := hG3.cell (i := 0) rfl
  have c1 := hG3.cell (i := 1) rfl
  have c2 := hG3.cell (i := 2) rfl
  have c3 := hG3.cell (i := 3) rfl
  have hOK := HL.out.2.2.2
  have hcn : LI.length = cnt basis.size B := by rw [HL.out.2.1, HN.out.1]
  have HMA := Lib.hid (make_any V3 p none B basis.size aw n kw av n kv LI LS s (fun _ w => RealB w p) _ _ hW3 hS3 (sigOk_wfW hOK) (fun x hx => by have := HL.out.2.2.1 x hx; unfold maxLen; omega) (by omega) (by omega) hOK (bkc_real hb1 hb2_ hbs hcn (by rw [HL.out.1, HL.out.2.1]) hI3.lt) hI3 hs)
  rw [← HST.out] at HMA
  obtain ⟨L, hL⟩ : ∃ L, L = stepsR basis s B := ⟨_, rfl⟩
  rw [← hL] at HMA
  have HLL := Lib.hid hL
  have HZ3 := Lib.hid hZ3
  have HB3 := Lib.hid hB3
  have HV3 := Lib.hid hV3
  have HP8 := Lib.hid hp8
  clear hV3 hp8 hb2 hb3 hG3 hW3 hS3 hI3 hB3 hZ3 hW2 hS2 hI2 hg2 hOK hcn HSG HZ1 HBV HV1 hL
  go_upto_region 4 with fail
  rw [← HP8.out, ← HV3.out]
  go_wp2_with fail
  refine HMA.out.mono ?_
  rintro e w4 ⟨s4, c4, rfl, hO4, hR4, -, hk4⟩
  obtain ⟨a4, k4, hs4'⟩ := owns_slice hO4
  obtain ⟨n4, hn4⟩ : ∃ n, n = L.length := ⟨_, rfl⟩
  obtain rfl : s4 = .slice a4 n4 k4 := by rw [hn4]; exact hs4'
  clear hs4' hn4
  have hb4 := below_of_none' hk4
  have HB4 := Lib.hid (below_then HB3.out hb4)
  have HZ4 := Lib.hid (HZ3.out.below hb4 HZ3.out.lt)
  have HO4 := Lib.hid hO4
  have HM1 := Lib.hid (mark_real w4 p basis hR4 (by omega))
  have HR4 := Lib.hid hR4
  have HSZ := Lib.hid HB3.out.size
  obtain ⟨m1, hm1⟩ : ∃ m, m = shaS basis := ⟨_, rfl⟩
  obtain ⟨m2, hm2⟩ : ∃ m, m = shaS s := ⟨_, rfl⟩
  rw [← hm1] at HM1
  have HMM := Lib.hid (And.intro hm1 hm2)
  clear hO4 hR4 hk4 hb4 HMA c0 c1 c2 c3 hm1 hm2 HV3 HP8
  go_wp2_with fail
  refine HM1.out.mono ?_
  rintro e w5 ⟨rfl, hb5⟩
  have HM2 := Lib.hid (mark_real w5 p s (HR4.out.next hb5) (by omega))
  rw [← HMM.out.2] at HM2
  have HB5 := Lib.hid hb5
  clear hb5 HM1
  go_wp2_with fail
  refine HM2.out.mono ?_
  rintro e w6 ⟨rfl, hb6⟩
  have hZ6 := (HZ4.out.below HB5.out HZ4.out.lt).below hb6 (Nat.lt_of_lt_of_le HZ4.out.lt HB5.out.size)
  have hpz := HPZ.out
  have hO6 : Own w6 V3.heap.size (.slice a4 n4 k4) L := (HO4.out.below HB5.out).below hb6
  have z0 := hZ6.cell (i := 0) rfl
  have z1 := hZ6.cell (i := 1) rfl
  have z2 := hZ6.cell (i := 2) rfl
  have z3 := hZ6.cell (i := 3) rfl
  have f0 := hZ6.frozen 0
  have f1 := hZ6.frozen 1
  have f2 := hZ6.frozen 2
  have f3 := hZ6.frozen 3
  have HZ6 := Lib.hid hZ6
  have HB6 := Lib.hid (bl_nx (bl_nx HB4.out HB5.out) hb6)
  have HO6 := Lib.hid hO6
  have hpv : pz < V3.heap.size := HZ3.out.lt
  have HPV := Lib.hid hpv
  clear hZ6 hO6 hb6 HM2 hpz hpv
  go_wp2
  have hpz := HPZ.out
  have hpv := HPV.out
  refine bodyPost_ret (results_cell_tmp_row rfl _ _ pz 25 _ (0, 0) _ rfl ((((HZ6.out.set 0 _).set 1 _).set 2 _).set 3 _) Try.underlying25 rfl (by kernel_rfl)) rfl ?_
  refine ⟨.slice a4 n4 k4, by rw [← HMM.out.1, ← HMM.out.2]; rfl, ?_, ?_⟩
  · rw [← HLL.out]
    exact owns_mono ((((HO6.out.setFar hpv 0 _).setFar hpv 1 _).setFar hpv 2 _).setFar hpv 3 _) HB3.out.size
  · have hw : w.heap.size ≤ pz := by omega
    exact (((HB6.out.setCell hw _).setCell hw _).setCell hw _).setCell hw _
end Go.Proofs.Ytgemhgllifhckaa
