/- delta.Of under an ideal book. Conditions: as named in each theorem. -/
import Derived.Test.YtgkcnocfijckoaaGreatMkOwn
import Derived.Laws.ResultCell
namespace Go.Proofs.YtgkcnocfijckoaaGreat
open Go.RowKit Sg
set_option linter.unusedVariables false
set_option linter.unusedSimpArgs false
theorem results_cell_tmp_row {P : Program} {fn : Func} {p u : Tmp} {ty : TypeId} (h : fn.results = #[.cell p ty, .tmp u]) (tmps : Array Value) (w : World) (g : Nat) (t : TypeId) (cs : Array Value) (fr : Nat × Nat) (d : TypeDesc)
    (hp : tmps.getD p undef = .pointer (some ⟨g, 0, none⟩)) (hg : w.heap[g]? = some (.cells cs t fr))
    (hu : P.underlying ty = some d) (hd : (match d with | .struct _ | .array _ _ => true | _ => false) = true) (hi : (P.info? ty).map (·.size) = some cs.size) :
    (results fn tmps).run P w = .ok (.tuple #[.agg cs, tmps.getD u undef]) w := by
  rw [results_cell_tmp h, hp]
  simp [asAddr, Result.andThen, run_loadVar_row w g t ty cs fr d hg hu hd hi]
def stepsI (basis s : ByteArray) (B : Nat) : List St := stepsM (mfI basis B) (tfI basis B) s basis.size B
def OfP (w : World) (p m : Nat) (S0 : Bk) (basis s : ByteArray) (B : Nat) (e : Ending) (w' : World) : Prop :=
  ∃ sv S, e = .returned (.tuple #[.agg #[.string (numS (S.idxOf (bytesOf basis) + 1)), .string (numS (S.idxOf (bytesOf s) + 1)), .int .i64 s.size, sv], .int .i64 0]) ∧ Own w' w.heap.size sv (stepsI basis s B) ∧
    BookI w' p m S ∧ bytesOf basis ∈ S ∧ bytesOf s ∈ S ∧ Ext S0 S ∧ S.length ≤ S0.length + 3000000 ∧ Kept (fun k => some m = some k) w w'
theorem dlZ_run (w : World) : (zeroValue 55).run Tryz.prog w = .ok (.agg #[.string ByteArray.empty, .string ByteArray.empty, .int .i64 0, .slice none 0 0]) w := by kernel_rfl
theorem marks_ext (S0 : Bk) (l : List ByteArray) : Ext S0 (marksOf S0 l).1 ∧ (marksOf S0 l).1.length ≤ S0.length + l.length := by
  rw [marksOf_seen]
  refine ⟨fold_ext _ _, ?_⟩
  have := fold_addS_len (l.map bytesOf) S0
  rw [List.length_map] at this; exact this
theorem Own.setFar {w : World} {base : Nat} {v : Value} {l : List St} (h : Own w base v l) {p : Nat} (hp : p < base) (i : Nat) (u : Value) : Own (w.setCell ⟨p, i, none⟩ u) base v l :=
  World.ownsRow.kept h (grown_set (grown_refl w (some p)) i _) (.inr (fun e => by have := (World.ownsRow.lt h p e).1; omega))
theorem mem_self (S : Bk) (t : List UInt8) : t ∈ addS S t := (mem_addS S t t).2 (.inr rfl)
theorem addS_mem {S : Bk} {t : List UInt8} (h : t ∈ S) : addS S t = S := by rw [addS, if_pos h]
set_option maxRecDepth 100000 in
set_option maxHeartbeats 2000000 in
theorem of_ideal (w : World) (p m : Nat) (S0 : Bk) (basis s : ByteArray) (B : Nat) (hI : BookI w p m S0) (hS0 : S0.length ≤ 90000000) (hb1 : 16 ≤ B) (hb2 : B ≤ 1024) (hbs : basis.size ≤ 524288) (hs : s.size ≤ 524288) :
    Calls Tryz.prog 50 #[.pointer (some ⟨p, 0, none⟩), .string basis, .string s, .int .i64 B] w (OfP w p m S0 basis s B) := by
  have hdz := dlZ_run
  have hpm := hI.2.2.2.2.1
  obtain ⟨V1, hV1⟩ : ∃ V, V = w.alloc (Obj.cells #[.string ByteArray.empty, .string ByteArray.empty, .int .i64 0, .slice none 0 0] 55) := ⟨_, rfl⟩
  obtain ⟨pz, hpz⟩ : ∃ q, q = w.heap.size := ⟨_, rfl⟩
  have hbV : Below w.heap.size w V1 := by rw [hV1]; exact below_alloc _ _
  have hZ1 : Blk V1 pz [.string ByteArray.empty, .string ByteArray.empty, .int .i64 0, .slice none 0 0] 55 := by rw [hV1, hpz]; exact Blk.new _ _ _
  have hVs : V1.heap.size = w.heap.size + 1 := by rw [hV1]; simp
  have hIV := hI.next hbV
  have HSG := Lib.hid (sign_ideal V1 p m S0 basis B hIV hbs hb1 hb2 hS0)
  have HZ1 := Lib.hid hZ1
  have HBV := Lib.hid hbV
  have HV1 := Lib.hid hV1
  have HPZ := Lib.hid hpz
  clear hbV hZ1 hV1 hpz hIV
  go_enter Tryz.func50, Tryz.ntmps50
  go_upto_region 1 with fail
  rw [← HPZ.out, ← HV1.out]
  go_wp2_with fail
  refine HSG.out.mono ?_
  obtain ⟨n, hn⟩ : ∃ n, n = cnt basis.size B := ⟨_, rfl⟩
  have hn3 : n ≤ 524288 := by rw [hn]; exact Nat.le_trans (cnt_le (by omega)) hbs
  have hsl1 := marksOf_len S0 (pieces basis B n)
  have hsl2 : ((pieces basis B n).map weakI).length = n := by rw [List.length_map, pieces_len]
  rw [pieces_len] at hsl1
  have hOK := sign_ok basis B (marksOf S0 (pieces basis B n)).2 hb1 hb2 hbs (by rw [← hn]; exact hsl1) (marks_size _ _)
  rw [← hn] at hOK
  have hME := marks_ext S0 (pieces basis B n)
  rw [pieces_len] at hME
  have h32 := marks_size S0 (pieces basis B n)
  rw [← hn]
  have HN := Lib.hid hn
  clear hn
  rintro e w2 ⟨wv, sv, rfl, hW2, hS2, hI2, hg2⟩
  obtain ⟨LI, hLI⟩ : ∃ L, L = (pieces basis B n).map weakI := ⟨_, rfl⟩
  obtain ⟨MK, hMK⟩ : ∃ M, M = marksOf S0 (pieces basis B n) := ⟨_, rfl⟩
  obtain ⟨SN, LS⟩ := MK
  have hw2 : V1.heap.size ≤ w2.heap.size := hg2.size
  rw [← hLI] at hW2 hsl2 hOK
  rw [← hMK] at hS2 hI2 hsl1 hOK hME h32
  simp only at hS2 hI2 hsl1 hOK hME h32
  obtain ⟨aw, kw, rfl⟩ := slice_of hW2
  obtain ⟨av, kv, rfl⟩ := slice_of hS2
  rw [hsl2] at hW2
  rw [hsl1] at hS2
  rw [hsl2, hsl1]
  obtain ⟨V3, hV3⟩ : ∃ V, V = w2.alloc (Obj.cells #[.int .i64 B, .int .i64 basis.size, .slice aw n kw, .slice av n kv] 136) := ⟨_, rfl⟩
  obtain ⟨p8, hp8⟩ : ∃ q, q = w2.heap.size := ⟨_, rfl⟩
  have hgV : w2.grownBy V3 none := by rw [hV3]; exact grown_alloc (grown_refl _ _) _
  have hG3 : Blk V3 p8 [.int .i64 B, .int .i64 basis.size, .slice aw n kw, .slice av n kv] 136 := by rw [hV3, hp8]; exact Blk.new w2 _ _
  have hW3 : RowI V3 V1.heap.size (.slice aw n kw) LI := World.ownsRow.kept hW2 hgV (by cases (Value.slice aw n kw).ownBlock <;> simp)
  have hS3 : RowS V3 V1.heap.size (.slice av n kv) LS := World.ownsRow.kept hS2 hgV (by cases (Value.slice av n kv).ownBlock <;> simp)
  have hI3 : BookI V3 p m SN := hI2.grown hgV (by simp) (by simp)
  have hv3 : V3.heap.size = w2.heap.size + 1 := by rw [hV3]; simp
  have hZ3 := (HZ1.out.grown hg2 (by intro e; injection e with e; have := HPZ.out; omega)).grown hgV (by simp)
  have hK3 : Kept (fun k => some m = some k) w V3 := ((Kept.of_below (fun k => some m = some k) HBV.out).trans (Kept.of_grown hg2) (fun _ _ h => h)).trans (Kept.of_grown hgV) (fun _ _ h => by cases h)
  have c0 := hG3.cell (i := 0) rfl
  have c1 := hG3.cell (i := 1) rfl
  have c2 := hG3.cell (i := 2) rfl
  have c3 := hG3.cell (i := 3) rfl
  have hwfW : ∀ x ∈ LI, (Lit.int .i64 x).wf = true := sigOk_wfW hOK
  have hmxT : ∀ x ∈ LS, x.size ≤ maxLen := fun x hx => by have := h32 x hx; unfold maxLen; omega
  have hSNl : SN.length ≤ 90524288 := by omega
  have hBK : BkC p (some m) V3.heap.size B basis.size LI LS (basis.size / B) (KSI p m SN) (mfI basis B) (tfI basis B) := by
    rw [hLI]
    exact bkc_ideal hb1 hb2 hbs HN.out (by rw [← hMK]) (by omega) (by have := hpm.1; omega) (by have := hpm.2; omega)
  have HMA := Lib.hid (make_any V3 p (some m) B basis.size aw n kw av n kv LI LS s (KSI p m SN) (mfI basis B) (tfI basis B) (RowI.rs hW3 hsl2) (RowS.rs hS3 hsl1) hwfW hmxT (by omega) (by omega) hOK hBK ⟨SN, .refl _, by omega, hI3⟩ hs)
  have HZ3 := Lib.hid hZ3
  have HK3 := Lib.hid hK3
  have HME := Lib.hid hME
  have HV3 := Lib.hid hV3
  have HP8 := Lib.hid hp8
  have HS3 := Lib.hid (And.intro hv3 (And.intro hw2 hVs))
  clear hV3 hp8 hgV hG3 hW3 hS3 hI3 hZ3 hK3 hW2 hS2 hI2 hg2 hOK hLI hMK h32 hsl1 hsl2 hwfW hmxT hBK hME HSG HZ1 HBV HV1 hw2 hv3 hVs
  go_upto_region 4 with fail
  rw [← HP8.out, ← HV3.out]
  go_wp2_with fail
  refine HMA.out.mono ?_
  rintro e w4 ⟨s4, c4, rfl, hO4, ⟨S4, hE4, hl4, hB4⟩, hc4, hk4⟩
  have hpz := HPZ.out
  have ⟨y1, y2, y3⟩ := HS3.out
  have hs4 : V3.heap.size ≤ w4.heap.size := hk4.size
  have hZ4 : Blk w4 pz [.string ByteArray.empty, .string ByteArray.empty, .int .i64 0, .slice none 0 0] 55 := by
    have h2 := HZ3.out
    unfold Blk at h2 ⊢
    rw [hk4.block pz (by omega) (fun hu => by injection hu with hu; have := hpm.2; omega)]; exact h2
  have hK4 : Kept (fun k => some m = some k) w w4 := HK3.out.trans hk4 (fun _ _ h => h)
  obtain ⟨a4, k4, hs4'⟩ := owns_slice hO4
  obtain ⟨n4, hn4⟩ : ∃ n, n = (stepsI basis s B).length := ⟨_, rfl⟩
  obtain rfl : s4 = .slice a4 n4 k4 := by rw [hn4]; exact hs4'
  have hl4' : S4.length ≤ 91524288 := by have := HME.out.2; omega
  have HM1 := Lib.hid (mark_as (s := basis) hB4 (by unfold maxLen; omega) (by omega) _ _ rfl rfl)
  obtain ⟨S5, hS5⟩ : ∃ S, S = addS S4 (bytesOf basis) := ⟨_, rfl⟩
  obtain ⟨S6, hS6⟩ : ∃ S, S = addS S5 (bytesOf s) := ⟨_, rfl⟩
  have m5 : bytesOf basis ∈ S5 := by rw [hS5]; exact mem_self _ _
  have m6 : bytesOf s ∈ S6 := by rw [hS6]; exact mem_self _ _
  have e5 : Ext S4 S5 := by rw [hS5]; exact (Ext.refl _).add _
  have e6 : Ext S5 S6 := by rw [hS6]; exact (Ext.refl _).add _
  have l5 : S5.length ≤ S4.length + 1 := by rw [hS5]; exact addS_len _ _
  have l6 : S6.length ≤ S5.length + 1 := by rw [hS6]; exact addS_len _ _
  have i5 : S4.idxOf (bytesOf basis) + 1 = S6.idxOf (bytesOf basis) + 1 := by rw [e6.idx m5, hS5, idx_self]
  have i6 : S5.idxOf (bytesOf s) + 1 = S6.idxOf (bytesOf s) + 1 := by rw [hS6, idx_self]
  have HZ4 := Lib.hid hZ4
  have HK4 := Lib.hid hK4
  have HO4 := Lib.hid hO4
  have HE6 := Lib.hid (And.intro (HME.out.1.trans (hE4.trans (e5.trans e6))) (And.intro (e6.mem m5) m6))
  have HI := Lib.hid (And.intro i5 i6)
  have HS5 := Lib.hid hS5
  have HS6 := Lib.hid hS6
  have hl6 : S6.length ≤ S0.length + 3000000 ∧ S5.length ≤ 1000000000 := by have := HME.out.2; omega
  have HL6 := Lib.hid hl6
  have HSZ := Lib.hid hs4
  clear hZ4 hK4 hO4 e5 e6 m5 m6 i5 i6 hS5 hS6 l5 l6 hk4 HMA HZ3 HK3 HME HV3 HP8 c0 c1 c2 c3 hn4 hs4' hE4 hl4 hc4 y1 y2 y3 hpz hs4 hl4' hl6
  go_wp2_with fail
  refine HM1.out.mono ?_
  rintro e w5 ⟨rfl, hB5, hg5⟩
  rw [show addS S4 basis.data.toList = S5 from HS5.out.symm] at hB5
  have HM2 := Lib.hid (mark_as (s := s) hB5 (by unfold maxLen; omega) (by have := HL6.out; omega) _ _ rfl rfl)
  have HG5 := Lib.hid hg5
  clear hg5 HM1
  rw [show S4.idxOf basis.data.toList + 1 = S6.idxOf (bytesOf basis) + 1 from HI.out.1]
  obtain ⟨t5, ht5⟩ : ∃ t, t = numS (S6.idxOf (bytesOf basis) + 1) := ⟨_, rfl⟩
  rw [← ht5]
  have HT5 := Lib.hid ht5
  clear ht5
  go_wp2_with fail
  refine HM2.out.mono ?_
  rintro e w6 ⟨rfl, hB6, hg6⟩
  rw [show addS S5 s.data.toList = S6 from HS6.out.symm] at hB6
  rw [show S5.idxOf s.data.toList + 1 = S6.idxOf (bytesOf s) + 1 from HI.out.2]
  obtain ⟨t6, ht6⟩ : ∃ t, t = numS (S6.idxOf (bytesOf s) + 1) := ⟨_, rfl⟩
  rw [← ht6]
  have HT6 := Lib.hid ht6
  clear ht6
  have hpz := HPZ.out
  have hZ6 := (HZ4.out.grown HG5.out (by intro e; injection e with e; omega)).grown hg6 (by intro e; injection e with e; omega)
  have hK6 := (HK4.out.trans (Kept.of_grown HG5.out) (fun _ _ h => h)).trans (Kept.of_grown hg6) (fun _ _ h => h)
  have hO6 : Own w6 (w.heap.size + 1) (.slice a4 n4 k4) (stepsI basis s B) := by
    have o1 : Own w4 (w.heap.size + 1) (.slice a4 n4 k4) (stepsI basis s B) := owns_mono HO4.out (by have := HS3.out; omega)
    have ne : ∀ j, some m = some j → (Value.slice a4 n4 k4).ownBlock ≠ some j := fun j hj e => by injection hj with hj; have := (World.ownsRow.lt o1 j e).1; have := hpm.2; omega
    exact World.ownsRow.kept (World.ownsRow.kept o1 HG5.out (own_ne ne)) hg6 (own_ne ne)
  have hw6 : pz < w6.heap.size := hZ6.lt
  have z0 := hZ6.cell (i := 0) rfl
  have z1 := hZ6.cell (i := 1) rfl
  have z2 := hZ6.cell (i := 2) rfl
  have z3 := hZ6.cell (i := 3) rfl
  have f0 := hZ6.frozen 0
  have f1 := hZ6.frozen 1
  have f2 := hZ6.frozen 2
  have f3 := hZ6.frozen 3
  have HZ6 := Lib.hid hZ6
  have HK6 := Lib.hid hK6
  have HO6 := Lib.hid hO6
  clear hZ6 hK6 hO6 hg6 HM2 hpz
  go_wp2
  have hpz := HPZ.out
  refine bodyPost_ret (results_cell_tmp_row rfl _ _ pz 55 _ (0, 0) _ rfl ((((HZ6.out.set 0 _).set 1 _).set 2 _).set 3 _) Tryz.underlying55 rfl (by kernel_rfl)) rfl ?_
  refine ⟨.slice a4 n4 k4, S6, by rw [← HT5.out, ← HT6.out]; simp, owns_mono (((((HO6.out.setFar (by omega) _ _).setFar (by omega) _ _).setFar (by omega) _ _).setFar (by omega) _ _)) (Nat.le_succ _), ?_, HE6.out.2.1, HE6.out.2.2, HE6.out.1, by have := HL6.out; omega, ?_⟩
  · have := Kept.set (T := fun k => k = pz) (Kept.set (T := fun k => k = pz) (Kept.set (T := fun k => k = pz) (Kept.set (T := fun k => k = pz) (Kept.refl _ w6) rfl 0 (.string t5)) rfl 1 (.string t6)) rfl 2 (.int .i64 s.size)) rfl 3 (.slice a4 n4 k4)
    exact hB6.kept this (by have := hpm.1; omega) (by have := hpm.2; omega)
  · have := Kept.set (T := fun k => k = pz) (Kept.set (T := fun k => k = pz) (Kept.set (T := fun k => k = pz) (Kept.set (T := fun k => k = pz) (Kept.refl _ w6) rfl 0 (.string t5)) rfl 1 (.string t6)) rfl 2 (.int .i64 s.size)) rfl 3 (.slice a4 n4 k4)
    have hk6 := HK6.out
    exact ⟨this.os.trans hk6.os, this.tape.trans hk6.tape, this.output.trans hk6.output, Nat.le_trans hk6.size this.size, fun k hk hn => (this.block k (Nat.lt_of_lt_of_le hk hk6.size) (by omega)).trans (hk6.block k hk hn)⟩
end Go.Proofs.YtgkcnocfijckoaaGreat
namespace Go.Proofs.YtgkcnocfijckoaaGreat
open Go.RowKit Sg
set_option linter.unusedVariables false
set_option linter.unusedSimpArgs false
/-- the first n bytes of a text, at most -/
def cutS (s : ByteArray) (n : Nat) : ByteArray := if n < s.size then s.extract 0 n else s
theorem cutS_size (s : ByteArray) (n : Nat) : (cutS s n).size ≤ n := by
  unfold cutS; split
  · simp; omega
  · omega
set_option maxRecDepth 100000 in
set_option maxHeartbeats 1000000 in
theorem of_bad (w : World) (v : Value) (b s : ByteArray) (block : Int) (wb : (Lit.int .i64 block).wf = true) (hb : ¬ (16 ≤ block ∧ block ≤ 1024)) :
    Calls Tryz.prog 50 #[v, .string b, .string s, .int .i64 block] w fun e w' => e = .returned (.tuple #[.agg #[.string ByteArray.empty, .string ByteArray.empty, .int .i64 0, .slice none 0 0], .int .i64 1]) ∧ Below w.heap.size w w' := by
  have hdz := dlZ_run
  obtain ⟨V1, hV1⟩ : ∃ V, V = w.alloc (Obj.cells #[.string ByteArray.empty, .string ByteArray.empty, .int .i64 0, .slice none 0 0] 55) := ⟨_, rfl⟩
  obtain ⟨pz, hpz⟩ : ∃ q, q = w.heap.size := ⟨_, rfl⟩
  have hbV : Below w.heap.size w V1 := by rw [hV1]; exact below_alloc _ _
  have hZ1 : Blk V1 pz [.string ByteArray.empty, .string ByteArray.empty, .int .i64 0, .slice none 0 0] 55 := by rw [hV1, hpz]; exact Blk.new _ _ _
  have HSG := Lib.hid (sign_bad V1 v b block wb hb)
  have HZ1 := Lib.hid hZ1
  have HBV := Lib.hid hbV
  have HV1 := Lib.hid hV1
  have HPZ := Lib.hid hpz
  clear hbV hZ1 hV1 hpz
  go_enter Tryz.func50, Tryz.ntmps50
  go_upto_region 1 with fail
  rw [← HPZ.out, ← HV1.out]
  go_wp2_with fail
  refine HSG.out.mono ?_
  rintro e w2 ⟨rfl, hb2⟩
  obtain ⟨V3, hV3⟩ : ∃ V, V = w2.alloc (Obj.cells #[.int .i64 0, .int .i64 0, .slice none 0 0, .slice none 0 0] 136) := ⟨_, rfl⟩
  have hw2 : V1.heap.size ≤ w2.heap.size := hb2.size
  have hb3 : Below w2.heap.size w2 V3 := by rw [hV3]; exact below_alloc _ _
  have hZ3 := (HZ1.out.below hb2 HZ1.out.lt).below hb3 (Nat.lt_of_lt_of_le HZ1.out.lt hw2)
  have hB3 := bl_nx (bl_nx HBV.out hb2) hb3
  have z0 := hZ3.cell (i := 0) rfl
  have z1 := hZ3.cell (i := 1) rfl
  have z2 := hZ3.cell (i := 2) rfl
  have z3 := hZ3.cell (i := 3) rfl
  have f0 := hZ3.frozen 0
  have f1 := hZ3.frozen 1
  have f2 := hZ3.frozen 2
  have f3 := hZ3.frozen 3
  have HZ3 := Lib.hid hZ3
  have HB3 := Lib.hid hB3
  have HV3 := Lib.hid hV3
  clear hZ3 hB3 hV3 hb2 hb3 hw2 hb
  go_upto_region 2 with fail
  rw [← HV3.out]
  go_wp2
  have hw : w.heap.size ≤ pz := Nat.le_of_eq HPZ.out.symm
  refine bodyPost_ret (results_cell_tmp_row rfl _ _ pz 55 _ (0, 0) _ rfl ((((HZ3.out.set 0 _).set 1 _).set 2 _).set 3 _) Tryz.underlying55 rfl (by kernel_rfl)) rfl ?_
  exact ⟨rfl, (((HB3.out.setCell hw _).setCell hw _).setCell hw _).setCell hw _⟩
/-- the bytes that some steps send -/
def sentL (l : List St) : Nat := (l.map (fun x => x.text.size)).sum
theorem sentL_take (l : List St) (k : Nat) (x : St) (h : l[k]? = some x) : sentL (l.take (k + 1)) = sentL (l.take k) + x.text.size := by
  unfold sentL
  rw [List.take_add_one, h, List.map_append, List.sum_append]; simp
theorem sentL_le (l : List St) (k m : Nat) (h : ∀ x ∈ l, x.text.size ≤ m) : sentL (l.take k) ≤ k * m := by
  induction k with
  | zero => simp [sentL]
  | succ k ih =>
    cases hx : l[k]? with
    | none =>
      rw [List.take_add_one, hx]
      simp only [Option.toList_none, List.append_nil, Nat.add_mul]; omega
    | some x =>
      rw [sentL_take l k x hx, Nat.add_mul]
      have := h x (List.mem_of_getElem? hx); omega
def lit40 : ByteArray := ⟨#[48, 49, 50, 51, 52, 53, 54, 55, 56, 57, 97, 98, 99, 100, 101, 102, 103, 104, 105, 106, 107, 108, 109, 110, 111, 112, 113, 114, 115, 116, 117, 118, 119, 120, 121, 122, 43, 45, 42, 47]⟩
theorem lit40_size : lit40.size = 40 := rfl
theorem ownL_len (n : Nat) : (ownL n).length = if n = 0 then 0 else 1 := by unfold ownL; split <;> rfl
theorem sent_own (n : Nat) : sentL (ownL n) = 0 := by unfold ownL; split <;> rfl
theorem below_kept {w w1 w2 : World} {m : Nat} (h : Below w.heap.size w w1) (hm : w.heap.size ≤ m) (hk : Kept (fun k => some m = some k) w1 w2) : Below w.heap.size w w2 :=
  hk.below h h.size (fun k hk e => by injection e with e; omega)
end Go.Proofs.YtgkcnocfijckoaaGreat
