/- marks.Real, and a real book's Mark and Is. Conditions: as named in each theorem. -/
import Derived.Test.YtjahdladcijhoaaShaReal
import Derived.Test.YtjahdladcijhoaaMarksBook
namespace Go.Proofs.Ytjahdladcijhoaa
open Go.RowKit
set_option linter.unusedVariables false
set_option linter.unusedSimpArgs false

/-- a real book's cells -/
noncomputable def realC : List Value := mixC KL0 H0 ++ [.bool true, .map none, .bool false]
def RealB (w : World) (p : Nat) : Prop := Blk w p realC 48
def RealP (w : World) (e : Ending) (w' : World) : Prop := ∃ p, e = .returned (.pointer (some ⟨p, 0, none⟩)) ∧ RealB w' p ∧ w.heap.size ≤ p ∧ Below w.heap.size w w'
theorem build48 (KC HC : List Value) (kl : KC.length = 64) (hl : HC.length = 8) : ∃ B1 : Array Value, List.foldl (fun (cs : Array Value) (x : Value × Nat) => cs.setIfInBounds x.2 x.1) bookZ (KC ++ HC).zipIdx = B1 ∧ B1.size = 75 ∧ B1.setIfInBounds 72 (Value.bool true) = (KC ++ HC ++ [Value.bool true, Value.map none, Value.bool false]).toArray := by
  refine ⟨(KC ++ HC ++ [Value.bool false, Value.map none, Value.bool false]).toArray, ?_, by rw [List.size_toArray, List.length_append, List.length_append, kl, hl]; rfl, ?_⟩
  · have h := fold_put (fun n => n) 0 (fun n => (Nat.zero_add n).symm) (KC ++ HC) [] (List.replicate 72 (Value.int .u32 0)) [Value.bool false, Value.map none, Value.bool false] 0 (by rw [List.length_append, kl, hl, List.length_replicate]) rfl
    rw [List.nil_append, List.nil_append] at h
    exact h
  · rw [List.setIfInBounds_toArray]
    congr 1
    rw [List.set_append_right _ _ (by rw [List.length_append, kl, hl]; decide), List.length_append, kl, hl]
    rfl

set_option maxRecDepth 100000 in
set_option maxHeartbeats 1000000 in
theorem real_any (w : World) : Calls Try.prog 21 #[] w (RealP w) := by
  have hak := arr42_run
  have hah := arr43_run
  have HT := Lib.hid (tables_any w)
  obtain ⟨KC, hKC⟩ : ∃ KC, KC = kC := ⟨_, rfl⟩
  obtain ⟨HC, hHC⟩ : ∃ HC, HC = hC := ⟨_, rfl⟩
  have kl := kC_len
  have hl := hC_len
  have ki := kC_info
  have hi := hC_info
  have ko := kC_one
  have ho := hC_one
  have hmix : (mixC KL0 H0) = KC ++ HC := by unfold mixC; rw [hKC, hHC, kC_eq]; rfl
  rw [← hKC] at HT kl ki ko
  rw [← hHC] at HT hl hi ho
  have HMX := Lib.hid (And.intro hmix (And.intro (And.intro kl hl) (And.intro (And.intro ki hi) (And.intro ko ho))))
  clear hKC hHC hmix kl hl ki hi ko ho
  obtain ⟨M1, bb1, bb2, bb3⟩ := build45 KC HC HMX.out.2.1.1 HMX.out.2.1.2
  have kl := HMX.out.2.1.1
  have hl := HMX.out.2.1.2
  have hz45 := z45_run
  have hzs := z45_size
  obtain ⟨B1, bb4, bb5, bb6⟩ := build48 KC HC HMX.out.2.1.1 HMX.out.2.1.2
  have hz48 := bookZ_run
  have hzs48 := bookZ_size
  obtain ⟨RC, hRC⟩ : ∃ RC, RC = KC ++ HC ++ [Value.bool true, Value.map none, Value.bool false] := ⟨_, rfl⟩
  rw [← hRC] at bb6
  have HRC := Lib.hid hRC
  clear hRC
  go_enter Try.func21, Try.ntmps21
  go_wp2_with fail
  refine HT.out.mono ?_
  rintro e w1 ⟨rfl, hb1⟩
  obtain ⟨q3, hq3⟩ : ∃ q, q = w1.heap.size := ⟨_, rfl⟩
  obtain ⟨q4, hq4⟩ : ∃ q, q = w1.heap.size + 1 := ⟨_, rfl⟩
  have hA : Blk ((w1.alloc (Obj.cells z42 42)).alloc (Obj.cells z43 43)) w1.heap.size (List.replicate 64 (Value.int .u32 0)) 42 := (Blk.new w1 (List.replicate 64 (Value.int .u32 0)) _).alloc _
  have hX : Blk ((w1.alloc (Obj.cells z42 42)).alloc (Obj.cells z43 43)) (w1.heap.size + 1) (List.replicate 8 (Value.int .u32 0)) 43 := by
    have := Blk.new (w1.alloc (Obj.cells z42 42)) (List.replicate 8 (Value.int .u32 0)) 43
    rw [World.size_alloc] at this
    exact this
  have hX2 := hX.setAllOther (q := w1.heap.size) (vs := KC) (by omega)
  have hA2 := (hA.setAll (vs := KC) (by rw [HMX.out.2.1.1, List.length_replicate])).setAllOther (q := w1.heap.size + 1) (vs := HC) (by omega)
  have hX3 := hX2.setAll (vs := HC) (by rw [HMX.out.2.1.2, List.length_replicate])
  have hBB : Below w.heap.size w ((((w1.alloc (Obj.cells z42 42)).alloc (Obj.cells z43 43)).setCells w1.heap.size 0 KC).setCells (w1.heap.size + 1) 0 HC) := below_setAll (below_setAll ((hb1.alloc hb1.size _).alloc (by have := hb1.size; simp; omega) _) (by have := hb1.size; omega) _) (by have := hb1.size; omega) _
  have H := Lib.hid (And.intro hA (And.intro hX2 (And.intro hA2 (And.intro hX3 hBB))))
  clear hA hX hX2 hA2 hX3 hBB
  have th1 := H.out.1.thereA (n := KC.toArray.size) (by rw [List.size_toArray, HMX.out.2.1.1, List.length_replicate])
  have th2 := H.out.2.1.thereA (n := HC.toArray.size) (by rw [List.size_toArray, HMX.out.2.1.2, List.length_replicate])
  have g3 := H.out.2.2.1
  have g4 := H.out.2.2.2.1
  unfold Blk at g3 g4
  have TH1 := Lib.hid th1
  have TH2 := Lib.hid th2
  have G3 := Lib.hid g3
  have G4 := Lib.hid g4
  clear th1 th2 g3 g4
  go_wp2_with (first | (refine wpList_store_mid rfl 42 _ _ rfl w1.heap.size 0 KC.toArray rfl rfl (by exact TH1.out) HMX.out.2.2.1.1 HMX.out.2.2.2.1 ?_) | (refine wpList_store_mid rfl 43 _ _ rfl (w1.heap.size + 1) 0 HC.toArray rfl rfl (by exact TH2.out) HMX.out.2.2.1.2 HMX.out.2.2.2.2 ?_) | (refine wpList_load_row rfl 42 _ rfl w1.heap.size rfl 42 KC.toArray _ _ (by exact G3.out) Try.underlying42 rfl HMX.out.2.2.1.1 ?_) | (refine wpList_load_row rfl 43 _ rfl (w1.heap.size + 1) rfl 43 HC.toArray _ _ (by exact G4.out) Try.underlying43 rfl HMX.out.2.2.1.2 ?_))
  have hRCe : RC = realC := by rw [HRC.out]; unfold realC; rw [HMX.out.1]
  have HRE := Lib.hid hRCe
  clear hRCe
  go_ret
  exact ⟨_, rfl, by unfold RealB; rw [← HRE.out]; exact Blk.new _ RC _, by have := H.out.2.2.2.2.size; simpa using this, H.out.2.2.2.2.alloc H.out.2.2.2.2.size _⟩
theorem realC_at : realC[72]? = some (.bool true) := by
  unfold realC
  rw [List.getElem?_append_right (by unfold mixC; rw [List.length_append, List.length_map, KL0_len]; decide)]
  unfold mixC
  rw [List.length_append, List.length_map, KL0_len]
  rfl
theorem mix_len : (mixC KL0 H0).length = 72 := by unfold mixC; rw [List.length_append, List.length_map, KL0_len]; rfl
theorem RealB.range {w : World} {p : Nat} (h : RealB w p) : w.rangeAt p 0 (mixC KL0 H0) := fun j v hv => by
  rw [Nat.zero_add]
  have hj := (List.getElem?_eq_some_iff.1 hv).1
  exact Blk.cell h (by unfold realC; rw [List.getElem?_append_left hj]; exact hv)
theorem RealB.next {w w' : World} {p : Nat} (h : RealB w p) (hb : Below w.heap.size w w') : RealB w' p := Blk.below h hb (Blk.lt h)
theorem RealB.lt {w : World} {p : Nat} (h : RealB w p) : p < w.heap.size := Blk.lt h
theorem none_real (w : World) (p : Nat) (h : RealB w p) :
    Calls Try.prog 22 #[.pointer (some ⟨p, 0, none⟩)] w fun e w' => e = .returned (.bool false) ∧ w = w' := by
  have c := Blk.cell h realC_at
  clear h
  go_enter Try.func22, Try.ntmps22
  go_wp2
  go_ret
  exact ⟨rfl, rfl⟩
theorem mix_info : (Try.prog.info? 45).map (·.size) = some (mixC KL0 H0).length := by rw [mix_len]; kernel_rfl
set_option maxRecDepth 100000 in
theorem mark_real (w : World) (p : Nat) (s : ByteArray) (h : RealB w p) (hs : s.size ≤ 900000000) :
    Calls Try.prog 12 #[.pointer (some ⟨p, 0, none⟩), .string s] w fun e w' => e = .returned (.string (shaS s)) ∧ Below w.heap.size w w' := by
  have c := Blk.cell h realC_at
  have HR := Lib.hid h.range
  have HN := Lib.hid (none_real w p h)
  have HS := Lib.hid (sum_real w s hs)
  have hi := mix_info
  obtain ⟨MX, hMX⟩ : ∃ MX, MX = mixC KL0 H0 := ⟨_, rfl⟩
  rw [← hMX] at HR HS hi
  have HI := Lib.hid hi
  clear h hMX hi
  go_enter Try.func12, Try.ntmps12
  go_wp2_with fail
  refine HN.out.mono ?_
  rintro e w' ⟨rfl, rfl⟩
  go_wp2_with (refine wpList_load_mid rfl 45 _ rfl p 0 rfl MX _ (by exact HR.out) Try.underlying45 rfl HI.out ?_)
  refine HS.out.mono ?_
  rintro e w' ⟨rfl, hb⟩
  go_wp2
  go_ret
  exact ⟨rfl, hb⟩
set_option maxRecDepth 100000 in
theorem is_real (w : World) (p : Nat) (s mk : ByteArray) (h : RealB w p) (hs : s.size ≤ 900000000) :
    Calls Try.prog 13 #[.pointer (some ⟨p, 0, none⟩), .string s, .string mk] w fun e w' => e = .returned (.bool ((shaS s).toList == mk.toList)) ∧ Below w.heap.size w w' := by
  have c := Blk.cell h realC_at
  have HR := Lib.hid h.range
  have HN := Lib.hid (none_real w p h)
  have HS := Lib.hid (sum_real w s hs)
  have hi := mix_info
  obtain ⟨MX, hMX⟩ : ∃ MX, MX = mixC KL0 H0 := ⟨_, rfl⟩
  rw [← hMX] at HR HS hi
  obtain ⟨SS, hSS⟩ : ∃ SS, SS = shaS s := ⟨_, rfl⟩
  rw [← hSS] at HS ⊢
  have HI := Lib.hid hi
  clear h hMX hi hSS
  go_enter Try.func13, Try.ntmps13
  go_wp2_with fail
  refine HN.out.mono ?_
  rintro e w' ⟨rfl, rfl⟩
  go_wp2_with (refine wpList_load_mid rfl 45 _ rfl p 0 rfl MX _ (by exact HR.out) Try.underlying45 rfl HI.out ?_)
  refine HS.out.mono ?_
  rintro e w' ⟨rfl, hb⟩
  go_wp2
  go_ret
  exact ⟨rfl, hb⟩
end Go.Proofs.Ytjahdladcijhoaa
