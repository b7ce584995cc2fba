/- marks.Sum, marks.Real, and a real book's Mark and Is. Conditions: as named in each theorem. -/
import Derived.Test.YtjahdladcijhoaaShaSum
import Derived.Test.YtjahdladcijhoaaMarksBook
namespace Go.Proofs.Ytjahdladcijhoaa
open Go.RowKit
set_option linter.unusedVariables false
set_option linter.unusedSimpArgs false

noncomputable def KL0 : List Nat := P64.map k3
noncomputable def H0 : V8 := ⟨k2 2, k2 3, k2 5, k2 7, k2 11, k2 13, k2 17, k2 19⟩
theorem KL0_len : KL0.length = 64 := by unfold KL0; rw [List.length_map]; exact P64_len
theorem KL0_lt : ∀ x ∈ KL0, x < 4294967296 := by
  intro x hx
  obtain ⟨p, _, rfl⟩ := List.mem_map.1 hx
  exact k3_lt p
theorem H0_lt : H0.lt := ⟨k2_lt _, k2_lt _, k2_lt _, k2_lt _, k2_lt _, k2_lt _, k2_lt _, k2_lt _⟩
theorem kC_len : kC.length = 64 := arrC_len (Nat.le_refl _) (Nat.le_refl _)
theorem hC_len : hC.length = 8 := arrC_len (Nat.le_refl _) (by decide)
theorem kC_size : kC.toArray.size = 64 := by rw [List.size_toArray]; exact kC_len
theorem hC_size : hC.toArray.size = 8 := by rw [List.size_toArray]; exact hC_len
theorem kC_info : (Try.prog.info? 42).map (·.size) = some kC.toArray.size := by rw [kC_size]; kernel_rfl
theorem hC_info : (Try.prog.info? 43).map (·.size) = some hC.toArray.size := by rw [hC_size]; kernel_rfl
theorem kC_eq : kC = KL0.map v32 := by
  unfold kC arrC KL0
  rw [List.map_map]
  rfl
theorem hC_eq : hC = H0.list.map v32 := rfl
/-- SHA-256 -/
noncomputable def shaS (s : ByteArray) : ByteArray := ⟨(shaL (fun i => KL0.getD i 0) H0 s.data.toList).toArray⟩
theorem shaS_size (s : ByteArray) : (shaS s).size = 32 := rfl
theorem sum_real (w : World) (s : ByteArray) (hs : s.size ≤ 900000000) :
    Calls Try.prog 23 #[.agg (mixC KL0 H0).toArray, .string s] w fun e w' => e = .returned (.string (shaS s)) ∧ Below w.heap.size w w' :=
  sum_any w KL0 KL0_len KL0_lt H0 H0_lt s hs

theorem fold_put (g : Nat → Nat) (off : Nat) (hg : ∀ n, g n = off + n) : ∀ (l pre mid post : List Value) (k : Nat), l.length = mid.length → pre.length = off + k → List.foldl (fun (cs : Array Value) (x : Value × Nat) => cs.setIfInBounds (g x.2) x.1) (pre ++ mid ++ post).toArray (l.zipIdx k) = (pre ++ l ++ post).toArray := by
  intro l
  induction l with
  | nil =>
    intro pre mid post k hl _
    have : mid = [] := List.length_eq_zero_iff.1 (by simpa using hl.symm)
    rw [this]; rfl
  | cons a l ih =>
    intro pre mid post k hl hp
    cases mid with
    | nil => simp at hl
    | cons m mid =>
      rw [List.zipIdx_cons, List.foldl_cons]
      have e : ((pre ++ (m :: mid) ++ post).toArray).setIfInBounds (g k) a = ((pre ++ [a]) ++ mid ++ post).toArray := by
        rw [hg, ← hp, List.setIfInBounds_toArray]
        congr 1
        rw [List.append_assoc, List.set_append_right _ _ (Nat.le_refl _), Nat.sub_self]
        simp
      show List.foldl _ (((pre ++ (m :: mid) ++ post).toArray).setIfInBounds (g k) a) (l.zipIdx (k + 1)) = _
      rw [e, ih (pre ++ [a]) mid post (k + 1) (by simpa using hl) (by simp; omega)]
      congr 1
      simp
def z45 : Array Value := (List.replicate 72 (Value.int .u32 0)).toArray
theorem z45_run (w : World) : (zeroValue 45).run Try.prog w = .ok (.agg z45) w := by kernel_rfl
theorem build45 (KC HC : List Value) (kl : KC.length = 64) (hl : HC.length = 8) : ∃ M1 : Array Value, List.foldl (fun (cs : Array Value) (x : Value × Nat) => cs.setIfInBounds x.2 x.1) z45 KC.zipIdx = M1 ∧ M1.size = 72 ∧ List.foldl (fun (cs : Array Value) (x : Value × Nat) => cs.setIfInBounds (64 + x.2) x.1) M1 HC.zipIdx = (KC ++ HC).toArray := by
  refine ⟨(KC ++ List.replicate 8 (Value.int .u32 0)).toArray, ?_, by rw [List.size_toArray, List.length_append, kl, List.length_replicate], ?_⟩
  · have h := fold_put (fun n => n) 0 (fun n => (Nat.zero_add n).symm) KC [] (List.replicate 64 (Value.int .u32 0)) (List.replicate 8 (Value.int .u32 0)) 0 (by rw [kl, List.length_replicate]) rfl
    rw [List.nil_append, List.nil_append, List.replicate_append_replicate] at h
    exact h
  · have h := fold_put (fun n => 64 + n) 64 (fun n => rfl) HC KC (List.replicate 8 (Value.int .u32 0)) [] 0 (by rw [hl, List.length_replicate]) (by rw [kl])
    rw [List.append_nil, List.append_nil] at h
    exact h
theorem z45_size : z45.size = 72 := by unfold z45; rw [List.size_toArray, List.length_replicate]

set_option maxRecDepth 100000 in
set_option maxHeartbeats 1000000 in
theorem sum_s (w : World) (s : ByteArray) (hs : s.size ≤ 900000000) : Calls Try.prog 20 #[.string s] w fun e w' => e = .returned (.string (shaS s)) ∧ Below w.heap.size w w' := by
  have hak := arr42_run
  have hah := arr43_run
  have HT := Lib.hid (tables_any w)
  obtain ⟨KC, hKC⟩ : ∃ KC, KC = kC := ⟨_, rfl⟩
  obtain ⟨HC, hHC⟩ : ∃ HC, HC = hC := ⟨_, rfl⟩
  have kl := kC_len
  have hl := hC_len
  have ki := kC_info
  have hi := hC_info
  have ko := kC_one
  have ho := hC_one
  have hmix : (mixC KL0 H0) = KC ++ HC := by unfold mixC; rw [hKC, hHC, kC_eq]; rfl
  rw [← hKC] at HT kl ki ko
  rw [← hHC] at HT hl hi ho
  have HMX := Lib.hid (And.intro hmix (And.intro (And.intro kl hl) (And.intro (And.intro ki hi) (And.intro ko ho))))
  clear hKC hHC hmix kl hl ki hi ko ho
  obtain ⟨M1, bb1, bb2, bb3⟩ := build45 KC HC HMX.out.2.1.1 HMX.out.2.1.2
  have kl := HMX.out.2.1.1
  have hl := HMX.out.2.1.2
  have hz45 := z45_run
  have hzs := z45_size
  go_enter Try.func20, Try.ntmps20
  go_wp2_with fail
  refine HT.out.mono ?_
  rintro e w1 ⟨rfl, hb1⟩
  obtain ⟨q3, hq3⟩ : ∃ q, q = w1.heap.size := ⟨_, rfl⟩
  obtain ⟨q4, hq4⟩ : ∃ q, q = w1.heap.size + 1 := ⟨_, rfl⟩
  have hA : Blk ((w1.alloc (Obj.cells z42 42)).alloc (Obj.cells z43 43)) w1.heap.size (List.replicate 64 (Value.int .u32 0)) 42 := (Blk.new w1 (List.replicate 64 (Value.int .u32 0)) _).alloc _
  have hX : Blk ((w1.alloc (Obj.cells z42 42)).alloc (Obj.cells z43 43)) (w1.heap.size + 1) (List.replicate 8 (Value.int .u32 0)) 43 := by
    have := Blk.new (w1.alloc (Obj.cells z42 42)) (List.replicate 8 (Value.int .u32 0)) 43
    rw [World.size_alloc] at this
    exact this
  have hX2 := hX.setAllOther (q := w1.heap.size) (vs := KC) (by omega)
  have hA2 := (hA.setAll (vs := KC) (by rw [HMX.out.2.1.1, List.length_replicate])).setAllOther (q := w1.heap.size + 1) (vs := HC) (by omega)
  have hX3 := hX2.setAll (vs := HC) (by rw [HMX.out.2.1.2, List.length_replicate])
  have hBB : Below w.heap.size w ((((w1.alloc (Obj.cells z42 42)).alloc (Obj.cells z43 43)).setCells w1.heap.size 0 KC).setCells (w1.heap.size + 1) 0 HC) := below_setAll (below_setAll ((hb1.alloc hb1.size _).alloc (by have := hb1.size; simp; omega) _) (by have := hb1.size; omega) _) (by have := hb1.size; omega) _
  have H := Lib.hid (And.intro hA (And.intro hX2 (And.intro hA2 (And.intro hX3 hBB))))
  clear hA hX hX2 hA2 hX3 hBB
  have th1 := H.out.1.thereA (n := KC.toArray.size) (by rw [List.size_toArray, HMX.out.2.1.1, List.length_replicate])
  have th2 := H.out.2.1.thereA (n := HC.toArray.size) (by rw [List.size_toArray, HMX.out.2.1.2, List.length_replicate])
  have g3 := H.out.2.2.1
  have g4 := H.out.2.2.2.1
  unfold Blk at g3 g4
  have TH1 := Lib.hid th1
  have TH2 := Lib.hid th2
  have G3 := Lib.hid g3
  have G4 := Lib.hid g4
  clear th1 th2 g3 g4
  go_wp2_with (first | (refine wpList_store_mid rfl 42 _ _ rfl w1.heap.size 0 KC.toArray rfl rfl (by exact TH1.out) HMX.out.2.2.1.1 HMX.out.2.2.2.1 ?_) | (refine wpList_store_mid rfl 43 _ _ rfl (w1.heap.size + 1) 0 HC.toArray rfl rfl (by exact TH2.out) HMX.out.2.2.1.2 HMX.out.2.2.2.2 ?_) | (refine wpList_load_row rfl 42 _ rfl w1.heap.size rfl 42 KC.toArray _ _ (by exact G3.out) Try.underlying42 rfl HMX.out.2.2.1.1 ?_) | (refine wpList_load_row rfl 43 _ rfl (w1.heap.size + 1) rfl 43 HC.toArray _ _ (by exact G4.out) Try.underlying43 rfl HMX.out.2.2.1.2 ?_))
  rw [← HMX.out.1]
  refine (sum_real _ s hs).mono ?_
  rintro e w9 ⟨rfl, hb9⟩
  have HF := Lib.hid (Below.trans H.out.2.2.2.2 (hb9.mono H.out.2.2.2.2.size))
  clear hb9
  go_wp2
  go_ret
  exact ⟨rfl, HF.out⟩
end Go.Proofs.Ytjahdladcijhoaa
