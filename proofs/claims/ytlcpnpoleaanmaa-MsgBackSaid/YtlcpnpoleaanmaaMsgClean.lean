/- What is left of a message without the fields that its kind has not: the program's Clean. Conditions: the list is not above 1000. -/
import Derived.Test.YtlcpnpoleaanmaaMsgFew
import Derived.Test.YtlcpnpoleaanmaaMsgBodyA
import Derived.Test.YtlcpnpoleaanmaaAppendRow
import Derived.Test.YtlcpnpoleaanmaaMsgRefRight0
namespace Go.Proofs.Ytlcpnpoleaanmaa
open Go.RowKit
set_option linter.unusedVariables false

theorem infoEn : (Try.prog.info? 55).map (fun i => (i.zero, i.size, i.bytes)) = some (some (.agg #[.int .i64 0, .int .i64 0, .string ByteArray.empty]), 3, 32) := by kernel_rfl
theorem en_one (x : En) : ∀ u ∈ enC x, u.oneCell' = true := by
  intro u hu
  simp only [enC, List.mem_cons, List.not_mem_nil, or_false] at hu
  rcases hu with rfl | rfl | rfl <;> rfl
theorem ens_one (l : List En) : ∀ u ∈ l.flatMap enC, u.oneCell' = true := by
  intro u hu
  rw [List.mem_flatMap] at hu
  obtain ⟨y, _, hy⟩ := hu
  exact en_one y u hy
theorem Rs.keptT {α : Type} {T : Nat → Prop} {w w' : World} {ao : Option Addr} {len cap size : Nat} {rs : List α} {f : α → List Value} (h : Rs w ao len cap size rs f) (hk : Kept T w w') (hb : ∀ b off, ao = some ⟨b, off, none⟩ → ¬ T b) : Rs w' ao len cap size rs f := by
  obtain ⟨h1, h2, h3, h4⟩ := h
  refine ⟨h1, h2, h3, fun h0 => ?_⟩
  obtain ⟨b, off, e, hbl, hc⟩ := h4 h0
  exact ⟨b, off, e, Nat.lt_of_lt_of_le hbl hk.size, fun i hi j v hj => (hk.cell hbl (hb b off e)).trans (hc i hi j v hj)⟩
/-- a list in a row that lies apart of a block -/
def VRow (w : World) (q : Nat) (v : Value) (l : List En) : Prop := ∃ ao n cap, v = .slice ao n cap ∧ Rs w ao n cap 3 l enC ∧ ∀ b off, ao = some ⟨b, off, none⟩ → q < b
theorem VRow.kept {T : Nat → Prop} {w w' : World} {q : Nat} {v : Value} {l : List En} (h : VRow w q v l) (hk : Kept T w w') (ht : ∀ k, T k → k = q) : VRow w' q v l := by
  obtain ⟨ao, n, cap, e, hR, hb⟩ := h
  exact ⟨ao, n, cap, e, hR.keptT hk (fun b off e2 t => by have := hb b off e2; have := ht b t; omega), hb⟩
theorem VRow.nil (w : World) (q : Nat) : VRow w q (.slice none 0 0) [] := ⟨none, 0, 0, rfl, ⟨by omega, by decide, rfl, fun h => absurd h (by decide)⟩, fun b off e => by cases e⟩
theorem Kept.set1 {w : World} {p i : Nat} {v : Value} : Kept (fun k => k = p) w (w.setCell ⟨p, i, none⟩ v) := Kept.set (T := fun k => k = p) (Kept.refl _ w) rfl i v
theorem Kept.set14 {w : World} {p : Nat} (v0 v1 v2 v3 v4 v5 v6 v7 v8 v9 v10 v11 v12 v13 : Value) : Kept (fun k => k = p) w ((((((((((((((w.setCell ⟨p, 0, none⟩ v0).setCell ⟨p, 1, none⟩ v1).setCell ⟨p, 2, none⟩ v2).setCell ⟨p, 3, none⟩ v3).setCell ⟨p, 4, none⟩ v4).setCell ⟨p, 5, none⟩ v5).setCell ⟨p, 6, none⟩ v6).setCell ⟨p, 7, none⟩ v7).setCell ⟨p, 8, none⟩ v8).setCell ⟨p, 9, none⟩ v9).setCell ⟨p, 10, none⟩ v10).setCell ⟨p, 11, none⟩ v11).setCell ⟨p, 12, none⟩ v12).setCell ⟨p, 13, none⟩ v13) := by
  have h0 := Kept.refl (fun k => k = p) w
  have h1 := Kept.set (T := fun k => k = p) h0 (show p = p from rfl) 0 v0
  have h2 := Kept.set (T := fun k => k = p) h1 (show p = p from rfl) 1 v1
  have h3 := Kept.set (T := fun k => k = p) h2 (show p = p from rfl) 2 v2
  have h4 := Kept.set (T := fun k => k = p) h3 (show p = p from rfl) 3 v3
  have h5 := Kept.set (T := fun k => k = p) h4 (show p = p from rfl) 4 v4
  have h6 := Kept.set (T := fun k => k = p) h5 (show p = p from rfl) 5 v5
  have h7 := Kept.set (T := fun k => k = p) h6 (show p = p from rfl) 6 v6
  have h8 := Kept.set (T := fun k => k = p) h7 (show p = p from rfl) 7 v7
  have h9 := Kept.set (T := fun k => k = p) h8 (show p = p from rfl) 8 v8
  have h10 := Kept.set (T := fun k => k = p) h9 (show p = p from rfl) 9 v9
  have h11 := Kept.set (T := fun k => k = p) h10 (show p = p from rfl) 10 v10
  have h12 := Kept.set (T := fun k => k = p) h11 (show p = p from rfl) 11 v11
  have h13 := Kept.set (T := fun k => k = p) h12 (show p = p from rfl) 12 v12
  have h14 := Kept.set (T := fun k => k = p) h13 (show p = p from rfl) 13 v13
  exact h14
/-- Clean's state behind some letters: what came, what goes out, the letters -/
def ClSt (m : Mg) (v1 : Value) (p1 p2 p3 L : Nat) (o : Obj) (Lk : List UInt8) (w : World) : Prop :=
  Blk w p1 (mgC m v1) 26 ∧ Blk w p2 mgZ 26 ∧ w.heap[L]? = some o ∧ (p1 ≠ p3 ∧ p2 ≠ p3 ∧ L ≠ p3) ∧ ∃ v, Blk w p3 (mgC (restr m Lk) v) 26 ∧ VRow w p3 v (restr m Lk).list
theorem ClSt.put {m : Mg} {v1 : Value} {p1 p2 p3 L : Nat} {o : Obj} {Lk Lj : List UInt8} {w w' : World} (h : ClSt m v1 p1 p2 p3 L o Lk w) (hk : Kept (fun k => k = p3) w w')
    (hp : ∀ v, Blk w p3 (mgC (restr m Lk) v) 26 → Blk w' p3 (mgC (restr m Lj) v) 26) (hl : (restr m Lj).list = (restr m Lk).list) : ClSt m v1 p1 p2 p3 L o Lj w' := by
  obtain ⟨h1, h2, h3, ⟨n1, n2, n3⟩, v, h4, h5⟩ := h
  have b1 := hk.block p1 h1.lt n1
  have b2 := hk.block p2 h2.lt n2
  have b3 := hk.block L (Array.getElem?_eq_some_iff.1 h3).1 n3
  exact ⟨by unfold Blk at h1 ⊢; rw [b1]; exact h1, by unfold Blk at h2 ⊢; rw [b2]; exact h2, b3.trans h3, ⟨n1, n2, n3⟩, v, hp v h4, by rw [hl]; exact h5.kept hk (fun k e => e)⟩

theorem restr_66 (m : Mg) (L : List UInt8) (v : Value) : (mgC (restr m L) v).set 3 (.int .i64 m.ballot) = mgC (restr m (L ++ [66])) v := by
  rw [← restr_snoc m L 66 (by decide)]; rfl
theorem restrL_66 (m : Mg) (L : List UInt8) : (restr m (L ++ [66])).list = (restr m L).list := by rw [← restr_snoc m L 66 (by decide)]; rfl
theorem restr_71 (m : Mg) (L : List UInt8) (v : Value) : (mgC (restr m L) v).set 4 (.int .i64 m.gen) = mgC (restr m (L ++ [71])) v := by
  rw [← restr_snoc m L 71 (by decide)]; rfl
theorem restrL_71 (m : Mg) (L : List UInt8) : (restr m (L ++ [71])).list = (restr m L).list := by rw [← restr_snoc m L 71 (by decide)]; rfl
theorem restr_83 (m : Mg) (L : List UInt8) (v : Value) : (mgC (restr m L) v).set 5 (.int .i64 m.basis) = mgC (restr m (L ++ [83])) v := by
  rw [← restr_snoc m L 83 (by decide)]; rfl
theorem restrL_83 (m : Mg) (L : List UInt8) : (restr m (L ++ [83])).list = (restr m L).list := by rw [← restr_snoc m L 83 (by decide)]; rfl
theorem restr_70 (m : Mg) (L : List UInt8) (v : Value) : (mgC (restr m L) v).set 6 (.int .i64 m.floor) = mgC (restr m (L ++ [70])) v := by
  rw [← restr_snoc m L 70 (by decide)]; rfl
theorem restrL_70 (m : Mg) (L : List UInt8) : (restr m (L ++ [70])).list = (restr m L).list := by rw [← restr_snoc m L 70 (by decide)]; rfl
theorem restr_84 (m : Mg) (L : List UInt8) (v : Value) : (mgC (restr m L) v).set 7 (.int .i64 m.top) = mgC (restr m (L ++ [84])) v := by
  rw [← restr_snoc m L 84 (by decide)]; rfl
theorem restrL_84 (m : Mg) (L : List UInt8) : (restr m (L ++ [84])).list = (restr m L).list := by rw [← restr_snoc m L 84 (by decide)]; rfl
theorem restr_82 (m : Mg) (L : List UInt8) (v : Value) : (mgC (restr m L) v).set 8 (.int .i64 m.read) = mgC (restr m (L ++ [82])) v := by
  rw [← restr_snoc m L 82 (by decide)]; rfl
theorem restrL_82 (m : Mg) (L : List UInt8) : (restr m (L ++ [82])).list = (restr m L).list := by rw [← restr_snoc m L 82 (by decide)]; rfl
theorem restr_77 (m : Mg) (L : List UInt8) (v : Value) : (mgC (restr m L) v).set 9 (.string m.mark) = mgC (restr m (L ++ [77])) v := by
  rw [← restr_snoc m L 77 (by decide)]; rfl
theorem restrL_77 (m : Mg) (L : List UInt8) : (restr m (L ++ [77])).list = (restr m L).list := by rw [← restr_snoc m L 77 (by decide)]; rfl
theorem restr_80 (m : Mg) (L : List UInt8) (v : Value) : (((mgC (restr m L) v).set 10 (.int .i64 m.pat)).set 11 (.int .i64 m.pof)).set 12 (.string m.ptext) = mgC (restr m (L ++ [80])) v := by
  rw [← restr_snoc m L 80 (by decide)]; rfl
theorem restrL_80 (m : Mg) (L : List UInt8) : (restr m (L ++ [80])).list = (restr m L).list := by rw [← restr_snoc m L 80 (by decide)]; rfl
theorem restr_76 (m : Mg) (L : List UInt8) (v v' : Value) : (mgC (restr m L) v).set 13 v' = mgC (restr m (L ++ [76])) v' := by
  rw [← restr_snoc m L 76 (by decide)]; rfl
theorem restrL_76 (m : Mg) (L : List UInt8) : (restr m (L ++ [76])).list = m.list := by rw [← restr_snoc m L 76 (by decide)]; rfl
/-- what Clean hands back -/
def CleanP (m : Mg) (w : World) (e : Ending) (w' : World) : Prop := ∃ ao n cap, e = .returned (.agg (mgC (cleanM m) (.slice ao n cap)).toArray) ∧ Rs w' ao n cap 3 (cleanM m).list enC ∧ Below w.heap.size w w'

set_option maxRecDepth 100000 in
set_option maxHeartbeats 20000000 in
theorem clean_any (w : World) (m : Mg) (ao : Option Addr) (n cap : Nat) (hR : Rs w ao n cap 3 m.list enC) (hn : n ≤ 1000) :
    Calls Try.prog 20 #[.agg (mgC m (.slice ao n cap)).toArray] w (CleanP m w) := by
  obtain ⟨i0, hi, hz0, hz1, hz2⟩ := info_parts infoEn
  have hmz := mgZ_run
  obtain ⟨V1, hV1⟩ : ∃ V, V = w.alloc (.cells (mgC m (.slice ao n cap)).toArray 26) := ⟨_, rfl⟩
  obtain ⟨p1, hp1⟩ : ∃ p, p = w.heap.size := ⟨_, rfl⟩
  obtain ⟨V2, hV2⟩ : ∃ V, V = V1.alloc (.cells mgZ.toArray 26) := ⟨_, rfl⟩
  obtain ⟨p2, hp2⟩ : ∃ p, p = w.heap.size + 1 := ⟨_, rfl⟩
  obtain ⟨V, hV⟩ : ∃ V, V = V2.alloc (.cells (mgC (mg0 m.kind m.src m.dst) (.slice none 0 0)).toArray 26) := ⟨_, rfl⟩
  obtain ⟨p3, hp3⟩ : ∃ p, p = V2.heap.size := ⟨_, rfl⟩
  have hG1 : Blk V2 p1 (mgC m (.slice ao n cap)) 26 := by rw [hV2, hV1, hp1]; exact (Blk.new _ _ _).alloc _
  have hG2 : Blk V2 p2 mgZ 26 := by
    have := Blk.new V1 mgZ 26
    rw [hV1, World.size_alloc] at this
    rw [hV2, hp2, hV1]; exact this
  have hs2 : V2.heap.size = w.heap.size + 2 := by rw [hV2, hV1]; simp
  have hB2 : Below w.heap.size w V2 := by rw [hV2, hV1]; exact (below_alloc' w _).alloc (by simp) _
  have hBV : Below V2.heap.size V2 V := by rw [hV]; exact below_alloc' _ _
  have hG3 : Blk V p3 (mgC (mg0 m.kind m.src m.dst) (.slice none 0 0)) 26 := by rw [hV, hp3]; exact Blk.new _ _ _
  have c0 := hG1.cell (i := 0) rfl
  have c1 := hG1.cell (i := 1) rfl
  have c2 := hG1.cell (i := 2) rfl
  have hGV1 := hG1.below hBV hG1.lt
  have hGV2 := hG2.below hBV hG2.lt
  have d0 := hGV1.cell (i := 0) rfl
  have hB := below_then' hB2 hBV
  have HRW : Hid (∀ W, Below w.heap.size w W → Rs W ao n cap 3 m.list enC) := Lib.hid (fun W h => hR.below h (Nat.le_refl _))
  have HL := Lib.hid hR.2.2.1
  have hsV : V.heap.size = p3 + 1 := by rw [hV, hp3]; simp
  have hwp : w.heap.size ≤ p3 := by omega
  have hwp2 : w.heap.size ≤ p2 := by omega
  have hp23 : p2 < p3 := by omega
  have HGV := Lib.hid (And.intro hGV1 (And.intro hGV2 hG3))
  have hne : p1 ≠ p3 ∧ p2 ≠ p3 := by omega
  unfold mgC at hV1 hV ⊢
  unfold mgZ mgC mg0 at hV2
  unfold mg0 at hV
  simp only at hV hV2 ⊢
  have HV := Lib.hid hV
  have HV1 := Lib.hid hV1
  have HV2 := Lib.hid hV2
  have HP1 := Lib.hid hp1
  have HP2 := Lib.hid hp2
  have HP3 := Lib.hid hp3
  have HB := Lib.hid hB
  have HNE := Lib.hid hne
  have HSV := Lib.hid hsV
  obtain ⟨cl, C, fz, hlc, hcv, hC⟩ := letters_run V (lowS m.kind)
  obtain ⟨nl, hnl⟩ : ∃ nl, nl = (lowS m.kind).size := ⟨_, rfl⟩
  have hnl2 : nl = (flds m.kind).length := by rw [hnl]; show (low (flds m.kind)).length = _; unfold low; rw [List.length_map]
  have hnl5 : nl ≤ 5 := by rw [hnl2]; exact flds_len _
  rw [← hnl] at hcv hlc
  obtain ⟨W, hW⟩ : ∃ W, W = (V.alloc (Obj.cells C 5 fz)).drew := ⟨_, rfl⟩
  obtain ⟨L, hL⟩ : ∃ L, L = V.heap.size := ⟨_, rfl⟩
  have hBW : Below V.heap.size V W := by rw [hW]; exact ((Below.refl _ _).alloc (Nat.le_refl _) _).drew
  have hSt : ClSt m (.slice ao n cap) p1 p2 p3 L (Obj.cells C 5 fz) [] W := by
    refine ⟨hGV1.below hBW hGV1.lt, hGV2.below hBW hGV2.lt, by rw [hW, hL]; exact heap_alloc_new V _, ⟨hne.1, hne.2, by omega⟩, .slice none 0 0, ?_, ?_⟩
    · rw [restr_nil]; exact hG3.below hBW hG3.lt
    · rw [restr_nil]; exact VRow.nil _ _
  have HST := Lib.hid (And.intro hSt (below_then' hB hBW))
  have HNL := Lib.hid hnl
  have HNL2 := Lib.hid hnl2
  have HW := Lib.hid hW
  have HLL := Lib.hid hL
  have HC := Lib.hid hC
  have HCV := Lib.hid hcv
  clear hC hcv hnl hnl2 hBW hSt hW hL hV hV1 hV2 hp1 hp2 hp3 hG1 hG2 hs2 hB2 hBV hG3 hGV1 hGV2 hB hne hsV hR
  go_enter Try.func20, Try.ntmps20
  go_upto_region 1 with fail
  rw [← HP2.out, ← HP1.out, ← HV1.out, ← HV2.out]
  go_upto_region 2 with fail
  rw [← HP3.out, ← HV.out]
  clear c0 c1 c2 hmz
  go_wp2_with fail
  refine (form_any V m.kind).mono ?_
  rintro e wf ⟨rfl, rfl⟩
  have hcv := HCV.out
  go_wp2_with fail
  rw [← HLL.out, ← HW.out]
  clear hcv d0
  clear HCV
  go_loopw [18] (fun i wr => ∃ k : Nat, k ≤ nl ∧ i = .int .i64 k ∧ ClSt m (.slice ao n cap) p1 p2 p3 L (Obj.cells C 5 fz) ((flds m.kind).take k) wr ∧ Below w.heap.size w wr) (fun i _ => nl - (intOf i).toNat)
  case atStart => exact ⟨0, by omega, rfl, HST.out.1, HST.out.2⟩
  case round =>
    clear HST
    obtain ⟨k, hk, rfl, hS, hBw⟩ := hrel
    by_cases hlt : k < nl
    case neg =>
      have hkn : k = nl := by omega
      have e : (flds m.kind).take k = flds m.kind := by rw [hkn, HNL2.out, List.take_length]
      rw [e] at hS
      obtain ⟨s1, s2, s3, s4, v, s5, s6⟩ := hS
      obtain ⟨ao', n', cap', rfl, hRv, hbv⟩ := s6
      obtain ⟨x0, x1, x2, x3, x4, x5, x6, x7, x8, x9, x10, x11, x12, x13⟩ := mg_cells s5
      have z0 := s2.cell (i := 0) rfl
      have y0 := s2.frozen 0
      have z1 := s2.cell (i := 1) rfl
      have y1 := s2.frozen 1
      have z2 := s2.cell (i := 2) rfl
      have y2 := s2.frozen 2
      have z3 := s2.cell (i := 3) rfl
      have y3 := s2.frozen 3
      have z4 := s2.cell (i := 4) rfl
      have y4 := s2.frozen 4
      have z5 := s2.cell (i := 5) rfl
      have y5 := s2.frozen 5
      have z6 := s2.cell (i := 6) rfl
      have y6 := s2.frozen 6
      have z7 := s2.cell (i := 7) rfl
      have y7 := s2.frozen 7
      have z8 := s2.cell (i := 8) rfl
      have y8 := s2.frozen 8
      have z9 := s2.cell (i := 9) rfl
      have y9 := s2.frozen 9
      have z10 := s2.cell (i := 10) rfl
      have y10 := s2.frozen 10
      have z11 := s2.cell (i := 11) rfl
      have y11 := s2.frozen 11
      have z12 := s2.cell (i := 12) rfl
      have y12 := s2.frozen 12
      have z13 := s2.cell (i := 13) rfl
      have y13 := s2.frozen 13
      have HS2 := Lib.hid s2
      have HRV := Lib.hid (And.intro hRv hbv)
      have HBW := Lib.hid hBw
      clear s1 s2 s3 s4 s5 hkn e hRv hbv hBw
      go_wp2
      refine bodyPost_ret (results_cell_row rfl _ _ p2 26 _ (0, 0) _ rfl (Blk.sets (m := cleanM m) (v := .slice ao' n' cap') _ _ _ _ _ _ _ _ _ _ _ _ _ _ HS2.out) Try.underlying26 rfl (by kernel_rfl)) rfl ?_
      refine ⟨ao', n', cap', rfl, ?_, set14 HBW.out hwp2 _ _ _ _ _ _ _ _ _ _ _ _ _ _⟩
      exact HRV.out.1.keptT (Kept.set14 _ _ _ _ _ _ _ _ _ _ _ _ _ _) (fun b off e h => by have := HRV.out.2 b off e; omega)
    have hkf : k < (flds m.kind).length := by rw [← HNL2.out]; exact hlt
    obtain ⟨u, hu⟩ : ∃ u, (flds m.kind)[k]? = some u := ⟨_, List.getElem?_eq_getElem hkf⟩
    have hum : u ∈ flds m.kind := List.mem_of_getElem? hu
    have hnine := nine_cases (flds_nine m.kind u hum)
    have hcu := HC.out k _ (low_at hu)
    have htk : (flds m.kind).take (k + 1) = (flds m.kind).take k ++ [u] := by
      obtain ⟨h1, h2⟩ := List.getElem?_eq_some_iff.1 hu
      rw [List.take_succ_eq_append_getElem h1, h2]
    have HS0 := hS
    obtain ⟨s1, s2, s3, s4, v, s5, s6⟩ := HS0
    have a0 : wr.cell? ⟨L, k, none⟩ = some (.int .u8 ((u + 32).toNat : Nat)) := cell_heap s3 hcu
    have HTK := Lib.hid htk
    have HS := Lib.hid hS
    have HBW := Lib.hid hBw
    have HS1 := Lib.hid s1
    have HS5 := Lib.hid s5
    have i2 : (k : Int) < (nl : Int) := by omega
    clear hu hum hcu hS hBw hkf htk s3 s4 s1 s2 s5 s6
    obtain ⟨Lk, hLk⟩ : ∃ Lk, Lk = (flds m.kind).take k := ⟨_, rfl⟩
    rw [← hLk] at HTK HS HS5
    clear hLk
    rcases hnine with rfl | rfl | rfl | rfl | rfl | rfl | rfl | rfl | rfl

    · as_aux_lemma =>
        have a1 : wr.cell? ⟨L, k, none⟩ = some (.int .u8 98) := a0
        have g := HS1.out.cell (i := 3) rfl
        have x := HS5.out.cell (i := 3) rfl
        have y := HS5.out.frozen 3
        have HN : Hid (ClSt m (.slice ao n cap) p1 p2 p3 L (Obj.cells C 5 fz) (Lk ++ [66]) (wr.setCell ⟨p3, 3, none⟩ (.int .i64 m.ballot))) := Lib.hid (HS.out.put Kept.set1 (fun v h => by rw [← restr_66]; exact h.set 3 _) (restrL_66 m Lk))
        have HB5 := Lib.hid (HBW.out.setCell (p := ⟨p3, 3, none⟩) hwp (.int .i64 m.ballot))
        clear a0
        go_wp2
        go_roundw
        case rel => exact ⟨k + 1, by omega, by go_num, by rw [HTK.out]; exact HN.out, HB5.out⟩
        case measure => simp [intOf]; omega
    · as_aux_lemma =>
        have a1 : wr.cell? ⟨L, k, none⟩ = some (.int .u8 103) := a0
        have g := HS1.out.cell (i := 4) rfl
        have x := HS5.out.cell (i := 4) rfl
        have y := HS5.out.frozen 4
        have HN : Hid (ClSt m (.slice ao n cap) p1 p2 p3 L (Obj.cells C 5 fz) (Lk ++ [71]) (wr.setCell ⟨p3, 4, none⟩ (.int .i64 m.gen))) := Lib.hid (HS.out.put Kept.set1 (fun v h => by rw [← restr_71]; exact h.set 4 _) (restrL_71 m Lk))
        have HB5 := Lib.hid (HBW.out.setCell (p := ⟨p3, 4, none⟩) hwp (.int .i64 m.gen))
        clear a0
        go_wp2
        go_roundw
        case rel => exact ⟨k + 1, by omega, by go_num, by rw [HTK.out]; exact HN.out, HB5.out⟩
        case measure => simp [intOf]; omega
    · as_aux_lemma =>
        have a1 : wr.cell? ⟨L, k, none⟩ = some (.int .u8 115) := a0
        have g := HS1.out.cell (i := 5) rfl
        have x := HS5.out.cell (i := 5) rfl
        have y := HS5.out.frozen 5
        have HN : Hid (ClSt m (.slice ao n cap) p1 p2 p3 L (Obj.cells C 5 fz) (Lk ++ [83]) (wr.setCell ⟨p3, 5, none⟩ (.int .i64 m.basis))) := Lib.hid (HS.out.put Kept.set1 (fun v h => by rw [← restr_83]; exact h.set 5 _) (restrL_83 m Lk))
        have HB5 := Lib.hid (HBW.out.setCell (p := ⟨p3, 5, none⟩) hwp (.int .i64 m.basis))
        clear a0
        go_wp2
        go_roundw
        case rel => exact ⟨k + 1, by omega, by go_num, by rw [HTK.out]; exact HN.out, HB5.out⟩
        case measure => simp [intOf]; omega
    · as_aux_lemma =>
        have a1 : wr.cell? ⟨L, k, none⟩ = some (.int .u8 102) := a0
        have g := HS1.out.cell (i := 6) rfl
        have x := HS5.out.cell (i := 6) rfl
        have y := HS5.out.frozen 6
        have HN : Hid (ClSt m (.slice ao n cap) p1 p2 p3 L (Obj.cells C 5 fz) (Lk ++ [70]) (wr.setCell ⟨p3, 6, none⟩ (.int .i64 m.floor))) := Lib.hid (HS.out.put Kept.set1 (fun v h => by rw [← restr_70]; exact h.set 6 _) (restrL_70 m Lk))
        have HB5 := Lib.hid (HBW.out.setCell (p := ⟨p3, 6, none⟩) hwp (.int .i64 m.floor))
        clear a0
        go_wp2
        go_roundw
        case rel => exact ⟨k + 1, by omega, by go_num, by rw [HTK.out]; exact HN.out, HB5.out⟩
        case measure => simp [intOf]; omega
    · as_aux_lemma =>
        have a1 : wr.cell? ⟨L, k, none⟩ = some (.int .u8 116) := a0
        have g := HS1.out.cell (i := 7) rfl
        have x := HS5.out.cell (i := 7) rfl
        have y := HS5.out.frozen 7
        have HN : Hid (ClSt m (.slice ao n cap) p1 p2 p3 L (Obj.cells C 5 fz) (Lk ++ [84]) (wr.setCell ⟨p3, 7, none⟩ (.int .i64 m.top))) := Lib.hid (HS.out.put Kept.set1 (fun v h => by rw [← restr_84]; exact h.set 7 _) (restrL_84 m Lk))
        have HB5 := Lib.hid (HBW.out.setCell (p := ⟨p3, 7, none⟩) hwp (.int .i64 m.top))
        clear a0
        go_wp2
        go_roundw
        case rel => exact ⟨k + 1, by omega, by go_num, by rw [HTK.out]; exact HN.out, HB5.out⟩
        case measure => simp [intOf]; omega
    · as_aux_lemma =>
        have a1 : wr.cell? ⟨L, k, none⟩ = some (.int .u8 114) := a0
        have g := HS1.out.cell (i := 8) rfl
        have x := HS5.out.cell (i := 8) rfl
        have y := HS5.out.frozen 8
        have HN : Hid (ClSt m (.slice ao n cap) p1 p2 p3 L (Obj.cells C 5 fz) (Lk ++ [82]) (wr.setCell ⟨p3, 8, none⟩ (.int .i64 m.read))) := Lib.hid (HS.out.put Kept.set1 (fun v h => by rw [← restr_82]; exact h.set 8 _) (restrL_82 m Lk))
        have HB5 := Lib.hid (HBW.out.setCell (p := ⟨p3, 8, none⟩) hwp (.int .i64 m.read))
        clear a0
        go_wp2
        go_roundw
        case rel => exact ⟨k + 1, by omega, by go_num, by rw [HTK.out]; exact HN.out, HB5.out⟩
        case measure => simp [intOf]; omega
    · as_aux_lemma =>
        have a1 : wr.cell? ⟨L, k, none⟩ = some (.int .u8 109) := a0
        have g := HS1.out.cell (i := 9) rfl
        have x := HS5.out.cell (i := 9) rfl
        have y := HS5.out.frozen 9
        have HN : Hid (ClSt m (.slice ao n cap) p1 p2 p3 L (Obj.cells C 5 fz) (Lk ++ [77]) (wr.setCell ⟨p3, 9, none⟩ (.string m.mark))) := Lib.hid (HS.out.put Kept.set1 (fun v h => by rw [← restr_77]; exact h.set 9 _) (restrL_77 m Lk))
        have HB5 := Lib.hid (HBW.out.setCell (p := ⟨p3, 9, none⟩) hwp (.string m.mark))
        clear a0
        go_wp2
        go_roundw
        case rel => exact ⟨k + 1, by omega, by go_num, by rw [HTK.out]; exact HN.out, HB5.out⟩
        case measure => simp [intOf]; omega
    · as_aux_lemma =>
        have a1 : wr.cell? ⟨L, k, none⟩ = some (.int .u8 112) := a0
        have g10 := HS1.out.cell (i := 10) rfl
        have g11 := HS1.out.cell (i := 11) rfl
        have g12 := HS1.out.cell (i := 12) rfl
        have x10 := HS5.out.cell (i := 10) rfl
        have y10 := HS5.out.frozen 10
        have x11 := HS5.out.cell (i := 11) rfl
        have y11 := HS5.out.frozen 11
        have x12 := HS5.out.cell (i := 12) rfl
        have y12 := HS5.out.frozen 12
        have HN : Hid (ClSt m (.slice ao n cap) p1 p2 p3 L (Obj.cells C 5 fz) (Lk ++ [80]) (((wr.setCell ⟨p3, 10, none⟩ (.int .i64 m.pat)).setCell ⟨p3, 11, none⟩ (.int .i64 m.pof)).setCell ⟨p3, 12, none⟩ (.string m.ptext))) := Lib.hid (HS.out.put ((((Kept.refl (fun k => k = p3) wr).set rfl 10 _).set rfl 11 _).set rfl 12 _) (fun v h => by rw [← restr_80]; exact Blk.set (Blk.set (Blk.set h 10 _) 11 _) 12 _) (restrL_80 m Lk))
        have HB5 := Lib.hid (((HBW.out.setCell (p := ⟨p3, 10, none⟩) hwp (.int .i64 m.pat)).setCell (p := ⟨p3, 11, none⟩) hwp (.int .i64 m.pof)).setCell (p := ⟨p3, 12, none⟩) hwp (.string m.ptext))
        clear a0
        go_wp2
        go_roundw
        case rel => exact ⟨k + 1, by omega, by go_num, by rw [HTK.out]; exact HN.out, HB5.out⟩
        case measure => simp [intOf]; omega
    · as_aux_lemma =>
        have a1 : wr.cell? ⟨L, k, none⟩ = some (.int .u8 108) := a0
        have g := HS1.out.cell (i := 13) rfl
        clear a0
        have hE1 : (wr.alloc (Obj.cells #[] 55)).ownsRow wr.heap.size 55 3 (.slice (some ⟨wr.heap.size, 0, none⟩) 0 0) 0 [] :=
          World.ownsRow_lit (base := wr.heap.size) (e := 55) (size := 3) wr #[] 0 (Nat.le_refl _) (by decide) rfl
        have hbV : Below wr.heap.size wr (wr.alloc (Obj.cells #[] 55)) := below_alloc' _ _
        have g' := (HS1.out.alloc (Obj.cells #[] 55)).cell (i := 13) rfl
        have hRa := Rs.cellsAt en_len (by decide) (HRW.out _ (below_then' HBW.out hbV))
        have hfa : (m.list.flatMap enC).length = n * 3 := by rw [flatLen enC 3 en_len, HL.out]
        have HFA := Lib.hid hfa
        have HONE := Lib.hid (ens_one m.list)
        have hsz := HS5.out.lt
        clear hfa
        go_wp2_with (at_builtin; refine wpList_append_row rfl _ _ 24 rfl wr.heap.size 55 i0 (.agg #[.int .i64 0, .int .i64 0, .string ByteArray.empty]) 3 32 Try.underlying24 hi hz0 hz1 hz2 rfl (by decide) wr.heap.size rfl hE1 ao n cap (m.list.flatMap enC) rfl HFA.out hRa HONE.out (by unfold maxLen; omega) (by omega) (by simp) ?_)
        intro v5 w5 hO5 hg5
        obtain ⟨a5, k5, rfl⟩ := owns_slice hO5
        have hb5 : Below wr.heap.size wr w5 := hbV.grown hg5 hbV.size (by intro j hj; injection hj with hj; omega)
        have hR5 := Rs.of_owns en_len HL.out hO5
        have hlow : ∀ b off, a5 = some ⟨b, off, none⟩ → p3 < b := by
          intro b off e
          have := (World.ownsRow.lt hO5 b (by rw [e]; rfl)).1
          omega
        have hS5' := HS5.out.below hb5 hsz
        have x := hS5'.cell (i := 13) rfl
        have y := hS5'.frozen 13
        have HN : Hid (ClSt m (.slice ao n cap) p1 p2 p3 L (Obj.cells C 5 fz) (Lk ++ [76]) (w5.setCell ⟨p3, 13, none⟩ (.slice a5 n k5))) := by
          obtain ⟨q1, q2, q3, q4, v', q5, q6⟩ := HS.out
          have hk := Kept.set1 (w := w5) (p := p3) (i := 13) (v := .slice a5 n k5)
          have b1 := (hk.block p1 (q1.below hb5 q1.lt).lt q4.1).trans (hb5.block p1 q1.lt)
          have b2 := (hk.block p2 (q2.below hb5 q2.lt).lt q4.2.1).trans (hb5.block p2 q2.lt)
          have hq3 := (Array.getElem?_eq_some_iff.1 q3).1
          have b3 := (hk.block L (Nat.lt_of_lt_of_le hq3 hb5.size) q4.2.2).trans (hb5.block L hq3)
          refine Lib.hid ⟨by unfold Blk at q1 ⊢; rw [b1]; exact q1, by unfold Blk at q2 ⊢; rw [b2]; exact q2, b3.trans q3, q4, .slice a5 n k5, ?_, ?_⟩
          · rw [← restr_76 m Lk v]; exact hS5'.set 13 _
          · rw [restrL_76]
            exact ⟨a5, n, k5, rfl, hR5.keptT hk (fun b off e h => by have := hlow b off e; omega), hlow⟩
        have HB5 := Lib.hid ((below_then' HBW.out hb5).setCell (p := ⟨p3, 13, none⟩) hwp (.slice a5 n k5))
        clear hO5 hg5 hb5 hR5 hlow hS5' hE1 hbV hRa
        go_wp2
        go_roundw
        case rel => exact ⟨k + 1, by omega, by go_num, by rw [HTK.out]; exact HN.out, HB5.out⟩
        case measure => simp [intOf]; omega
end Go.Proofs.Ytlcpnpoleaanmaa
