/- The document's reading of a message. Conditions: as named in each theorem. -/
import Derived.Test.YtlcpnpoleaanmaaMsgOf
import Derived.Test.YtlcpnpoleaanmaaMsgRefClean
import Derived.Test.YtlcpnpoleaanmaaRefRead2
namespace Go.Proofs.Ytlcpnpoleaanmaa
open Go.RowKit
set_option linter.unusedVariables false
set_option linter.unusedSimpArgs false

set_option maxRecDepth 100000 in
theorem rtext_rd (w : World) (p : Nat) (s : ByteArray) (z : RSt) (most : Nat) (hmost : most ≤ 1000000000) (hs : s.size ≤ 1000000000) (h : RdB 73 w p s z) :
    Calls Try.prog 47 #[.pointer (some ⟨p, 0, none⟩), .int .i64 most] w fun e w' => e = .returned (.string (mkB (stText most z).1)) ∧ RdB 73 w' p s (stText most z).2 ∧ w.grownBy w' (some p) := by
  obtain ⟨Q, hQ⟩ : ∃ Q, Q = stCount most z := ⟨_, rfl⟩
  have HC := Lib.hid (rcount_rd w p s z most (by omega) hs h)
  have hb := stCount_bd most z
  have ht : stText most z = stRaw Q.1 Q.2 := by rw [hQ]; rfl
  rw [← hQ] at HC hb
  rw [ht]
  clear hQ ht
  go_enter Try.func47, Try.ntmps47
  go_wp2_with fail
  refine HC.out.mono ?_
  rintro e w2 ⟨rfl, hr2, hg2⟩
  have HR := Lib.hid (rraw_rd w2 p s Q.2 Q.1 (by omega) hs hr2)
  have HG := Lib.hid hg2
  clear hr2 hg2 HC
  go_wp2_with fail
  refine HR.out.mono ?_
  rintro e w3 ⟨rfl, hr3, hg3⟩
  have HF := Lib.hid (And.intro hr3 (grown_trans HG.out hg3))
  clear hr3 hg3 HR
  go_wp2
  go_ret
  exact ⟨rfl, HF.out.1, HF.out.2⟩

/-- the state of the document's reading -/
structure MsR (w wr : World) (pz pr pg : Nat) (s : ByteArray) (m : Mg) (v : Value) (z : RSt) : Prop where
  zb : Blk wr pz mgZ 26
  g : Blk wr pg (mgC m v) 26
  r : RdB 73 wr pr s z
  i : wr.ownsRow (pg + 1) 55 3 v m.list.length (m.list.flatMap enC)
  b : Below w.heap.size w wr
  o1 : w.heap.size ≤ pz
  o2 : pz < pr
  o3 : pr < pg
section
variable {w wr : World} {pz pr pg : Nat} {s : ByteArray} {m m' : Mg} {v : Value} {z : RSt}
theorem MsR.next (h : MsR w wr pz pr pg s m v z) {w' : World} (hb : Below wr.heap.size wr w') : MsR w w' pz pr pg s m v z :=
  ⟨h.zb.below hb h.zb.lt, h.g.below hb h.g.lt, h.r.next hb, World.ownsRow.kept h.i (below_grown hb none) (by cases hv : v.ownBlock <;> simp), below_then' h.b hb, h.o1, h.o2, h.o3⟩
theorem MsR.far (h : MsR w wr pz pr pg s m v z) {w' : World} {row : Option Nat} (hg : wr.grownBy w' row) (hr : ∀ k, row = some k → pg < k ∧ v.ownBlock ≠ some k) : MsR w w' pz pr pg s m v z := by
  have h1 := h.o1; have h2 := h.o2; have h3 := h.o3
  have ne : ∀ q, q ≤ pg → some q ≠ row := fun q hq e => by have := (hr q e.symm).1; omega
  refine ⟨h.zb.grown hg (ne pz (by omega)), h.g.grown hg (ne pg (by omega)), h.r.grown hg (ne pr (by omega)), World.ownsRow.kept h.i hg ?_, h.b.grown hg h.b.size (fun k hk => by have := (hr k hk).1; omega), h1, h2, h3⟩
  cases row with
  | none => cases hv : v.ownBlock <;> simp
  | some k => exact .inr (hr k rfl).2
theorem MsR.read (h : MsR w wr pz pr pg s m v z) {w' : World} {z' : RSt} (hr : RdB 73 w' pr s z') (hg : wr.grownBy w' (some pr)) : MsR w w' pz pr pg s m v z' := by
  have h1 := h.o1; have h2 := h.o2; have h3 := h.o3
  exact ⟨h.zb.grown hg (by simp; omega), h.g.grown hg (by simp; omega), hr, World.ownsRow.kept h.i hg (.inr fun e => by have := (World.ownsRow.lt h.i pr e).1; omega), h.b.grown hg h.b.size (fun k hk => by injection hk with hk; omega), h1, h2, h3⟩
theorem MsR.put (h : MsR w wr pz pr pg s m v z) {w' : World} (hk : wr.grownBy w' (some pg)) (hp : Blk w' pg (mgC m' v) 26) (hl : m'.list = m.list) : MsR w w' pz pr pg s m' v z := by
  have h1 := h.o1; have h2 := h.o2; have h3 := h.o3
  exact ⟨h.zb.grown hk (by simp; omega), hp, h.r.grown hk (by simp; omega), by rw [hl]; exact World.ownsRow.kept h.i hk (.inr fun e => by have := (World.ownsRow.lt h.i pg e).1; omega), h.b.grown hk h.b.size (fun k hk => by injection hk with hk; omega), h1, h2, h3⟩
theorem MsR.cell (h : MsR w wr pz pr pg s m v z) (i : Nat) (x : Value) (e : (mgC m v).set i x = mgC m' v) (hl : m'.list = m.list) :
    MsR w (wr.setCell ⟨pg, i, none⟩ x) pz pr pg s m' v z := h.put (grown_set (grown_refl _ _) _ _) (by rw [← e]; exact h.g.set i x) hl
theorem MsR.app (h : MsR w wr pz pr pg s m v z) {w5 : World} {v5 : Value} {x : En} (ho : w5.ownsRow (pg + 1) 55 3 v5 (m.list.length + 1) (m.list.flatMap enC ++ enC x)) (hg : wr.grownBy w5 v.ownBlock) :
    MsR w (w5.setCell ⟨pg, 13, none⟩ v5) pz pr pg s { m with list := m.list ++ [x] } v5 z := by
  have h1 := h.o1; have h2 := h.o2; have h3 := h.o3
  have hgs : w5.grownBy (w5.setCell ⟨pg, 13, none⟩ v5) (some pg) := grown_set (grown_refl _ _) 13 _
  have far : ∀ q, q ≤ pg → some q ≠ v.ownBlock := fun q hq e => by have := (World.ownsRow.lt h.i q e.symm).1; omega
  have hb5 : Below w.heap.size w w5 := h.b.grown hg h.b.size (fun k hk => by have := (World.ownsRow.lt h.i k hk).1; omega)
  refine ⟨(h.zb.grown hg (far pz (by omega))).setOther (by simp; omega) v5, (h.g.grown hg (far pg (by omega))).set 13 v5, (h.r.grown hg (far pr (by omega))).grown hgs (by simp; omega), ?_, hb5.grown hgs hb5.size (fun k hk => by injection hk with hk; omega), h1, h2, h3⟩
  have e1 : ({ m with list := m.list ++ [x] } : Mg).list.length = m.list.length + 1 := by simp
  have e2 : ({ m with list := m.list ++ [x] } : Mg).list.flatMap enC = m.list.flatMap enC ++ enC x := by simp
  rw [e1, e2]
  exact World.ownsRow.kept ho hgs (.inr fun e => by have := (World.ownsRow.lt ho pg e).1; omega)
end
/-- the reading so far: behind an error all but the error is open -/
def AllR (L : List UInt8) (R0 : Mg × RSt) (m : Mg) (z : RSt) : Prop := (rdAll L R0).2 = z ∧ (z.2 = 0 → (rdAll L R0).1 = m)
theorem AllR.step {L : List UInt8} {R0 : Mg × RSt} {m m' : Mg} {z z' : RSt} (h : AllR L R0 m z) (u : UInt8) (hz : (rdF u (m, z)).2 = z') (hm : z'.2 = 0 → (rdF u (m, z)).1 = m') : AllR (L ++ [u]) R0 m' z' := by
  obtain ⟨h1, h2⟩ := h
  have e0 : rdAll L R0 = ((rdAll L R0).1, z) := by rw [← h1]
  have ez : (rdF u (rdAll L R0)).2 = z' := by rw [e0, rdF_st u _ m z]; exact hz
  refine ⟨by rw [rdAll_snoc]; exact ez, fun h0 => ?_⟩
  have hz0 : z.2 = 0 := by
    by_cases h : z.2 = 0
    · exact h
    · have h5 := rdF_err (c := u) (s := (m, z)) h
      rw [hz] at h5
      rw [show z' = z from h5] at h0; exact h0
  rw [rdAll_snoc, e0, h2 hz0]; exact hm h0
theorem rdE_at {j : Nat} {z1 z2 : RSt} {l : List En} (h : rdEs j z1 = (l, z2)) : rdEs (j + 1) z1 = (l ++ [⟨((stNum z2).1 : Nat), ((stNum (stNum z2).2).1 : Nat), mkB (stRaw 32 (stNum (stNum z2).2).2).1⟩], (stRaw 32 (stNum (stNum z2).2).2).2) := by
  show ((rdEs j z1).1 ++ [(rdE (rdEs j z1).2).1], (rdE (rdEs j z1).2).2) = _
  rw [h]; rfl
def RReadP (w : World) (l : List UInt8) (e : Ending) (w' : World) : Prop := OfR w l e w'
set_option maxRecDepth 100000 in
set_option maxHeartbeats 20000000 in
theorem rmread_any (w : World) (s : ByteArray) (hs : s.size ≤ 1000000000) :
    Calls Try.prog 24 #[.string s] w (RReadP w s.data.toList) := by
  obtain ⟨i0, hi, hz0, hz1, hz2⟩ := info_parts infoEn
  have hmz := mgZ_run
  have hrz : ∀ w, (zeroValue 73).run Try.prog w = .ok (.agg #[.string ByteArray.empty, .int .i64 0, .int .i64 0]) w := fun _ => by kernel_rfl
  have hez : ∀ w, (zeroValue 55).run Try.prog w = .ok (.agg #[.int .i64 0, .int .i64 0, .string ByteArray.empty]) w := fun _ => by kernel_rfl
  obtain ⟨V1, hV1⟩ : ∃ V, V = w.alloc (.cells mgZ.toArray 26) := ⟨_, rfl⟩
  obtain ⟨pz, hpz⟩ : ∃ p, p = w.heap.size := ⟨_, rfl⟩
  obtain ⟨V2, hV2⟩ : ∃ V, V = V1.alloc (.cells #[.string s, .int .i64 0, .int .i64 0] 73) := ⟨_, rfl⟩
  obtain ⟨pr, hpr⟩ : ∃ p, p = V1.heap.size := ⟨_, rfl⟩
  obtain ⟨V3, hV3⟩ : ∃ V, V = V2.alloc (.cells mgZ.toArray 26) := ⟨_, rfl⟩
  obtain ⟨pg, hpg⟩ : ∃ p, p = V2.heap.size := ⟨_, rfl⟩
  have hb1 : Below w.heap.size w V1 := by rw [hV1]; exact below_alloc' _ _
  have hb2 : Below V1.heap.size V1 V2 := by rw [hV2]; exact below_alloc' _ _
  have hb3 : Below V2.heap.size V2 V3 := by rw [hV3]; exact below_alloc' _ _
  have h1 : Blk V1 pz mgZ 26 := by rw [hV1, hpz]; exact Blk.new _ _ _
  have h2 : RdB 73 V2 pr s (s.data.toList, 0) := ⟨0, by omega, rfl, by rw [hV2, hpr]; exact Blk.new _ _ _⟩
  have h3 : Blk V3 pg mgZ 26 := by rw [hV3, hpg]; exact Blk.new _ _ _
  have hs1 : V1.heap.size = w.heap.size + 1 := by rw [hV1]; simp
  have hs2 : V2.heap.size = w.heap.size + 2 := by rw [hV2, hV1]; simp
  have HS3 : Hid (MsR w V3 pz pr pg s (mg0 0 0 0) (.slice none 0 0) (s.data.toList, 0)) :=
    Lib.hid ⟨((h1.below hb2 h1.lt).below hb3 (by have := h1.lt; omega)), h3, h2.next hb3, World.ownsRow_nil _ _ _ _, below_then' (below_then' hb1 hb2) hb3, by omega, by omega, by omega⟩
  obtain ⟨z0, hz0'⟩ : ∃ z : RSt, z = (s.data.toList, 0) := ⟨_, rfl⟩
  rw [← hz0'] at HS3
  have HZ0 := Lib.hid hz0'
  obtain ⟨n1, hn1⟩ : ∃ R, R = stNum z0 := ⟨_, rfl⟩
  obtain ⟨n2, hn2⟩ : ∃ R, R = stNum n1.2 := ⟨_, rfl⟩
  obtain ⟨n3, hn3⟩ : ∃ R, R = stNum n2.2 := ⟨_, rfl⟩
  have HH : Hid (rdH z0 = (mg0 (n1.1 : Nat) (n2.1 : Nat) (n3.1 : Nat), n3.2)) := Lib.hid (by unfold rdH; rw [← hn1, ← hn2, ← hn3])
  have HN1 := Lib.hid (hn1 : n1 = stNum z0)
  have HN2 := Lib.hid (hn2 : n2 = stNum n1.2)
  have HN3 := Lib.hid (hn3 : n3 = stNum n2.2)
  unfold mgZ mgC mg0 at hV1 hV3
  simp only at hV1 hV3
  have HV1 := Lib.hid hV1
  have HV2 := Lib.hid hV2
  have HV3 := Lib.hid hV3
  have HP1 := Lib.hid hpz
  have HP2 : Hid (pr = w.heap.size + 1) := Lib.hid (by omega)
  have HP3 := Lib.hid hpg
  have HP2' := Lib.hid hpr
  clear hV1 hV2 hV3 hpz hpr hpg hb1 hb2 hb3 h1 h2 h3 hs1 hs2 hz0' hn1 hn2 hn3
  go_enter Try.func24, Try.ntmps24
  go_upto_region 2 with fail
  rw [← HP2.out, ← HP1.out, ← HV1.out, ← HV2.out]
  go_upto_region 3 with fail
  rw [← HP3.out, ← HV3.out]
  go_wp2_with fail
  refine (rnum_rd V3 pr s z0 hs HS3.out.r).mono ?_
  rw [← HN1.out]
  rintro e w4 ⟨rfl, hr4, hg4⟩
  have hS4 := HS3.out.read hr4 hg4
  have x0 := hS4.g.cell (i := 0) rfl
  have y0 := hS4.g.frozen 0
  have HS5 : Hid (MsR w (w4.setCell ⟨pg, 0, none⟩ (.int .i64 (n1.1 : Nat))) pz pr pg s (mg0 (n1.1 : Nat) 0 0) (.slice none 0 0) n1.2) := Lib.hid (hS4.cell 0 _ rfl rfl)
  clear hr4 hg4 hS4
  go_wp2_with fail
  generalize w4.setCell ⟨pg, 0, none⟩ (.int .i64 (n1.1 : Nat)) = w5 at HS5 ⊢
  refine (rnum_rd w5 pr s n1.2 hs HS5.out.r).mono ?_
  rw [← HN2.out]
  rintro e w6 ⟨rfl, hr6, hg6⟩
  have hS6 := HS5.out.read hr6 hg6
  have x1 := hS6.g.cell (i := 1) rfl
  have y1 := hS6.g.frozen 1
  have HS7 : Hid (MsR w (w6.setCell ⟨pg, 1, none⟩ (.int .i64 (n2.1 : Nat))) pz pr pg s (mg0 (n1.1 : Nat) (n2.1 : Nat) 0) (.slice none 0 0) n2.2) := Lib.hid (hS6.cell 1 _ rfl rfl)
  clear hr6 hg6 hS6 x0 y0
  go_wp2_with fail
  generalize w6.setCell ⟨pg, 1, none⟩ (.int .i64 (n2.1 : Nat)) = w7 at HS7 ⊢
  refine (rnum_rd w7 pr s n2.2 hs HS7.out.r).mono ?_
  rw [← HN3.out]
  rintro e w8 ⟨rfl, hr8, hg8⟩
  have hS8 := HS7.out.read hr8 hg8
  have x2 := hS8.g.cell (i := 2) rfl
  have y2 := hS8.g.frozen 2
  have hS9 : MsR w (w8.setCell ⟨pg, 2, none⟩ (.int .i64 (n3.1 : Nat))) pz pr pg s (mg0 (n1.1 : Nat) (n2.1 : Nat) (n3.1 : Nat)) (.slice none 0 0) n3.2 := hS8.cell 2 _ rfl rfl
  have d0 := hS9.g.cell (i := 0) rfl
  have HS9 := Lib.hid hS9
  clear hr8 hg8 hS8 x1 y1 hS9
  obtain ⟨kd, hkd⟩ : ∃ k : Int, k = ((n1.1 : Nat) : Int) := ⟨_, rfl⟩
  have HKD := Lib.hid hkd
  go_upto_region 6 with fail
  generalize w8.setCell ⟨pg, 2, none⟩ (.int .i64 (n3.1 : Nat)) = w9 at HS9 d0 ⊢
  rw [show (mg0 (n1.1 : Nat) (n2.1 : Nat) (n3.1 : Nat)).kind = kd from hkd.symm] at d0
  clear x2 y2 hkd
  go_wp2_with fail
  refine (fields_any w9 kd).mono ?_
  rintro e wf ⟨rfl, rfl⟩
  clear d0 hmz hrz HS3 HS5 HS7
  obtain ⟨S, hS⟩ : ∃ S, S = fldS kd := ⟨_, rfl⟩
  have hsz : S.size = (flds kd).length := by rw [hS]; rfl
  have h5 : S.size ≤ 5 := by rw [hsz]; exact flds_len _
  rw [← hS]
  obtain ⟨R0, hR0⟩ : ∃ R, R = rdH z0 := ⟨_, rfl⟩
  have HR0 := Lib.hid hR0
  have HST0 : Hid (AllR ((flds kd).take 0) R0 (mg0 (n1.1 : Nat) (n2.1 : Nat) (n3.1 : Nat)) n3.2) := Lib.hid (by rw [List.take_zero, hR0, HH.out]; exact ⟨rfl, fun _ => rfl⟩)
  have HSS := Lib.hid hS
  have HSZ := Lib.hid hsz
  clear hS hsz hR0
  go_wp2_with fail
  go_loopw [7] (fun i wr => ∃ k : Nat, k ≤ S.size ∧ i = .int .i64 k ∧ ∃ (m : Mg) (v : Value) (z : RSt), AllR ((flds kd).take k) R0 m z ∧ MsR w wr pz pr pg s m v z ∧ m.list.length ≤ 64 * k) (fun i _ => S.size - (intOf i).toNat)
  case atStart => exact ⟨0, by omega, rfl, _, _, _, HST0.out, HS9.out, by simp [mg0]⟩
  case round =>
    clear HST0 HS9
    obtain ⟨k, hk, rfl, m, v, z, hAR, hS, hml⟩ := hrel
    by_cases hlt : k < S.size
    case neg => as_aux_lemma =>
      have hkn : k = S.size := by omega
      have e : (flds kd).take k = flds kd := by rw [hkn, HSZ.out, List.take_length]
      rw [e] at hAR
      have h1 : (rdH z0).1.kind = kd := by rw [HH.out, HKD.out]; rfl
      have hrm : readM (s.data.toList, 0) = rdAll (flds kd) R0 := by rw [← HZ0.out, HR0.out]; unfold readM; rw [h1]
      have hR2 : (readM (s.data.toList, 0)).2 = z := by rw [hrm]; exact hAR.1
      have hR1 : z.2 = 0 → (readM (s.data.toList, 0)).1 = m := by rw [hrm]; exact hAR.2
      have hz0 : (stEnd z).2 = 0 → z.2 = 0 := by
        intro h; unfold stEnd at h; split at h
        · simp at h
        · exact h
      have HO0 : Hid ((stEnd z).2 ≠ 0 → OfB s.data.toList (mg0 0 0 0) (stEnd z).2) := Lib.hid (fun h => .inl (by rw [hR2]; exact ⟨h, rfl, rfl⟩))
      have HO1 : Hid ((stEnd z).2 = 0 → ¬ rightM m → OfB s.data.toList (mg0 0 0 0) 5) := Lib.hid (fun h hr => .inr (.inl (by rw [hR2, hR1 (hz0 h)]; exact ⟨h, hr, rfl, rfl⟩)))
      have HO2 : Hid ((stEnd z).2 = 0 → rightM m → OfB s.data.toList m 0) := Lib.hid (fun h hr => .inr (.inr (by rw [hR2, hR1 (hz0 h)]; exact ⟨h, hr, rfl, rfl⟩)))
      have HEN := Lib.hid (rend_rd wr pr s z hs hS.r)
      obtain ⟨ao, cap, rfl⟩ := owns_slice hS.i
      obtain ⟨n, hn⟩ : ∃ n, n = m.list.length := ⟨_, rfl⟩
      rw [← hn] at hS hml
      have hn1000 : n ≤ maxLen := by unfold maxLen; omega
      have hn1 : n ≤ 1000 := by omega
      obtain ⟨Z, hZ⟩ : ∃ Z, Z = stEnd z := ⟨_, rfl⟩
      obtain ⟨E, hE⟩ : ∃ E, E = Z.2 := ⟨_, rfl⟩
      rw [← hZ] at HO0 HO1 HO2 HEN
      rw [← hE] at HO0 HO1 HO2 HEN
      obtain ⟨b, hb⟩ := bool_of (rightM m)
      have HBB := Lib.hid hb
      have HS := Lib.hid hS
      have HNN := Lib.hid hn
      clear hkn e hAR h1 hrm hR2 hR1 hz0 hS hn hZ hE hml hb
      go_wp2_with fail
      refine HEN.out.mono ?_
      rintro e w2 ⟨rfl, hr2, hg2⟩
      have HS2 := Lib.hid (HS.out.read hr2 hg2)
      clear hr2 hg2 HEN HS
      by_cases hE0 : E = 0
      case neg =>
        have d2 : ((E : Int) != 0) = true := by simpa using hE0
        have HE0 := Lib.hid (HO0.out hE0)
        clear hE0 HO0 HO1 HO2
        go_wp2_with (refine st_mg (m := mg0 0 0 0) (ao := none) (n := 0) (cap := 0) HS2.out.zb rfl rfl rfl rfl ?_)
        refine bodyPost_ret (res_cell_row rfl _ _ pz 26 _ (0, 0) _ rfl (putM_blk HS2.out.zb) Try.underlying26 rfl (by kernel_rfl)) rfl ?_
        exact ⟨_, _, _, _, _, rfl, HE0.out, Rs.nilM _, by decide, putM_below HS2.out.b HS2.out.o1 _ _⟩
      case pos =>
        have HO1' := Lib.hid (HO1.out hE0)
        have HO2' := Lib.hid (HO2.out hE0)
        clear HO0 HO1 HO2
        subst hE0
        have hrs : Rs w2 ao n cap 3 m.list enC := Rs.of_owns en_len HNN.out.symm (by have h := HS2.out.i; rw [← HNN.out] at h; exact h)
        have HRI := Lib.hid (rright_is w2 m ao n cap hrs hn1000 b HBB)
        clear hrs
        go_wp2_with (refine ld_mg HS2.out.g rfl rfl rfl ?_)
        refine HRI.out.mono ?_
        rintro e w3 ⟨rfl, hb3⟩
        have HS3 := Lib.hid (HS2.out.next hb3)
        clear hb3 HRI HS2
        cases b
        case false =>
          have r1 : ¬ rightM m := fun h => by have := HBB.out.2 h; cases this
          have HR1 := Lib.hid (HO1'.out r1)
          clear r1
          go_wp2_with (refine st_mg (m := mg0 0 0 0) (ao := none) (n := 0) (cap := 0) HS3.out.zb rfl rfl rfl rfl ?_)
          refine bodyPost_ret (res_cell_row rfl _ _ pz 26 _ (0, 0) _ rfl (putM_blk HS3.out.zb) Try.underlying26 rfl (by kernel_rfl)) rfl ?_
          exact ⟨_, 5, _, _, _, rfl, HR1.out, Rs.nilM _, by decide, putM_below HS3.out.b HS3.out.o1 _ _⟩
        case true =>
          have HR1 := Lib.hid (HO2'.out (HBB.out.1 rfl))
          go_wp2_with (first | (refine ld_mg HS3.out.g rfl rfl rfl ?_) | (refine st_mg (m := m) (ao := ao) (n := n) (cap := cap) HS3.out.zb rfl rfl rfl rfl ?_))
          refine bodyPost_ret (res_cell_row rfl _ _ pz 26 _ (0, 0) _ rfl (putM_blk HS3.out.zb) Try.underlying26 rfl (by kernel_rfl)) rfl ?_
          have h1 := HS3.out.o1; have h2 := HS3.out.o2; have h3 := HS3.out.o3
          have hq := World.ownsRow.kept HS3.out.i (putM_grown w3 pz m (.slice ao n cap)) (.inr fun e => by have := (World.ownsRow.lt HS3.out.i pz e).1; omega)
          rw [← HNN.out] at hq
          exact ⟨_, 0, _, _, _, rfl, HR1.out, Rs.of_owns en_len HNN.out.symm hq, hn1, putM_below HS3.out.b HS3.out.o1 _ _⟩
    have hkf : k < (flds kd).length := by rw [← HSZ.out]; exact hlt
    obtain ⟨u, hu⟩ : ∃ u, u = S[k] := ⟨_, rfl⟩
    have hue : u = (flds kd)[k] := by rw [hu]; have h2 := HSS.out; subst h2; rfl
    have hum : u ∈ flds kd := by rw [hue]; exact List.getElem_mem hkf
    have h9 := flds_nine kd u hum
    have htk : (flds kd).take (k + 1) = (flds kd).take k ++ [u] := by rw [hue]; exact List.take_succ_eq_append_getElem hkf
    have hnine := nine_cases h9
    have HAR : Hid (∀ m' z', (rdF u (m, z)).2 = z' → (z'.2 = 0 → (rdF u (m, z)).1 = m') → AllR ((flds kd).take (k + 1)) R0 m' z') := Lib.hid (fun m' z' h1 h2 => by rw [htk]; exact hAR.step u h1 h2)
    have HS := Lib.hid hS
    clear hue hum htk h9 hkf hS hAR
    by_cases h77 : u = 77
    case pos =>
      have d : (((S[k]).toNat : Int) == 77) = true := by rw [← hu]; exact chEq (d := 77) rfl h77
      subst h77
      have HN := Lib.hid (rraw_rd wr pr s z 32 (by decide) hs HS.out.r)
      obtain ⟨Q, hQ⟩ : ∃ Q, Q = stRaw 32 z := ⟨_, rfl⟩
      have hF : rdF 77 (m, z) = ({ m with mark := mkB Q.1 }, Q.2) := by rw [hQ]; rfl
      rw [← hQ] at HN
      have HT := Lib.hid (HAR.out { m with mark := mkB Q.1 } Q.2 (by rw [hF]) (fun _ => by rw [hF]))
      clear hQ hF HAR hu hnine
      go_wp2_with fail
      refine HN.out.mono ?_
      rintro e w2 ⟨rfl, hr2, hg2⟩
      have HS2 := Lib.hid (HS.out.read hr2 hg2)
      clear hr2 hg2
      have x := HS2.out.g.cell (i := 9) rfl
      have y := HS2.out.g.frozen 9
      have HS3 : Hid (MsR w (w2.setCell ⟨pg, 9, none⟩ (.string (mkB Q.1))) pz pr pg s { m with mark := mkB Q.1 } v Q.2) := Lib.hid (HS2.out.cell 9 _ rfl rfl)
      have hl3 : m.list.length ≤ 64 * (k + 1) := by omega
      go_wp2
      go_roundw
      case rel => exact ⟨k + 1, by omega, by go_num, _, _, _, HT.out, HS3.out, hl3⟩
      case measure => simp [intOf]; omega
    have d77 : (((S[k]).toNat : Int) == 77) = false := by rw [← hu]; exact chNe (d := 77) rfl h77
    by_cases h80 : u = 80
    case pos =>
      have d : (((S[k]).toNat : Int) == 80) = true := by rw [← hu]; exact chEq (d := 80) rfl h80
      subst h80
      obtain ⟨Q1, hQ1⟩ : ∃ Q, Q = stNum z := ⟨_, rfl⟩
      obtain ⟨Q2, hQ2⟩ : ∃ Q, Q = stNum Q1.2 := ⟨_, rfl⟩
      obtain ⟨Q3, hQ3⟩ : ∃ Q, Q = stText 1024 Q2.2 := ⟨_, rfl⟩
      have hF : rdF 80 (m, z) = ({ m with pat := (Q1.1 : Nat), pof := (Q2.1 : Nat), ptext := mkB Q3.1 }, Q3.2) := by rw [hQ3, hQ2, hQ1]; rfl
      have HN1 := Lib.hid (rnum_rd wr pr s z hs HS.out.r)
      rw [← hQ1] at HN1
      have HQ2 := Lib.hid hQ2
      have HQ3 := Lib.hid hQ3
      have HT := Lib.hid (HAR.out { m with pat := (Q1.1 : Nat), pof := (Q2.1 : Nat), ptext := mkB Q3.1 } Q3.2 (by rw [hF]) (fun _ => by rw [hF]))
      clear hQ1 hQ2 hQ3 hF HAR hu hnine h77
      go_wp2_with fail
      refine HN1.out.mono ?_
      rintro e w2 ⟨rfl, hr2, hg2⟩
      have hS2 := HS.out.read hr2 hg2
      have x10 := hS2.g.cell (i := 10) rfl
      have y10 := hS2.g.frozen 10
      have HS3 : Hid (MsR w (w2.setCell ⟨pg, 10, none⟩ (.int .i64 (Q1.1 : Nat))) pz pr pg s { m with pat := (Q1.1 : Nat) } v Q1.2) := Lib.hid (hS2.cell 10 _ rfl rfl)
      clear hr2 hg2 HN1 hS2
      go_upto_region 16 with fail
      generalize w2.setCell ⟨pg, 10, none⟩ (.int .i64 (Q1.1 : Nat)) = w3 at HS3 ⊢
      have HN2 := Lib.hid (rnum_rd w3 pr s Q1.2 hs HS3.out.r)
      rw [← HQ2.out] at HN2
      clear x10 y10
      go_wp2_with fail
      refine HN2.out.mono ?_
      rintro e w4 ⟨rfl, hr4, hg4⟩
      have hS4 := HS3.out.read hr4 hg4
      have x11 := hS4.g.cell (i := 11) rfl
      have y11 := hS4.g.frozen 11
      have HS5 : Hid (MsR w (w4.setCell ⟨pg, 11, none⟩ (.int .i64 (Q2.1 : Nat))) pz pr pg s { m with pat := (Q1.1 : Nat), pof := (Q2.1 : Nat) } v Q2.2) := Lib.hid (hS4.cell 11 _ rfl rfl)
      clear hr4 hg4 HN2 hS4 HS3
      go_upto_region 17 with fail
      generalize w4.setCell ⟨pg, 11, none⟩ (.int .i64 (Q2.1 : Nat)) = w5 at HS5 ⊢
      have HN3 := Lib.hid (rtext_rd w5 pr s Q2.2 1024 (by decide) hs HS5.out.r)
      rw [← HQ3.out] at HN3
      clear x11 y11
      go_wp2_with fail
      refine HN3.out.mono ?_
      rintro e w6 ⟨rfl, hr6, hg6⟩
      have hS6 := HS5.out.read hr6 hg6
      have x12 := hS6.g.cell (i := 12) rfl
      have y12 := hS6.g.frozen 12
      have HS7 : Hid (MsR w (w6.setCell ⟨pg, 12, none⟩ (.string (mkB Q3.1))) pz pr pg s { m with pat := (Q1.1 : Nat), pof := (Q2.1 : Nat), ptext := mkB Q3.1 } v Q3.2) := Lib.hid (hS6.cell 12 _ rfl rfl)
      have hl3 : m.list.length ≤ 64 * (k + 1) := by omega
      clear hr6 hg6 HN3 hS6
      go_wp2
      go_roundw
      case rel => exact ⟨k + 1, by omega, by go_num, _, _, _, HT.out, HS7.out, hl3⟩
      case measure => simp [intOf]; omega
    have d80 : (((S[k]).toNat : Int) == 80) = false := by rw [← hu]; exact chNe (d := 80) rfl h80
    by_cases h76 : u = 76
    case pos => as_aux_lemma =>
      have d : (((S[k]).toNat : Int) == 76) = true := by rw [← hu]; exact chEq (d := 76) rfl h76
      subst h76
      obtain ⟨Q, hQ⟩ : ∃ Q, Q = stCount 64 z := ⟨_, rfl⟩
      have hF : rdF 76 (m, z) = ({ m with list := m.list ++ (rdEs Q.1 Q.2).1 }, (rdEs Q.1 Q.2).2) := by rw [hQ]; rfl
      have HN1 := Lib.hid (rcount_rd wr pr s z 64 (by decide) hs HS.out.r)
      have hQ64 := stCount_bd 64 z
      rw [← hQ] at HN1 hQ64
      have HT : Hid (∀ (l : List En) (z' : RSt), (rdEs Q.1 Q.2).2 = z' → (z'.2 = 0 → (rdEs Q.1 Q.2).1 = l) → AllR ((flds kd).take (k + 1)) R0 { m with list := m.list ++ l } z') :=
        Lib.hid (fun l z' h1 h2 => HAR.out _ z' (by rw [hF]; exact h1) (fun h => by rw [hF]; simp only; rw [h2 h]))
      clear hQ hF HAR hu hnine h77 h80
      go_wp2_with fail
      refine HN1.out.mono ?_
      rintro e w2 ⟨rfl, hr2, hg2⟩
      have HS2 := Lib.hid (HS.out.read hr2 hg2)
      clear hr2 hg2 HN1 HS
      obtain ⟨c, z1⟩ := Q
      simp only at hQ64 HT HS2 ⊢
      go_wp2_with fail
      go_loopw [9] (fun i wx => ∃ j : Nat, j ≤ c ∧ i = .int .i64 j ∧ ∃ (l : List En) (v2 : Value) (z2 : RSt), Hid (rdEs j z1 = (l, z2)) ∧ l.length ≤ j ∧ MsR w wx pz pr pg s { m with list := m.list ++ l } v2 z2) (fun i _ => c - (intOf i).toNat)
      case atStart => exact ⟨0, by omega, rfl, [], v, z1, Lib.hid rfl, by simp, by rw [List.append_nil]; exact HS2.out⟩
      case round =>
        clear HS2
        obtain ⟨j, hj, rfl, l, v2, z2, HE, hlj, hS⟩ := hrel
        obtain ⟨_, _, _, hbr⟩ := hS.r
        have g2 := hbr.cell (i := 2) rfl
        clear hbr
        obtain ⟨er, her⟩ : ∃ e, e = z2.2 := ⟨_, rfl⟩
        rw [← her] at g2
        by_cases hjc : j < c ∧ er = 0
        case neg =>
          have hz2 : (rdEs c z1).2 = z2 ∧ (z2.2 = 0 → (rdEs c z1).1 = l) := by
            by_cases h : j = c
            · subst h; rw [HE.out]; exact ⟨rfl, fun _ => rfl⟩
            · have hne : er ≠ 0 := fun h2 => hjc ⟨by omega, h2⟩
              have h3 := rdEs_stop z1 j c hj (by rw [HE.out]; rw [her] at hne; exact hne)
              rw [HE.out] at h3
              exact ⟨h3, fun h4 => absurd (her.trans h4) hne⟩
          have HT2 := Lib.hid (HT.out l z2 hz2.1 hz2.2)
          have HS2 := Lib.hid hS
          have hl3 : (m.list ++ l).length ≤ 64 * (k + 1) := by rw [List.length_append]; omega
          have HL3 := Lib.hid hl3
          clear hz2 hS HE HT her hl3
          by_cases h : j < c
          case pos =>
            have hne : ((er : Int) == 0) = false := by
              have h5 : er ≠ 0 := fun h2 => hjc ⟨h, h2⟩
              simpa using h5
            have d5 : decide ((j : Int) < (c : Int)) = true := decide_eq_true (by omega)
            have d6 : decide (j < c) = true := decide_eq_true (by omega)
            clear hjc
            go_wp2
            go_roundw
            case rel => exact ⟨k + 1, by omega, by go_num, _, _, _, HT2.out, HS2.out, HL3.out⟩
            case measure => simp [intOf]; omega
          case neg =>
            have d5 : decide ((j : Int) < (c : Int)) = false := decide_eq_false (by omega)
            have d6 : decide (j < c) = false := decide_eq_false (by omega)
            clear hjc
            go_wp2
            go_roundw
            case rel => exact ⟨k + 1, by omega, by go_num, _, _, _, HT2.out, HS2.out, HL3.out⟩
            case measure => simp [intOf]; omega
        case pos =>
          obtain ⟨hjc, her0⟩ := hjc
          have hE := rdE_at HE.out
          obtain ⟨E1, hE1⟩ : ∃ Q, Q = stNum z2 := ⟨_, rfl⟩
          obtain ⟨E2, hE2⟩ : ∃ Q, Q = stNum E1.2 := ⟨_, rfl⟩
          obtain ⟨E3, hE3⟩ : ∃ Q, Q = stRaw 32 E2.2 := ⟨_, rfl⟩
          rw [← hE1, ← hE2, ← hE3] at hE
          obtain ⟨ao2, cap2, hv2⟩ := owns_slice hS.i
          obtain ⟨N, hN⟩ : ∃ N, N = (m.list ++ l).length := ⟨_, rfl⟩
          obtain ⟨XS, hXS⟩ : ∃ X, X = (m.list ++ l).flatMap enC := ⟨_, rfl⟩
          obtain rfl : v2 = .slice ao2 N cap2 := by rw [hN]; exact hv2
          have hN1000 : N ≤ 1000 := by rw [hN, List.length_append]; omega
          have HNN := Lib.hid hN
          have HXS := Lib.hid hXS
          have HS := Lib.hid hS
          have HQ1 := Lib.hid hE1
          have HQ2 := Lib.hid hE2
          have HQ3 := Lib.hid hE3
          have HE4 := Lib.hid hE
          have i3 : (j : Int) < (c : Int) := by omega
          have hll2 : l.length + 1 ≤ j + 1 := by omega
          subst her0
          have d6 : decide (j < c) = true := decide_eq_true (by omega)
          obtain ⟨Wa, hWa⟩ : ∃ W, W = wr.alloc (Obj.cells #[.int .i64 0, .int .i64 0, .string ByteArray.empty] 55) := ⟨_, rfl⟩
          obtain ⟨px, hpx⟩ : ∃ p, p = wr.heap.size := ⟨_, rfl⟩
          have hba : Below wr.heap.size wr Wa := by rw [hWa]; exact below_alloc' _ _
          have hXa : Blk Wa px [.int .i64 0, .int .i64 0, .string ByteArray.empty] 55 := by rw [hWa, hpx]; exact Blk.new _ _ _
          have hSa := hS.next hba
          have hpgx : pg < px := by rw [hpx]; exact hS.g.lt
          have hprx : pr < px := by have := hS.o3; omega
          have hvx : (Value.slice ao2 N cap2).ownBlock ≠ some px := fun e => by have := (World.ownsRow.lt hS.i px e).2; omega
          have HFX : Hid (∀ k, some px = some k → pg < k ∧ (Value.slice ao2 N cap2).ownBlock ≠ some k) := Lib.hid (fun k e => by injection e with e; subst e; exact ⟨hpgx, hvx⟩)
          have HXA := Lib.hid hXa
          have HSA := Lib.hid hSa
          have HWA := Lib.hid hWa
          have HPX := Lib.hid hpx
          clear hS hE1 hE2 hE3 hE HE hlj hN hXS hv2 her hWa hpx hba hXa hSa hvx
          go_upto_region 24 with fail
          rw [← HPX.out, ← HWA.out]
          clear g2
          have HN1 := Lib.hid (rnum_rd Wa pr s z2 hs HSA.out.r)
          rw [← HQ1.out] at HN1
          go_wp2_with fail
          refine HN1.out.mono ?_
          rintro e w2 ⟨rfl, hr2, hg2⟩
          have hS2 := HSA.out.read hr2 hg2
          have hX2 := HXA.out.grown hg2 (by intro e; injection e with e; omega)
          have x0 := hX2.cell (i := 0) rfl
          have y0 := hX2.frozen 0
          have HX3 := Lib.hid (hX2.set 0 (.int .i64 (E1.1 : Nat)))
          have HS3 := Lib.hid (hS2.far (grown_set (grown_refl w2 (some px)) 0 (.int .i64 (E1.1 : Nat))) HFX.out)
          clear hr2 hg2 HN1 hS2 hX2
          go_upto_region 25 with fail
          generalize w2.setCell ⟨px, 0, none⟩ (.int .i64 (E1.1 : Nat)) = w3 at HS3 HX3 ⊢
          have HN2 := Lib.hid (rnum_rd w3 pr s E1.2 hs HS3.out.r)
          rw [← HQ2.out] at HN2
          clear x0 y0
          go_wp2_with fail
          refine HN2.out.mono ?_
          rintro e w4 ⟨rfl, hr4, hg4⟩
          have hS4 := HS3.out.read hr4 hg4
          have hX4 := HX3.out.grown hg4 (by intro e; injection e with e; omega)
          have x1 := hX4.cell (i := 1) rfl
          have y1 := hX4.frozen 1
          have HX5 := Lib.hid (hX4.set 1 (.int .i64 (E2.1 : Nat)))
          have HS5 := Lib.hid (hS4.far (grown_set (grown_refl w4 (some px)) 1 (.int .i64 (E2.1 : Nat))) HFX.out)
          clear hr4 hg4 HN2 hS4 hX4
          go_upto_region 26 with fail
          generalize w4.setCell ⟨px, 1, none⟩ (.int .i64 (E2.1 : Nat)) = w5 at HS5 HX5 ⊢
          have HN3 := Lib.hid (rraw_rd w5 pr s E2.2 32 (by decide) hs HS5.out.r)
          rw [← HQ3.out] at HN3
          clear x1 y1
          go_wp2_with fail
          refine HN3.out.mono ?_
          rintro e w6 ⟨rfl, hr6, hg6⟩
          have hS6 := HS5.out.read hr6 hg6
          have hX6 := HX5.out.grown hg6 (by intro e; injection e with e; omega)
          have x2 := hX6.cell (i := 2) rfl
          have y2 := hX6.frozen 2
          have HX7 := Lib.hid (hX6.set 2 (.string (mkB E3.1)))
          have HS7 := Lib.hid (hS6.far (grown_set (grown_refl w6 (some px)) 2 (.string (mkB E3.1))) HFX.out)
          clear hr6 hg6 HN3 hS6 hX6
          go_upto_region 27 with fail
          generalize w6.setCell ⟨px, 2, none⟩ (.string (mkB E3.1)) = w7 at HS7 HX7 ⊢
          clear x2 y2
          obtain ⟨X, hX⟩ : ∃ X : En, X = ⟨(E1.1 : Nat), (E2.1 : Nat), mkB E3.1⟩ := ⟨_, rfl⟩
          rw [← hX] at HE4
          have hX7 : Blk w7 px [.int .i64 (E1.1 : Nat), .int .i64 (E2.1 : Nat), .string (mkB E3.1)] 55 := HX7.out
          have x0 := hX7.cell (i := 0) rfl
          have x1 := hX7.cell (i := 1) rfl
          have x2 := hX7.cell (i := 2) rfl
          have x13 := HS7.out.g.cell (i := 13) rfl
          have HIa : Hid (w7.ownsRow (pg + 1) 55 3 (.slice ao2 N cap2) N XS) := Lib.hid (by rw [HNN.out, HXS.out]; have h := HS7.out.i; rw [HNN.out] at h; exact h)
          have HX := Lib.hid hX
          clear hX hX7
          go_wp2_with (at_builtin; refine wpList_append_own _ rfl _ _ 24 rfl (pg + 1) 55 i0 (.agg #[.int .i64 0, .int .i64 0, .string ByteArray.empty]) 3 32 Try.underlying24 hi hz0 hz1 hz2 rfl (by decide) _ _ _ rfl (World.ownsRow.alloc HIa.out _) ⟨w7.heap.size, 0, none⟩ 1 1 [.int .i64 (E1.1 : Nat), .int .i64 (E2.1 : Nat), .string (mkB E3.1)] rfl rfl (cells_newM w7 _ _) (en_one ⟨(E1.1 : Nat), (E2.1 : Nat), mkB E3.1⟩) (by unfold maxLen; omega) (by omega) (by simp; have h2 := HS7.out.g.lt; omega) ?_)
          intro v5 w8 hO5 hg5 _
          obtain ⟨a5, k5, rfl⟩ := owns_slice hO5
          have hSb := HS7.out.next (below_alloc' w7 (Obj.cells #[.int .i64 (E1.1 : Nat), .int .i64 (E2.1 : Nat), .string (mkB E3.1)] 55))
          have hg5' := hSb.g.grown hg5 (fun e => by have h1 := (World.ownsRow.lt hSb.i pg e.symm).1; omega)
          have y13 := hg5'.cell (i := 13) rfl
          have z13 := hg5'.frozen 13
          have hO6 : w8.ownsRow (pg + 1) 55 3 (.slice a5 (N + 1) k5) ((m.list ++ l).length + 1) ((m.list ++ l).flatMap enC ++ enC ⟨(E1.1 : Nat), (E2.1 : Nat), mkB E3.1⟩) := by
            rw [← HNN.out, ← HXS.out]; exact hO5
          have hS8 := hSb.app (x := ⟨(E1.1 : Nat), (E2.1 : Nat), mkB E3.1⟩) hO6 hg5
          have HS8 : Hid (MsR w (w8.setCell ⟨pg, 13, none⟩ (.slice a5 (N + 1) k5)) pz pr pg s { m with list := m.list ++ (l ++ [X]) } (.slice a5 (N + 1) k5) E3.2) := Lib.hid (by rw [HX.out, ← List.append_assoc]; exact hS8)
          clear hO5 hO6 hg5 hSb hg5' hS8 HWA HX
          go_wp2
          go_roundw
          case rel => exact ⟨j + 1, by omega, by go_num, l ++ [X], _, _, HE4, by simp; omega, HS8.out⟩
          case measure => simp [intOf]; omega
    have d76 : (((S[k]).toNat : Int) == 76) = false := by rw [← hu]; exact chNe (d := 76) rfl h76
    obtain ⟨ao, cap, hv⟩ := owns_slice HS.out.i
    obtain ⟨n, hn⟩ : ∃ n, n = m.list.length := ⟨_, rfl⟩
    obtain rfl : v = .slice ao n cap := by rw [hn]; exact hv
    obtain ⟨Q, hQ⟩ : ∃ Q, Q = stNum z := ⟨_, rfl⟩
    obtain ⟨M, hM⟩ : ∃ M, M = setM m u (Q.1 : Nat) := ⟨_, rfl⟩
    have hF : rdF u (m, z) = (M, Q.2) := by rw [hM, hQ]; unfold rdF; rw [if_neg h77, if_neg h80, if_neg h76]
    have HT := Lib.hid (HAR.out M Q.2 (by rw [hF]) (fun _ => by rw [hF]))
    have HRN : Hid (∀ W, RdB 73 W pr s z → Calls Try.prog 45 #[.pointer (some ⟨pr, 0, none⟩)] W fun e w' => e = .returned (.int .i64 (Q.1 : Nat)) ∧ RdB 73 w' pr s Q.2 ∧ W.grownBy w' (some pr)) := Lib.hid (fun W h => by rw [hQ]; exact rnum_rd W pr s z hs h)
    have HMs := Lib.hid hM.symm
    have HLL : Hid (M.list = m.list) := Lib.hid (by rw [hM]; unfold setM; split <;> (try rfl); split <;> (try rfl); split <;> (try rfl); split <;> (try rfl); split <;> rfl)
    have HX : Hid (((S[k]).toNat : Int) = (u.toNat : Nat)) := Lib.hid (by rw [← hu])
    have HSZ2 := Lib.hid hml
    have hu' := Try.underlying26
    have hT : MsR w wr.drew pz pr pg s m (.slice ao n cap) z := HS.out.next (Below.refl _ _).drew
    have i2 : (k : Int) < (S.size : Int) := by omega
    clear HAR hu hnine h77 h80 h76 hn hv hQ hM hF HS hml
    go_wp2_with fail
    refine wp_region_any (by kernel_rfl) ?_
    change wpAny _ _ _ _ _ _ _ (World.drew _)

    refine wpAny_take (i := 1) (v := ?_) rfl (by kernel_rfl) (by kernel_rfl) (by kernel_rfl) (fun _ _ _ h => h) (Or.inl ⟨by rfl, ?_⟩) ?_
    rotate_left
    · intro w; go_simp; first | done | with_reducible rfl
    try simp only [Act.put, List.getElem_toArray, List.getElem_cons_succ, List.getElem_cons_zero, List.setIfInBounds_toArray, List.set_cons_zero, List.set_cons_succ]
    refine wpAny_take (i := 2) (v := ?_) rfl (by kernel_rfl) (by kernel_rfl) (by kernel_rfl) (fun _ _ _ h => h) (Or.inl ⟨by rfl, ?_⟩) ?_
    rotate_left
    · intro w; go_simp; first | done | with_reducible rfl
    try simp only [Act.put, List.getElem_toArray, List.getElem_cons_succ, List.getElem_cons_zero, List.setIfInBounds_toArray, List.set_cons_zero, List.set_cons_succ]
    refine wpAny_take (i := 3) (v := ?_) rfl (by kernel_rfl) (by kernel_rfl) (by kernel_rfl) (fun _ _ _ h => h) (Or.inl ⟨by rfl, ?_⟩) ?_
    rotate_left
    · intro w; go_simp; first | done | with_reducible rfl
    try simp only [Act.put, List.getElem_toArray, List.getElem_cons_succ, List.getElem_cons_zero, List.setIfInBounds_toArray, List.set_cons_zero, List.set_cons_succ]
    refine wpAny_take (i := 4) (v := ?_) rfl (by kernel_rfl) (by kernel_rfl) (by kernel_rfl) (fun _ _ _ h => h) (Or.inl ⟨by rfl, ?_⟩) ?_
    rotate_left
    · intro w; go_simp; first | done | with_reducible rfl
    try simp only [Act.put, List.getElem_toArray, List.getElem_cons_succ, List.getElem_cons_zero, List.setIfInBounds_toArray, List.set_cons_zero, List.set_cons_succ]
    refine wpAny_ready (rs := [0, 5]) (by kernel_rfl) (by simp) ?_
    refine AllReady.cons rfl (fun K hK => ?_) ?_
    ·
      refine step_want rfl ?_
      refine wp_load_mid 26 _ rfl pg 0 rfl _ _ (Blk.range hT.g) hu' rfl (mgInfo _ _) ?_
      refine hK _ _ ?_
      clear hK K
      try simp only [Act.put, List.getElem_toArray, List.getElem_cons_succ, List.getElem_cons_zero, List.setIfInBounds_toArray, List.set_cons_zero, List.set_cons_succ]
      refine wpAny_ready (rs := [5]) (by kernel_rfl) (by simp) ?_
      refine AllReady.cons rfl (fun K hK => ?_) ?_
      ·
        go_simp
        go_wp2_with (refine (HRN.out _ hT.r).mono ?_; rintro e w4 ⟨rfl, hr4, hg4⟩; replace hT := MsR.read hT hr4 hg4; clear hr4 hg4)
        try (refine hK _ _ ?_)
        try clear hK K
        try simp only [Act.put, List.getElem_toArray, List.getElem_cons_succ, List.getElem_cons_zero, List.setIfInBounds_toArray, List.set_cons_zero, List.set_cons_succ]
        refine wpAny_ready (rs := [6]) (by kernel_rfl) (by simp) ?_
        refine AllReady.cons rfl (fun K hK => ?_) ?_
        ·
          go_simp
          go_wp2_with (refine (set_n _ m ao n cap u _ (Q.1 : Nat) HX.out M HMs).mono ?_; rintro e w4 ⟨rfl, hb4⟩; replace hT := MsR.next hT hb4; clear hb4)
          try (refine hK _ _ ?_)
          try clear hK K
          try simp only [Act.put, List.getElem_toArray, List.getElem_cons_succ, List.getElem_cons_zero, List.setIfInBounds_toArray, List.set_cons_zero, List.set_cons_succ]
          refine wpAny_ready (rs := [7]) (by kernel_rfl) (by simp) ?_
          refine AllReady.cons rfl (fun K hK => ?_) ?_
          ·
            refine step_want rfl ?_
            refine wp_store_mid 26 _ _ rfl pg 0 (mgC M (.slice ao n cap)).toArray rfl rfl (Blk.there hT.g _ _ rfl) (mgInfo _ _) (mgOne _ _ _ _) ?_
            refine hK _ _ ?_
            clear hK K
            have hS1 := MsR.put hT (putM_grown _ pg M (.slice ao n cap)) (putM_blk (m := M) (v := (.slice ao n cap)) hT.g) HLL.out
            change wpAny _ _ _ _ _ _ _ (putM _ pg M (.slice ao n cap))
            generalize putM _ pg M (.slice ao n cap) = W5 at hS1 ⊢
            try simp only [Act.put, List.getElem_toArray, List.getElem_cons_succ, List.getElem_cons_zero, List.setIfInBounds_toArray, List.set_cons_zero, List.set_cons_succ]
            refine wpAny_done (by kernel_rfl) ?_ _
            have HS5 := Lib.hid hS1
            clear hS1 hT
            go_wp2
            go_roundw
            case rel => exact ⟨k + 1, by omega, by go_num, _, _, _, HT.out, HS5.out, by rw [HLL.out]; have := HSZ2.out; omega⟩
            case measure => simp [intOf]; omega
          exact AllReady.nil
        exact AllReady.nil
      exact AllReady.nil
    refine AllReady.cons rfl (fun K hK => ?_) ?_
    ·
      go_simp
      go_wp2_with (refine (HRN.out _ hT.r).mono ?_; rintro e w4 ⟨rfl, hr4, hg4⟩; replace hT := MsR.read hT hr4 hg4; clear hr4 hg4)
      try (refine hK _ _ ?_)
      try clear hK K
      try simp only [Act.put, List.getElem_toArray, List.getElem_cons_succ, List.getElem_cons_zero, List.setIfInBounds_toArray, List.set_cons_zero, List.set_cons_succ]
      refine wpAny_ready (rs := [0]) (by kernel_rfl) (by simp) ?_
      refine AllReady.cons rfl (fun K hK => ?_) ?_
      ·
        refine step_want rfl ?_
        refine wp_load_mid 26 _ rfl pg 0 rfl _ _ (Blk.range hT.g) hu' rfl (mgInfo _ _) ?_
        refine hK _ _ ?_
        clear hK K
        try simp only [Act.put, List.getElem_toArray, List.getElem_cons_succ, List.getElem_cons_zero, List.setIfInBounds_toArray, List.set_cons_zero, List.set_cons_succ]
        refine wpAny_ready (rs := [6]) (by kernel_rfl) (by simp) ?_
        refine AllReady.cons rfl (fun K hK => ?_) ?_
        ·
          go_simp
          go_wp2_with (refine (set_n _ m ao n cap u _ (Q.1 : Nat) HX.out M HMs).mono ?_; rintro e w4 ⟨rfl, hb4⟩; replace hT := MsR.next hT hb4; clear hb4)
          try (refine hK _ _ ?_)
          try clear hK K
          try simp only [Act.put, List.getElem_toArray, List.getElem_cons_succ, List.getElem_cons_zero, List.setIfInBounds_toArray, List.set_cons_zero, List.set_cons_succ]
          refine wpAny_ready (rs := [7]) (by kernel_rfl) (by simp) ?_
          refine AllReady.cons rfl (fun K hK => ?_) ?_
          ·
            refine step_want rfl ?_
            refine wp_store_mid 26 _ _ rfl pg 0 (mgC M (.slice ao n cap)).toArray rfl rfl (Blk.there hT.g _ _ rfl) (mgInfo _ _) (mgOne _ _ _ _) ?_
            refine hK _ _ ?_
            clear hK K
            have hS1 := MsR.put hT (putM_grown _ pg M (.slice ao n cap)) (putM_blk (m := M) (v := (.slice ao n cap)) hT.g) HLL.out
            change wpAny _ _ _ _ _ _ _ (putM _ pg M (.slice ao n cap))
            generalize putM _ pg M (.slice ao n cap) = W5 at hS1 ⊢
            try simp only [Act.put, List.getElem_toArray, List.getElem_cons_succ, List.getElem_cons_zero, List.setIfInBounds_toArray, List.set_cons_zero, List.set_cons_succ]
            refine wpAny_done (by kernel_rfl) ?_ _
            have HS5 := Lib.hid hS1
            clear hS1 hT
            go_wp2
            go_roundw
            case rel => exact ⟨k + 1, by omega, by go_num, _, _, _, HT.out, HS5.out, by rw [HLL.out]; have := HSZ2.out; omega⟩
            case measure => simp [intOf]; omega
          exact AllReady.nil
        exact AllReady.nil
      exact AllReady.nil
    exact AllReady.nil
end Go.Proofs.Ytlcpnpoleaanmaa
