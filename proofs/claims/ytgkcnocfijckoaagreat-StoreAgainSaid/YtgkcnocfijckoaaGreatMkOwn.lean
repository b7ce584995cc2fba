/- The steps for a text by its own signature: the plain law. No conditions. -/
import Derived.Test.YtgkcnocfijckoaaGreatQJ
import Derived.Scope
import Derived.WalkMore
namespace Go.Proofs.YtgkcnocfijckoaaGreat
open Go.RowKit
set_option linter.unusedVariables false
set_option linter.unusedSimpArgs false
theorem Tab_mono {B B' : Nat} {w : World} {pt : Nat} {b z : Int} {vI vS kv pv : Value} {W : List Int} {T : List ByteArray} {L : List Int} (h : Sg.Tab B w pt b z vI vS kv pv W T L) (hb : B' ≤ B) : Sg.Tab B' w pt b z vI vS kv pv W T L :=
  ⟨h.t, owns_mono h.i hb, owns_mono h.s hb, owns_mono h.k hb, owns_mono h.p hb, Nat.le_trans hb h.b0⟩
/-- the table's blocks lie below a place -/
structure TabLt (pk pt : Nat) (vI vS kv pv : Value) : Prop where
  t : pt < pk
  i : ∀ k, vI.ownBlock = some k → k < pk
  s : ∀ k, vS.ownBlock = some k → k < pk
  k : ∀ k, kv.ownBlock = some k → k < pk
  p : ∀ k, pv.ownBlock = some k → k < pk
theorem TabLt.of {B : Nat} {w : World} {pt : Nat} {b z : Int} {vI vS kv pv : Value} {W : List Int} {T : List ByteArray} {L : List Int} (h : Sg.Tab B w pt b z vI vS kv pv W T L) {pk : Nat} (hp : w.heap.size ≤ pk) : TabLt pk pt vI vS kv pv :=
  ⟨Nat.lt_of_lt_of_le h.t.lt hp, fun k e => Nat.lt_of_lt_of_le (World.ownsRow.lt h.i k e).2 hp, fun k e => Nat.lt_of_lt_of_le (World.ownsRow.lt h.s k e).2 hp, fun k e => Nat.lt_of_lt_of_le (World.ownsRow.lt h.k k e).2 hp, fun k e => Nat.lt_of_lt_of_le (World.ownsRow.lt h.p k e).2 hp⟩
theorem Tab_keep {B : Nat} {w w' : World} {pt pk : Nat} {b z : Int} {vI vS kv pv : Value} {W : List Int} {T : List ByteArray} {L : List Int} (h : Sg.Tab B w pt b z vI vS kv pv W T L) (hl : TabLt pk pt vI vS kv pv) {U : Nat → Prop} (hk : Kept U w w') (hU : ∀ k, U k → k < B ∨ pk ≤ k) : Sg.Tab B w' pt b z vI vS kv pv W T L := by
  have far : ∀ {v : Value} {e : TypeId} {n : Nat} {xs : List Value}, w.ownsRow B e 1 v n xs → (∀ k, v.ownBlock = some k → k < pk) → w'.ownsRow B e 1 v n xs := by
    intro v e n xs hv hlt
    refine owns_block hv (fun k e => ?_)
    have h1 := World.ownsRow.lt hv k e
    have h2 := hlt k e
    exact hk.block k h1.2 (fun hu => by have := hU k hu; omega)
  have h0 := h.b0
  have h1 := hl.t
  refine ⟨?_, far h.i hl.i, far h.s hl.s, far h.k hl.k, far h.p hl.p, h0⟩
  have h2 := h.t
  unfold Blk at h2 ⊢
  rw [hk.block pt h.t.lt (fun hu => by have := hU pt hu; omega)]; exact h2
structure MkS (w wr : World) (ro : Option Nat) (B0 pk B pt b z : Nat) (vI vS kv pv : Value) (Wk : List Int) (T : List ByteArray) (N : Nat) (f : Nat → Int) (KS : Nat → World → Prop) (x : Ms) (sv tv : Value) (c : Nat) : Prop where
  m : Mk wr pk B x.L x.t sv tv
  tb : Sg.Tab B0 wr pt b z vI vS kv pv Wk T (Sg.plc N f)
  k : KS c wr
  g : Kept (fun k => ro = some k ∨ B0 ≤ k) w wr
section
variable {w wr w' : World} {ro : Option Nat} {B0 pk B pt b z : Nat} {vI vS kv pv : Value} {Wk : List Int} {T : List ByteArray} {N : Nat} {f : Nat → Int} {KS : Nat → World → Prop} {x x' : Ms} {sv tv sv' tv' : Value} {c c' : Nat}
theorem MkS.turn (h : MkS w wr ro B0 pk B pt b z vI vS kv pv Wk T N f KS x sv tv c) (hl : TabLt pk pt vI vS kv pv) (h0 : B0 ≤ pk) (hro : ∀ m, ro = some m → m < B0) (hm : Mk w' pk B x'.L x'.t sv' tv') {U : Nat → Prop} (hk : Kept U wr w') (hU : ∀ k, U k → ro = some k ∨ pk ≤ k) (hks : KS c' w') :
    MkS w w' ro B0 pk B pt b z vI vS kv pv Wk T N f KS x' sv' tv' c' :=
  ⟨hm, Tab_keep h.tb hl hk (fun k hu => (hU k hu).imp (hro k) id), hks, h.g.trans hk (fun k _ hu => (hU k hu).imp id (fun e => Nat.le_trans h0 e))⟩
end
theorem roll_keep {w w' : World} {pr : Nat} {s : ByteArray} {b a : Nat} (h : RollW w pr s b a) {U : Nat → Prop} (hk : Kept U w w') (hU : ¬ U pr) : RollW w' pr s b a := by
  unfold RollW RollB Blk at h ⊢
  rw [hk.block pr (Blk.lt (h : Blk w pr _ _)) hU]; exact h
theorem cut_all (s : ByteArray) : s.extract 0 s.size = s := ByteArray.extract_zero_size
def MakeP (w : World) (ro : Option Nat) (KS : Nat → World → Prop) (L : List St) (lim : Nat) (e : Ending) (w' : World) : Prop :=
  ∃ sv c, e = .returned (.tuple #[sv, .int .i64 0]) ∧ Own w' w.heap.size sv L ∧ KS c w' ∧ c ≤ lim ∧ Kept (fun k => ro = some k) w w'
/-- what holds of the state -/
structure MsOk (N z b : Nat) (s : ByteArray) (x : Ms) (c : Nat) : Prop where
  le : x.at_ ≤ s.size
  c : c ≤ x.at_
  len : x.L.length + x.t.length ≤ x.at_
  sh : ShL x.L
theorem MsOk.no {N z b : Nat} {s : ByteArray} {x : Ms} {c : Nat} (h : MsOk N z b s x c) (hs : x.at_ + 1 ≤ s.size) : MsOk N z b s ⟨x.L, x.t ++ (s.data.toList.drop x.at_).take 1, x.at_ + 1, x.wn⟩ (c + 1) := by
  have h1 := h.c; have h2 := h.len
  refine ⟨hs, by show c + 1 ≤ x.at_ + 1; omega, ?_, h.sh⟩
  show x.L.length + (x.t ++ _).length ≤ x.at_ + 1
  have := List.length_take_le 1 (s.data.toList.drop x.at_)
  rw [List.length_append]; omega
theorem MsOk.yes {N z b : Nat} {s : ByteArray} {x : Ms} {c i : Nat} (h : MsOk N z b s x c) (hs : x.at_ + b ≤ s.size) (hb : 0 < b) (hz : z ≤ 524288) (hi : i * b + b ≤ z) : MsOk N z b s ⟨copyL (x.L ++ texts (toS x.t)) ((i : Nat) * (b : Nat) : Int) (b : Nat), [], x.at_ + b, (i : Nat) + 1⟩ (c + 1) := by
  have h1 := h.c; have h2 := h.len
  refine ⟨hs, by show c + 1 ≤ x.at_ + b; omega, ?_, ?_⟩
  · show (copyL _ _ _).length + 0 ≤ x.at_ + b
    have := copyL_len (x.L ++ texts (toS x.t)) ((i : Nat) * (b : Nat) : Int) (b : Nat)
    rw [List.length_append, texts_len, toS_size] at this; omega
  · refine (h.sh.append (ShL.texts _)).copy ?_ (by omega) ?_
    · rw [← Int.natCast_mul]; omega
    · rw [← Int.natCast_mul]; omega
set_option maxRecDepth 100000 in
set_option maxHeartbeats 2000000 in
theorem make_any (w : World) (p : Nat) (ro : Option Nat) (b z : Nat) (ao : Option Addr) (n cap : Nat) (bo : Option Addr) (m cap2 : Nat) (Wk : List Int) (T : List ByteArray) (s : ByteArray) (KS : Nat → World → Prop) (mf : ByteArray → Int → Int) (tf : ByteArray → Bool)
    (hW : Rs w ao n cap 1 Wk (fun x => [.int .i64 x])) (hT : Rs w bo m cap2 1 T (fun x => [.string x])) (hw : ∀ x ∈ Wk, (Lit.int .i64 x).wf = true) (htm : ∀ t ∈ T, t.size ≤ maxLen) (hn : n ≤ 1000000) (hm : m ≤ 1000000) (hok : Sg.sigOk b z Wk T)
    (hC : BkC p ro w.heap.size b z Wk T (z / b) KS mf tf) (hK : KS 0 w) (hs : s.size ≤ 524288) :
    Calls Tryz.prog 83 #[.pointer (some ⟨p, 0, none⟩), .agg #[.int .i64 b, .int .i64 z, .slice ao n cap, .slice bo m cap2], .string s] w (MakeP w ro KS (stepsM mf tf s z b) 1000000) := by
  obtain ⟨i0, hi, hz0, hz1, hz2⟩ := info_parts infoByte
  have hmz := makerZ_run
  have hb1 : 16 ≤ b := by have := hok.1; omega
  have hb2 : b ≤ 1024 := by have := hok.2.1; omega
  have hzz : z ≤ 524288 := by have := hok.2.2.2.1; omega
  obtain ⟨B0, hB0⟩ : ∃ B, B = w.heap.size := ⟨_, rfl⟩
  rw [← hB0] at hC
  obtain ⟨V1, hV1⟩ : ∃ V, V = w.alloc (Obj.cells #[.int .i64 b, .int .i64 z, .slice ao n cap, .slice bo m cap2] 136) := ⟨_, rfl⟩
  have hbV : Below w.heap.size w V1 := by rw [hV1]; exact below_alloc _ _
  have hG1 : Blk V1 B0 [.int .i64 b, .int .i64 z, .slice ao n cap, .slice bo m cap2] 136 := by rw [hV1, hB0]; exact Blk.new _ _ _
  have c0 := hG1.cell (i := 0) rfl
  have c1 := hG1.cell (i := 1) rfl
  have c2 := hG1.cell (i := 2) rfl
  have c3 := hG1.cell (i := 3) rfl
  have HNT := Lib.hid (Sg.newTab_ok V1 b z ao n cap bo m cap2 Wk T (Sg.wfI _ (by omega) (by omega)) (Sg.wfI _ (by omega) (by omega)) (hW.next hbV) (hT.next hbV) hw htm hn hm hok)
  have HC := Lib.hid hC
  have HK1 : Hid (KS 0 V1) := Lib.hid (hC.kept 0 w V1 hK (Kept.of_below _ hbV))
  have HBV := Lib.hid hbV
  have HV1 := Lib.hid hV1
  have HB0 := Lib.hid hB0
  obtain ⟨N, hN⟩ : ∃ N, N = z / b := ⟨_, rfl⟩
  have hNb : ∀ i : Nat, i < N → i * b + b ≤ z := by
    intro i hi
    have h1 : (i + 1) * b ≤ N * b := Nat.mul_le_mul_right _ hi
    have h2 : N * b ≤ z := by rw [hN]; exact Nat.div_mul_le_self _ _
    rw [Nat.add_mul, Nat.one_mul] at h1; omega
  have hN5 : N ≤ 524288 := by rw [hN]; exact Nat.le_trans (Nat.div_le_self _ _) hzz
  rw [← hN] at HC HNT
  have HNB := Lib.hid hNb
  have d9 : decide ((524288 : Int) < (s.size : Int)) = false := decide_eq_false (by omega)
  obtain ⟨R, hR⟩ : ∃ R, R = stepsM mf tf s z b := ⟨_, rfl⟩
  have HR := Lib.hid hR
  rw [← hR]
  clear hW hT hw htm hok hC hK hbV hG1 hV1 hB0 hN hNb hR
  go_enter Tryz.func83, Tryz.ntmps83
  go_upto_region 1 with fail
  rw [← HB0.out, ← HV1.out]
  refine wp_scope_straight ?_
  go_wp2_with fail
  refine HNT.out.mono ?_
  rintro e w2 ⟨pt, vI, vS, kv, pv, f, rfl, hTb, hSrt, hInB, hb2w⟩
  have hT2 := Tab_mono hTb (B' := B0) (by have := HBV.out.size; have := HB0.out; omega)
  obtain ⟨V3, hV3⟩ : ∃ V, V = w2.alloc (Obj.cells #[.slice none 0 0, .slice none 0 0] 160) := ⟨_, rfl⟩
  obtain ⟨pk, hpk⟩ : ∃ q, q = w2.heap.size := ⟨_, rfl⟩
  have hb3 : Below w2.heap.size w2 V3 := by rw [hV3]; exact below_alloc _ _
  have hM3 : Blk V3 pk [.slice none 0 0, .slice none 0 0] 160 := by rw [hV3, hpk]; exact Blk.new _ _ _
  have hTL : TabLt pk pt vI vS kv pv := TabLt.of hT2 (by omega)
  have hT3 := hT2.next hb3
  have hB0pk : B0 ≤ pk := by have h1 := hT2.b0; have h2 := hTL.t; omega
  have hbw3 : Below w.heap.size w V3 := below_then (below_then HBV.out hb2w) hb3
  have hk3 : KS 0 V3 := HC.out.kept 0 V1 V3 HK1.out (Kept.of_below _ (below_then hb2w hb3))
  have HM3 := Lib.hid hM3
  have HT3 := Lib.hid hT3
  have HTL := Lib.hid hTL
  have HSI := Lib.hid (And.intro hSrt hInB)
  have HW3 := Lib.hid hbw3
  have HK3 := Lib.hid hk3
  have HV3 := Lib.hid hV3
  have HPK := Lib.hid hpk
  clear hTb hT2 hSrt hInB hb2w hb3 hM3 hTL hT3 hbw3 hk3 hV3 hpk HNT HK1 HV1 c0 c1 c2 c3
  go_upto_region 8 with fail
  rw [← HPK.out, ← HV3.out]
  have HBL := Lib.hid (Sg.tabBlock_any V3 pt b z vI vS kv pv HT3.out.t)
  go_wp2_with fail
  refine HBL.out.mono ?_
  rintro e w4 ⟨rfl, rfl⟩
  clear HBL hmz

  by_cases hbs : b ≤ s.size
  case neg =>
    obtain ⟨B, hBq⟩ : ∃ B, B = V3.heap.size := ⟨_, rfl⟩
    have hpkB : pk < B := by rw [hBq]; exact HM3.out.lt
    have HM0 : Hid (Mk V3 pk B ms0.L ms0.t (.slice none 0 0) (.slice none 0 0)) := Lib.hid ⟨HM3.out, Own.nil _ _, OffB.nil _ _, (fun k h => by cases h), hpkB, by omega⟩
    have HMS : Hid (MkS w V3 ro B0 pk B pt b z vI vS kv pv Wk T N f KS ⟨[], [], 0, 0⟩ (.slice none 0 0) (.slice none 0 0) 0) := Lib.hid ⟨HM0.out, HT3.out, HK3.out, Kept.of_below _ HW3.out⟩
    have HOK : Hid (MsOk N z b s ⟨[], [], 0, 0⟩ 0) := Lib.hid ⟨by show 0 ≤ _; omega, Nat.le_refl _, Nat.le_refl _, fun x hx => by cases hx⟩
    have HY : Hid (mkRun mf s b ms0 = ⟨[], [], 0, 0⟩) := Lib.hid (mkRun_end (by show ¬ 0 + b ≤ s.size; omega))
    clear hBq
    go_wp2_with fail
    refine (new_short s (b : Int) V3 (by omega) (by omega) (by omega)).mono ?_
    rintro e w5 ⟨rfl, rfl⟩
    go_wp2_with fail
    go_step3
    go_wp2_with fail
    go_loopw [11, 12] (fun at_ wn wr => at_ = .int .i64 0 ∧ wn = .int .i64 0 ∧ V3 = wr) (fun _ _ _ => 0)
    case atStart => exact ⟨rfl, rfl, rfl⟩
    case round =>
      obtain ⟨rfl, rfl, rfl⟩ := hrel

      have i9 : ((0 : Nat) : Int) ≤ (s.size : Int) := by have := HOK.out.le; (try simp only at this); omega
      obtain ⟨E9, hE9⟩ : ∃ E, E = s := ⟨_, rfl⟩
      have hEs9 : E9.size ≤ 524288 := by rw [hE9]; first | omega | (rw [ByteArray.size_extract]; omega)
      have hl9 := HOK.out.len
      try simp only at hl9
      have hle9 := HOK.out.le
      try simp only at hle9
      have hc9' := HOK.out.c
      try simp only at hc9'
      have HRE : Hid (R = endL tf z b ([]) ([]) E9) := Lib.hid (by rw [HR.out]; unfold stepsM; rw [HY.out, hE9]; (try simp only [cut_all]))
      have HEN := Lib.hid (mend_any V3 p ro B0 pk B pt b z vI vS kv pv Wk T N f KS mf tf (0) HC.out ([]) ([]) _ _ E9 HMS.out.m HMS.out.tb HSI.out.1 HSI.out.2 HMS.out.k (by omega) hB0pk (by omega) hb2 hzz (by omega) (by omega) hEs9 HOK.out.sh (by have := HTL.out.t; omega) (by have := HTL.out.t; omega))
      have HE9 := Lib.hid hE9
      clear hE9 hl9
      go_wp2_with fail
      rw [show s = E9 from HE9.out.symm]
      refine HEN.out.mono ?_
      rintro e w9 ⟨s9, t9, c9, rfl, hM9, hK9, hc9, hg9⟩
      rw [← HRE.out] at hM9
      obtain ⟨a9, k9, hs9⟩ := owns_slice hM9.s
      obtain ⟨n9, hn9⟩ : ∃ n, n = R.length := ⟨_, rfl⟩
      obtain rfl : s9 = .slice a9 n9 k9 := by rw [hn9]; exact hs9
      have x9 := hM9.b.cell (i := 0) rfl
      have HM9 := Lib.hid hM9
      have HG9 := Lib.hid hg9
      have HKS9 := Lib.hid hK9
      clear hM9 hg9 hs9 hn9 hK9
      go_wp2
      try go_step3
      go_ret2
      refine ⟨_, c9, rfl, owns_mono HM9.out.s (by have := HB0.out; omega), HKS9.out, by omega, ?_⟩
      exact (HMS.out.g.trans HG9.out (fun k _ h => h.elim .inl (fun h => .inr (h.elim (fun e => by omega) (fun e => by omega))))).mono (fun k hk h => h.elim id (fun e => by have := HB0.out; omega))
  case pos =>
    obtain ⟨pr, hpr⟩ : ∃ q, q = V3.heap.size := ⟨_, rfl⟩
    go_wp2_with fail
    refine (new_ok s b V3 (by omega) hb2 hbs (by omega)).mono ?_
    rintro e w5 ⟨rfl, ⟨ob, hob⟩, hRo⟩
    rw [← hpr] at hRo
    rw [← hpr]
    have hb5 : Below V3.heap.size V3 w5 := by rw [hob]; exact below_alloc _ _
    obtain ⟨B, hBq⟩ : ∃ B, B = w5.heap.size := ⟨_, rfl⟩
    have hpkr : pk < pr := by rw [hpr]; exact HM3.out.lt
    have hprB : pr < B := by rw [hBq, hob]; simp; omega
    have HM0 : Hid (Mk w5 pk B ms0.L ms0.t (.slice none 0 0) (.slice none 0 0)) := Lib.hid ⟨HM3.out.below hb5 HM3.out.lt, Own.nil _ _, OffB.nil _ _, (fun k h => by cases h), by omega, by omega⟩
    have HMS : Hid (MkS w w5 ro B0 pk B pt b z vI vS kv pv Wk T N f KS ms0 (.slice none 0 0) (.slice none 0 0) 0) := Lib.hid ⟨HM0.out, HT3.out.next hb5, HC.out.kept 0 _ _ HK3.out (Kept.of_below _ hb5), Kept.of_below _ (below_then HW3.out hb5)⟩
    have HOK : Hid (MsOk N z b s ms0 0) := Lib.hid ⟨by show 0 ≤ _; omega, Nat.le_refl _, Nat.le_refl _, fun x hx => by cases hx⟩
    have HRo := Lib.hid hRo
    have hro : ∀ m, ro = some m → m < B0 := HC.out.ro_lt
    have HRL := Lib.hid hro
    clear hBq hob hb5 hRo hpr hro
    go_wp2_with fail
    go_step3
    go_wp2_with fail
    go_loopw [11, 12] (fun at_ wn wr => ∃ (x : Ms) (sv tv : Value) (c : Nat), at_ = .int .i64 x.at_ ∧ wn = .int .i64 x.wn ∧ MkS w wr ro B0 pk B pt b z vI vS kv pv Wk T N f KS x sv tv c ∧ RollW wr pr s b x.at_ ∧ x.at_ + b ≤ s.size ∧ MsOk N z b s x c ∧ Hid (mkRun mf s b ms0 = mkRun mf s b x)) (fun at_ _ _ => s.size - (intOf at_).toNat)
    case atStart => exact ⟨ms0, _, _, 0, rfl, rfl, HMS.out, HRo.out, by show 0 + b ≤ _; omega, HOK.out, Lib.hid rfl⟩
    case round =>
      clear HMS HOK HRo HM0
      obtain ⟨x, sv, tv, c, rfl, rfl, hS, hRo, hfit, hOK, HRUN⟩ := hrel
      have HGO := Lib.hid (HRUN.out.trans (mkRun_go (by omega) hfit))
      unfold mkStep at HGO
      obtain ⟨xL, xt, xa, xw⟩ := x
      simp only at hfit hRo HGO ⊢
      have hcle := hOK.c
      have hlen := hOK.len
      simp only at hcle hlen
      have hxa : xa ≤ 524288 := by omega
      have HSUM := Lib.hid (sumw_ok wr pr s b xa hRo)
      obtain ⟨E, hE⟩ : ∃ E, E = s.extract xa (xa + b) := ⟨_, rfl⟩
      have hwk : ((weak (win s xa b) : Nat) : Int) = Sg.weakI E := by rw [hE]; unfold Sg.weakI Sg.bytesOf; rw [ext_win]
      have hEs : E.size = b := by rw [hE, ByteArray.size_extract]; omega
      rw [← hE] at HGO
      obtain ⟨I, hI⟩ : ∃ I, I = mf E xw := ⟨_, rfl⟩
      rw [← hI] at HGO
      have HMT : Hid (∀ W, KS c W → Sg.Tab B0 W pt b z vI vS kv pv Wk T (Sg.plc N f) → Calls Tryz.prog 109 #[.pointer (some ⟨pt, 0, none⟩), .pointer (some ⟨p, 0, none⟩), .int .i64 (Sg.weakI E), .string E, .int .i64 xw] W fun e w' => e = .returned (.int .i64 I) ∧ KS (c + 1) w' ∧ W.grownBy w' ro) := Lib.hid (fun W h1 h2 => by
        rw [hI]; exact HC.out.mtch c W E xw pt vI vS kv pv f h1 (by omega) hEs h2 HSI.out.1 HSI.out.2)
      have hIN : I < (N : Int) := by rw [hI]; exact HC.out.mf_lt E xw
      have HE := Lib.hid hE
      have HWK := Lib.hid hwk
      have HS := Lib.hid hS
      have HRo := Lib.hid hRo
      have HOK := Lib.hid hOK
      have hRO := HRo.out
      have i1 : (xa : Int) + (b : Int) ≤ (s.size : Int) := by omega
      have i2 : (0 : Int) ≤ (xa : Int) := by omega
      have i3 : (xa : Int) ≤ (xa : Int) + (b : Int) := by omega
      have i4 : ((xa : Int) + (b : Int)).toNat = xa + b := by omega
      clear hE hwk hEs hI hS hRo hOK HRUN hRO
      go_wp2_with fail
      refine HSUM.out.mono ?_
      rintro e w2 ⟨rfl, q2, rfl⟩
      rw [HWK.out]
      have HS2 : Hid (MkS w (wr.drewN q2) ro B0 pk B pt b z vI vS kv pv Wk T N f KS ⟨xL, xt, xa, xw⟩ sv tv c) := Lib.hid (HS.out.turn HTL.out hB0pk HRL.out (HS.out.m.next (below_drewN' (Below.refl _ _) q2)) (Kept.of_below (fun _ => False) (below_drewN' (Below.refl _ _) q2)) (fun _ h => h.elim) (HC.out.kept c _ _ HS.out.k (Kept.of_below _ (below_drewN' (Below.refl _ _) q2))))
      have HRo2 : Hid (RollW (wr.drewN q2) pr s b xa) := Lib.hid HRo.out
      clear HSUM HS HRo
      generalize wr.drewN q2 = w2 at HS2 HRo2 ⊢
      have HBL := Lib.hid (Sg.tabBlock_any w2 pt b z vI vS kv pv HS2.out.tb.t)
      go_wp2_with fail
      refine HBL.out.mono ?_
      rintro e w3 ⟨rfl, rfl⟩
      clear HBL
      go_wp2_with fail
      rw [← HE.out]
      refine (HMT.out w2 HS2.out.k HS2.out.tb).mono ?_
      rintro e w4 ⟨rfl, hK4, hg4⟩
      have HS4 : Hid (MkS w w4 ro B0 pk B pt b z vI vS kv pv Wk T N f KS ⟨xL, xt, xa, xw⟩ sv tv (c + 1)) := Lib.hid (HS2.out.turn HTL.out hB0pk HRL.out (HS2.out.m.far hg4 (fun m e => by have := HRL.out m e; omega)) (Kept.of_grown hg4) (fun k h => .inl h) hK4)
      have HRo4 : Hid (RollW w4 pr s b xa) := Lib.hid (roll_keep HRo2.out (Kept.of_grown hg4) (fun e => by have := HRL.out pr e; omega))
      clear hK4 hg4 HMT HS2 HRo2
      by_cases hI0 : I < 0
      case pos =>
        rw [if_pos hI0] at HGO
        have hlt : xa < s.size := by omega
        have htk : (s.data.toList.drop xa).take 1 = [s[xa]] := by rw [drop_at s xa hlt]; rfl
        have HOK2 := Lib.hid (HOK.out.no (by show xa + 1 ≤ s.size; omega))
        simp only at HOK2
        rw [htk] at HGO HOK2
        obtain ⟨ch, hch⟩ : ∃ c, c = s[xa] := ⟨_, rfl⟩
        obtain ⟨Wa, hWa⟩ : ∃ W, W = (w4.alloc (Obj.cells #[.int .u8 (s[xa].toNat : Nat)] 5)).drew := ⟨_, rfl⟩
        have hba : Below w4.heap.size w4 Wa := by rw [hWa]; exact (below_alloc _ _).drew
        have HMA := Lib.hid (HS4.out.m.next hba)
        have HKA : Hid (Kept (MkT pk B) w4 Wa) := Lib.hid (Kept.of_below (MkT pk B) hba)
        have hsrc : Src Tryz.prog 1 98 (.slice (some ⟨w4.heap.size, 0, none⟩) 1 1) [ch].length (byteC [ch]) Wa := by
          refine Src.ofSlice Wa (e' := 5) Tryz.underlying98 ⟨w4.heap.size, 0, none⟩ 1 1 (byteC [ch]) rfl (fun j u hj => ?_) (byteC_one' _)
          rw [hWa, hch] at *
          exact cells_new w4 [.int .u8 (s[xa].toNat : Nat)] 5 j u hj
        have HSRC := Lib.hid hsrc
        have hx1 := HS4.out.m.b.cell (i := 1) rfl
        have hx2 : (w4.alloc (Obj.cells #[.int .u8 (s[xa].toNat : Nat)] 5)).drew.cell? ⟨pk, 1, none⟩ = some tv := by rw [← hWa]; exact HMA.out.b.cell (i := 1) rfl
        have hBw : B ≤ Wa.heap.size := HMA.out.hB
        have i5 : (xa : Int) < (s.size : Int) := by omega
        have HWA := Lib.hid hWa
        have HCH := Lib.hid hch
        rw [← hch] at HGO HOK2
        clear hWa hba hsrc htk hch
        go_upto_region 12 with fail
        go_cut [] (fun wx => ∃ (t5 : Value), Mk wx pk B xL (xt ++ [ch]) sv t5 ∧ Kept (MkT pk B) w4 wx)
        case first =>
          go_region_law (rw [← HWA.out]; refine step_append_off (by rfl) (.tmp 56) (.tmp 60) 98 98 (by rfl) 5 i0 (.int .u8 0) Tryz.underlying98 hi hz0 hz1 hz2 rfl B tv xt (by rfl) HMA.out.t hBw (.slice (some ⟨w4.heap.size, 0, none⟩) 1 1) (by rfl) [ch] HSRC.out (by simp; omega) ?_; intro v5 w5 hO5 hg5 hrb; obtain ⟨a5, n5, c5, rfl⟩ := hO5.slice'; have hst := HMA.out.more hO5 hg5 hrb; have z0 := hst.2.2.1; have z1 := hst.2.2.2)
          all_goals
            have HF := Lib.hid (And.intro hst.1 (HKA.out.trans hst.2.1 (fun _ _ h => h)))
            clear hst hO5 hg5 hrb z0 z1
            go_wp2_with fail
            go_meet
            case rel => exact ⟨_, HF.out.1, HF.out.2⟩
        case rest =>
          obtain ⟨t5, hM5, hK5⟩ := hcut
          have HRo5 : Hid (RollW wc pr s b xa) := Lib.hid (roll_keep HRo4.out hK5 (fun h => h.elim (fun e => by omega) (fun e => by omega)))
          have HS5 : Hid (MkS w wc ro B0 pk B pt b z vI vS kv pv Wk T N f KS ⟨xL, xt ++ [ch], xa + 1, xw⟩ sv t5 (c + 1)) := Lib.hid (HS4.out.turn HTL.out hB0pk HRL.out hM5 hK5 (fun k h => .inr (h.elim (fun e => by omega) (fun e => by omega))) (HC.out.kept (c + 1) _ _ HS4.out.k (hK5.mono (fun k _ h => h.elim (fun e => by omega) (fun e => by omega)))))
          clear hM5 hK5 HMA HKA HSRC hx1 hx2 hBw HWA HCH HS4 HRo4
          by_cases hgo : xa + b < s.size
          case pos =>
            have HNX := Lib.hid (next_ok wc pr s b xa HRo5.out (by omega) hb2 hgo (by omega))
            go_wp2_with fail
            refine HNX.out.mono ?_
            rintro e w6 ⟨rfl, hg6, hr6⟩
            have HS6 : Hid (MkS w w6 ro B0 pk B pt b z vI vS kv pv Wk T N f KS ⟨xL, xt ++ [ch], xa + 1, xw⟩ sv t5 (c + 1)) := Lib.hid (HS5.out.turn HTL.out hB0pk HRL.out (HS5.out.m.far hg6 (fun m e => by injection e with e; omega)) (Kept.of_grown hg6) (fun k h => .inr (by injection h with h; omega)) (HC.out.kept (c + 1) _ _ HS5.out.k ((Kept.of_grown hg6).mono (fun k _ h => by injection h with h; omega))))
            have HR6 := Lib.hid hr6
            clear hg6 hr6 HNX
            go_wp2
            go_roundw
            case rel => exact ⟨⟨xL, xt ++ [ch], xa + 1, xw⟩, sv, t5, c + 1, by go_num, rfl, HS6.out, HR6.out, by show xa + 1 + b ≤ s.size; omega, HOK2.out, HGO⟩
            case measure => simp [intOf]; omega
          case neg =>
            have HNX := Lib.hid (next_end wc pr s b xa _ _ HRo5.out (by omega) (by omega) (by omega))
            have HYN : Hid (mkRun mf s b ms0 = ⟨xL, xt ++ [ch], xa + 1, xw⟩) := Lib.hid (HGO.out.trans (mkRun_end (by show ¬ xa + 1 + b ≤ s.size; omega)))
            go_wp2_with fail
            refine HNX.out.mono ?_
            rintro e w6 ⟨rfl, q6, rfl⟩
            have HS6 : Hid (MkS w (wc.drewN q6) ro B0 pk B pt b z vI vS kv pv Wk T N f KS ⟨xL, xt ++ [ch], xa + 1, xw⟩ sv t5 (c + 1)) := Lib.hid (HS5.out.turn HTL.out hB0pk HRL.out (HS5.out.m.next (below_drewN' (Below.refl _ _) q6)) (Kept.of_below (fun _ => False) (below_drewN' (Below.refl _ _) q6)) (fun _ h => h.elim) (HC.out.kept (c + 1) _ _ HS5.out.k (Kept.of_below _ (below_drewN' (Below.refl _ _) q6))))
            clear HNX HS5 HRo5
            generalize wc.drewN q6 = w6 at HS6 ⊢

            have i9 : ((xa + 1 : Nat) : Int) ≤ (s.size : Int) := by have := HOK2.out.le; (try simp only at this); omega
            obtain ⟨E9, hE9⟩ : ∃ E, E = s.extract (xa + 1) s.size := ⟨_, rfl⟩
            have hEs9 : E9.size ≤ 524288 := by rw [hE9]; first | omega | (rw [ByteArray.size_extract]; omega)
            have hl9 := HOK2.out.len
            try simp only at hl9
            have hle9 := HOK2.out.le
            try simp only at hle9
            have hc9' := HOK2.out.c
            try simp only at hc9'
            have HRE : Hid (R = endL tf z b (xL) (xt ++ [ch]) E9) := Lib.hid (by rw [HR.out]; unfold stepsM; rw [HYN.out, hE9]; (try simp only))
            have HEN := Lib.hid (mend_any w6 p ro B0 pk B pt b z vI vS kv pv Wk T N f KS mf tf (c + 1) HC.out (xL) (xt ++ [ch]) _ _ E9 HS6.out.m HS6.out.tb HSI.out.1 HSI.out.2 HS6.out.k (by omega) hB0pk (by omega) hb2 hzz (by omega) (by omega) hEs9 HOK2.out.sh (by have := HTL.out.t; omega) (by have := HTL.out.t; omega))
            have HE9 := Lib.hid hE9
            clear hE9 hl9
            go_wp2_with fail
            rw [← HE9.out]
            refine HEN.out.mono ?_
            rintro e w9 ⟨s9, t9, c9, rfl, hM9, hK9, hc9, hg9⟩
            rw [← HRE.out] at hM9
            obtain ⟨a9, k9, hs9⟩ := owns_slice hM9.s
            obtain ⟨n9, hn9⟩ : ∃ n, n = R.length := ⟨_, rfl⟩
            obtain rfl : s9 = .slice a9 n9 k9 := by rw [hn9]; exact hs9
            have x9 := hM9.b.cell (i := 0) rfl
            have HM9 := Lib.hid hM9
            have HG9 := Lib.hid hg9
            have HKS9 := Lib.hid hK9
            clear hM9 hg9 hs9 hn9 hK9
            go_wp2
            try go_step3
            go_ret2
            refine ⟨_, c9, rfl, owns_mono HM9.out.s (by have := HB0.out; omega), HKS9.out, by omega, ?_⟩
            exact (HS6.out.g.trans HG9.out (fun k _ h => h.elim .inl (fun h => .inr (h.elim (fun e => by omega) (fun e => by omega))))).mono (fun k hk h => h.elim id (fun e => by have := HB0.out; omega))
      case neg =>
        rw [if_neg hI0] at HGO
        obtain ⟨iN, hiN⟩ : ∃ i : Nat, I = i := ⟨I.toNat, by omega⟩
        subst hiN
        have hiN5 : iN ≤ 524288 := by omega
        have hib := HNB.out iN (by omega)
        have hOK2 := HOK.out.yes (z := z) (i := iN) (by show xa + b ≤ s.size; omega) (by omega) hzz hib
        obtain ⟨P, hP⟩ : ∃ P, P = iN * b := ⟨_, rfl⟩
        have hPi : (iN : Int) * (b : Int) = (P : Int) := by rw [hP, Int.natCast_mul]
        rw [hPi] at HGO hOK2
        rw [← hP] at hib
        simp only at hOK2
        have HOK2 := Lib.hid hOK2
        have d1 : decide ((iN : Int) < 0) = false := decide_eq_false hI0
        have HBL := Lib.hid (Sg.tabBlock_any w4 pt b z vI vS kv pv HS4.out.tb.t)
        have HCP := Lib.hid (mcopy_any w4 pk B xL xt sv tv HS4.out.m (by omega) (by omega) HOK.out.sh (P : Int) (b : Int) (by omega) (by omega) (by omega))
        clear hP hOK2
        go_wp2_with fail
        refine HBL.out.mono ?_
        rintro e w5 ⟨rfl, rfl⟩
        go_wp2_with fail
        refine HBL.out.mono ?_
        rintro e w5 ⟨rfl, rfl⟩
        clear HBL
        go_wp2_with fail
        refine HCP.out.mono ?_
        rintro e w5 ⟨s5, t5, rfl, hM5, hK5⟩
        have HRo5 : Hid (RollW w5 pr s b xa) := Lib.hid (roll_keep HRo4.out hK5 (fun h => h.elim (fun e => by omega) (fun e => by omega)))
        have HS5 : Hid (MkS w w5 ro B0 pk B pt b z vI vS kv pv Wk T N f KS ⟨copyL (xL ++ texts (toS xt)) (P : Int) (b : Int), [], xa + b, (iN : Int) + 1⟩ s5 t5 (c + 1)) := Lib.hid (HS4.out.turn HTL.out hB0pk HRL.out hM5 hK5 (fun k h => .inr (h.elim (fun e => by omega) (fun e => by omega))) (HC.out.kept (c + 1) _ _ HS4.out.k (hK5.mono (fun k _ h => h.elim (fun e => by omega) (fun e => by omega)))))
        clear hM5 hK5 HS4 HRo4 HCP
        have HBL := Lib.hid (Sg.tabBlock_any w5 pt b z vI vS kv pv HS5.out.tb.t)
        go_wp2_with fail
        refine HBL.out.mono ?_
        rintro e w6 ⟨rfl, rfl⟩
        go_wp2_with fail
        refine HBL.out.mono ?_
        rintro e w6 ⟨rfl, rfl⟩
        clear HBL
        by_cases hgo : xa + b + b ≤ s.size
        case pos =>
          have HNX := Lib.hid (skip_ok w5 pr s b xa b HRo5.out (by omega) hb2 (by omega) hgo)
          go_wp2_with fail
          refine HNX.out.mono ?_
          rintro e w6 ⟨rfl, hg6, hr6⟩
          have HS6 : Hid (MkS w w6 ro B0 pk B pt b z vI vS kv pv Wk T N f KS ⟨copyL (xL ++ texts (toS xt)) (P : Int) (b : Int), [], xa + b, (iN : Int) + 1⟩ s5 t5 (c + 1)) := Lib.hid (HS5.out.turn HTL.out hB0pk HRL.out (HS5.out.m.far hg6 (fun m e => by injection e with e; omega)) (Kept.of_grown hg6) (fun k h => .inr (by injection h with h; omega)) (HC.out.kept (c + 1) _ _ HS5.out.k ((Kept.of_grown hg6).mono (fun k _ h => by injection h with h; omega))))
          have HR6 := Lib.hid hr6
          clear hg6 hr6 HNX HS5 HRo5
          go_wp2
          go_roundw
          case rel => exact ⟨⟨copyL (xL ++ texts (toS xt)) (P : Int) (b : Int), [], xa + b, (iN : Int) + 1⟩, s5, t5, c + 1, by go_num, by go_num, HS6.out, HR6.out, hgo, HOK2.out, HGO⟩
          case measure => simp [intOf]; omega
        case neg =>
          have HNX := Lib.hid (skip_no w5 pr s b xa (b : Int) HRo5.out (by omega) (by omega) (by omega) (.inr (by omega)))
          have HYN : Hid (mkRun mf s b ms0 = ⟨copyL (xL ++ texts (toS xt)) (P : Int) (b : Int), [], xa + b, (iN : Int) + 1⟩) := Lib.hid (HGO.out.trans (mkRun_end (by show ¬ xa + b + b ≤ s.size; omega)))
          go_wp2_with fail
          refine HNX.out.mono ?_
          rintro e w6 ⟨rfl, q6, rfl⟩
          have HS6 : Hid (MkS w (w5.drewN q6) ro B0 pk B pt b z vI vS kv pv Wk T N f KS ⟨copyL (xL ++ texts (toS xt)) (P : Int) (b : Int), [], xa + b, (iN : Int) + 1⟩ s5 t5 (c + 1)) := Lib.hid (HS5.out.turn HTL.out hB0pk HRL.out (HS5.out.m.next (below_drewN' (Below.refl _ _) q6)) (Kept.of_below (fun _ => False) (below_drewN' (Below.refl _ _) q6)) (fun _ h => h.elim) (HC.out.kept (c + 1) _ _ HS5.out.k (Kept.of_below _ (below_drewN' (Below.refl _ _) q6))))
          clear HNX HS5 HRo5
          generalize w5.drewN q6 = w6 at HS6 ⊢

          have i9 : ((xa + b : Nat) : Int) ≤ (s.size : Int) := by have := HOK2.out.le; (try simp only at this); omega
          obtain ⟨E9, hE9⟩ : ∃ E, E = s.extract (xa + b) s.size := ⟨_, rfl⟩
          have hEs9 : E9.size ≤ 524288 := by rw [hE9]; first | omega | (rw [ByteArray.size_extract]; omega)
          have hl9 := HOK2.out.len
          try simp only at hl9
          have hle9 := HOK2.out.le
          try simp only at hle9
          have hc9' := HOK2.out.c
          try simp only at hc9'
          have HRE : Hid (R = endL tf z b (copyL (xL ++ texts (toS xt)) (P : Int) (b : Int)) ([]) E9) := Lib.hid (by rw [HR.out]; unfold stepsM; rw [HYN.out, hE9]; (try simp only))
          have HEN := Lib.hid (mend_any w6 p ro B0 pk B pt b z vI vS kv pv Wk T N f KS mf tf (c + 1) HC.out (copyL (xL ++ texts (toS xt)) (P : Int) (b : Int)) ([]) _ _ E9 HS6.out.m HS6.out.tb HSI.out.1 HSI.out.2 HS6.out.k (by omega) hB0pk (by omega) hb2 hzz (by omega) (by omega) hEs9 HOK2.out.sh (by have := HTL.out.t; omega) (by have := HTL.out.t; omega))
          have HE9 := Lib.hid hE9
          clear hE9 hl9
          go_wp2_with fail
          rw [← HE9.out]
          refine HEN.out.mono ?_
          rintro e w9 ⟨s9, t9, c9, rfl, hM9, hK9, hc9, hg9⟩
          rw [← HRE.out] at hM9
          obtain ⟨a9, k9, hs9⟩ := owns_slice hM9.s
          obtain ⟨n9, hn9⟩ : ∃ n, n = R.length := ⟨_, rfl⟩
          obtain rfl : s9 = .slice a9 n9 k9 := by rw [hn9]; exact hs9
          have x9 := hM9.b.cell (i := 0) rfl
          have HM9 := Lib.hid hM9
          have HG9 := Lib.hid hg9
          have HKS9 := Lib.hid hK9
          clear hM9 hg9 hs9 hn9 hK9
          go_wp2
          try go_step3
          go_ret2
          refine ⟨_, c9, rfl, owns_mono HM9.out.s (by have := HB0.out; omega), HKS9.out, by omega, ?_⟩
          exact (HS6.out.g.trans HG9.out (fun k _ h => h.elim .inl (fun h => .inr (h.elim (fun e => by omega) (fun e => by omega))))).mono (fun k hk h => h.elim id (fun e => by have := HB0.out; omega))
end Go.Proofs.YtgkcnocfijckoaaGreat
namespace Go.Proofs.YtgkcnocfijckoaaGreat
open Go.RowKit Sg
set_option linter.unusedVariables false
set_option linter.unusedSimpArgs false
/-- a book that has numbered more -/
def Ext (SN S : Bk) : Prop := ∃ R, S = SN ++ R
theorem Ext.refl (S : Bk) : Ext S S := ⟨[], by simp⟩
theorem Ext.add {SN S : Bk} (h : Ext SN S) (t : List UInt8) : Ext SN (addS S t) := by
  obtain ⟨R, rfl⟩ := h
  unfold addS
  split
  · exact ⟨R, rfl⟩
  · exact ⟨R ++ [t], by rw [List.append_assoc]⟩
theorem Ext.trans {A B C : Bk} (h : Ext A B) (k : Ext B C) : Ext A C := by
  obtain ⟨R, rfl⟩ := h
  obtain ⟨Q, rfl⟩ := k
  exact ⟨R ++ Q, by rw [List.append_assoc]⟩
theorem Ext.mem {A B : Bk} (h : Ext A B) {x : List UInt8} (hx : x ∈ A) : x ∈ B := by
  obtain ⟨R, rfl⟩ := h
  exact List.mem_append_left _ hx
theorem Ext.idx {A B : Bk} (h : Ext A B) {x : List UInt8} (hx : x ∈ A) : B.idxOf x = A.idxOf x := by
  obtain ⟨R, rfl⟩ := h
  rw [List.idxOf_append, if_pos hx]
theorem Ext.no {A B : Bk} (h : Ext A B) {x : List UInt8} (hx : x ∉ A) : A.length ≤ B.idxOf x := by
  obtain ⟨R, rfl⟩ := h
  rw [List.idxOf_append, if_neg hx]; omega
theorem fold_ext (l : Bk) : ∀ S : Bk, Ext S (l.foldl addS S) := by
  induction l with
  | nil => intro S; exact .refl S
  | cons t l ih => intro S; exact ((Ext.refl S).add t).trans (ih _)
theorem eqM_gen {s : ByteArray} {B n k : Nat} {t : ByteArray} {S0 SN S : Bk} {T : List ByteArray} (hT : (SN, T) = marksOf S0 (pieces s B n)) (hE : Ext SN S) (hb : S.length ≤ 100000000) (hk : k < n) : eqM T (numS (S.idxOf (bytesOf t) + 1)) (k : Int) = true ↔ bytesOf (piece s B k) = bytesOf t := by
  have h1 : SN = (marksOf S0 (pieces s B n)).1 := by rw [← hT]
  have h2 : T = (marksOf S0 (pieces s B n)).2 := by rw [← hT]
  have hl : T.length = n := by rw [h2, marksOf_len, pieces_len]
  have hSl : SN.length ≤ S.length := by obtain ⟨R, rfl⟩ := hE; simp
  obtain ⟨mk, hmk⟩ : ∃ mk, T[k]? = some mk := ⟨_, List.getElem?_eq_getElem (by omega)⟩
  have := marks_take S0 (pieces s B n) k (piece s B k) mk (pieces_get s B n k hk) (by rw [← h2]; exact hmk)
  rw [← h1] at this
  obtain ⟨hm, he⟩ := this
  have hg : T.getD (k : Int).toNat ByteArray.empty = mk := by simp only [Int.toNat_natCast]; rw [List.getD_eq_getElem?_getD, hmk]; rfl
  have a4 := List.idxOf_lt_length_of_mem hm
  unfold eqM
  rw [hg, decide_eq_true_eq, he]
  constructor
  · intro h
    have a2 : S.idxOf (bytesOf t) ≤ S.length := List.idxOf_le_length
    have a3 := numS_inj _ _ (by omega) (by omega) h
    by_cases ht : bytesOf t ∈ SN
    · rw [hE.idx ht] at a3
      exact idx_inj hm ht (by omega)
    · have := hE.no ht; omega
  · intro h
    rw [← h, hE.idx hm]
theorem matchGo_congr {T T' : List ByteArray} {MK MK' : ByteArray} (wn : Int) : ∀ (l : List Int) (fd : Int), (∀ i ∈ l, eqM T MK i = eqM T' MK' i) → matchGo T MK wn l fd = matchGo T' MK' wn l fd := by
  intro l
  induction l with
  | nil => intro fd _; rfl
  | cons i l ih =>
    intro fd h
    have h1 := h i (by simp)
    have h2 := fun fd => ih fd (fun j hj => h j (by simp [hj]))
    rw [matchGo, matchGo, h1, h2, h2]
/-- which block a text is -/
def mfI (s : ByteArray) (B : Nat) (t : ByteArray) (wn : Int) : Int := if lawIs s B t (weakI t) wn (cnt s.size B) 0 = true then wn else lawM s B t (weakI t) (cnt s.size B) 0
def tfI (s : ByteArray) (B : Nat) (t : ByteArray) : Bool := decide (0 < s.size % B ∧ bytesOf t = bytesOf (s.extract (s.size - s.size % B) s.size))
theorem match_gen {s : ByteArray} {B n : Nat} {t : ByteArray} {wn : Int} {S0 SN S : Bk} {T : List ByteArray} (hB : 0 < B) (hn : n = cnt s.size B) (hn2 : n ≤ 1000000) (hT : (SN, T) = marksOf S0 (pieces s B n)) (hE : Ext SN S) (hb : S.length ≤ 100000000) :
    (if t.size = B then matchGo T (numS (S.idxOf (bytesOf t) + 1)) wn (findL ((pieces s B n).map weakI) (s.size / B) (weakI t)) (-1) else -1) = mfI s B t wn := by
  obtain ⟨Q, hQ⟩ : ∃ Q, Q = marksOf [] (pieces s B n) := ⟨_, rfl⟩
  obtain ⟨SN', T'⟩ := Q
  have hml := match_law (weak := weakI t) (wanted := wn) (t := t) hB hn hn2 hQ
  unfold mfI
  rw [← hn, ← hml]
  by_cases hs : t.size = B
  · rw [if_pos hs, if_pos hs]
    refine matchGo_congr wn _ _ (fun i hi => ?_)
    obtain ⟨v, hv, rfl, _⟩ := findL_mem.1 hi
    have hvn : v < n := Nat.lt_of_lt_of_le hv (by rw [hn]; exact div_le_cnt s B hB)
    rw [Bool.eq_iff_iff, eqM_gen hT hE hb hvn, eqM_iff hQ hn2 hvn]
  · rw [if_neg hs, if_neg hs]
theorem tail_gen {s : ByteArray} {B n : Nat} {t : ByteArray} {S0 SN S : Bk} {T : List ByteArray} (hB : 0 < B) (hn : n = cnt s.size B) (hn2 : n ≤ 1000000) (hT : (SN, T) = marksOf S0 (pieces s B n)) (hE : Ext SN S) (hb : S.length ≤ 100000000) :
    tailB B s.size ((pieces s B n).map weakI) T t (numS (S.idxOf (bytesOf t) + 1)) = tfI s B t := by
  obtain ⟨Q, hQ⟩ : ∃ Q, Q = marksOf [] (pieces s B n) := ⟨_, rfl⟩
  obtain ⟨SN', T'⟩ := Q
  have htl := tail_law (t := t) hB hn hn2 hQ
  unfold tfI
  rw [← htl]
  unfold tailB
  by_cases hr : 0 < s.size % B
  · obtain ⟨h1, h2, h3⟩ := piece_last s B hB hr
    rw [List.length_map, pieces_len]
    have hk : n - 1 < n := by omega
    have a := eqM_gen (t := t) hT hE hb hk
    have b := eqM_iff (t := t) hQ hn2 hk
    unfold eqM at a b
    simp only [Int.toNat_natCast, decide_eq_true_eq] at a b
    rw [decide_eq_decide, a, b]
  · rw [decide_eq_false (fun h => hr h.1), decide_eq_false (fun h => hr h.1)]
theorem lawM_lt (s : ByteArray) (B : Nat) (hB : 0 < B) (t : ByteArray) (weak : Int) (n : Nat) : lawM s B t weak n 0 < ((s.size / B : Nat) : Int) := by
  unfold lawM
  cases h : (upFrom s B t weak n 0).head? with
  | none => exact Int.lt_of_lt_of_le (show (-1 : Int) < 0 by decide) (Int.natCast_nonneg _)
  | some k =>
    have hk : k ∈ upFrom s B t weak n 0 := List.mem_of_head? h
    obtain ⟨_, ho⟩ := mem_upFrom.1 hk
    unfold okAt at ho
    rw [decide_eq_true_eq] at ho
    have := (piece_sizeB s B k hB).1 ho.1
    simp only [Option.map_some, Option.getD_some]; omega
theorem mfI_lt (s : ByteArray) (B : Nat) (hB : 0 < B) (t : ByteArray) (wn : Int) : mfI s B t wn < ((s.size / B : Nat) : Int) := by
  unfold mfI
  split
  · rename_i h
    unfold lawIs at h
    rw [List.any_eq_true] at h
    obtain ⟨k, hk, hw⟩ := h
    obtain ⟨_, ho⟩ := mem_upFrom.1 hk
    unfold okAt at ho
    rw [decide_eq_true_eq] at ho
    have := (piece_sizeB s B k hB).1 ho.1
    have := of_decide_eq_true hw
    omega
  · exact lawM_lt s B hB t _ _
/-- the book with these texts marked, and perhaps t -/
def BkT (p m : Nat) (SN : Bk) (t : ByteArray) (w : World) : Prop := ∃ S, (S = SN ∨ S = addS SN (bytesOf t)) ∧ BookI w p m S
theorem markC_ideal {w : World} {p m : Nat} {SN : Bk} {t : ByteArray} (h : BkT p m SN t w) (ht : t.size ≤ maxLen) (hn : SN.length ≤ 100000000) :
    MarkC w p (some m) t (numS (SN.idxOf (bytesOf t) + 1)) (BkT p m SN t) (BkT p m SN t) where
  k0 := h
  next := fun a b ⟨S, hS, hB⟩ hb => ⟨S, hS, hB.next hb⟩
  next' := fun a b ⟨S, hS, hB⟩ hb => ⟨S, hS, hB.next hb⟩
  mark := by
    rintro a ⟨S, hS, hB⟩ -
    have hlen : S.length ≤ 1000000000000 := by
      rcases hS with rfl | rfl
      · omega
      · have := addS_len SN (bytesOf t); omega
    have e1 : S.idxOf t.data.toList + 1 = SN.idxOf (bytesOf t) + 1 := by
      rcases hS with rfl | rfl
      · rfl
      · have := idx_self SN (bytesOf t)
        show (addS SN (bytesOf t)).idxOf (bytesOf t) + 1 = _
        rw [this]
    have e2 : addS S t.data.toList = addS SN (bytesOf t) := by
      rcases hS with rfl | rfl
      · rfl
      · show addS (addS SN (bytesOf t)) (bytesOf t) = _
        rw [addS, if_pos ((mem_addS SN (bytesOf t) (bytesOf t)).2 (.inr rfl))]
    refine (mark_as hB ht hlen _ _ e1 e2).mono ?_
    rintro e w' ⟨rfl, h1, h2⟩
    exact ⟨rfl, ⟨_, .inr rfl, h1⟩, h2⟩
/-- the book behind a signature, and some questions -/
def KSI (p m : Nat) (SN : Bk) (c : Nat) (w : World) : Prop := ∃ S, Ext SN S ∧ S.length ≤ SN.length + c ∧ BookI w p m S
theorem bkc_ideal {s : ByteArray} {B n p m B0 : Nat} {S0 SN : Bk} {T : List ByteArray} (hB : 16 ≤ B) (hB2 : B ≤ 1024) (hs : s.size ≤ 524288) (hn : n = cnt s.size B) (hT : (SN, T) = marksOf S0 (pieces s B n)) (hSN : SN.length ≤ 95000000) (hp : p < B0) (hm : m < B0) :
    BkC p (some m) B0 B s.size ((pieces s B n).map weakI) T (s.size / B) (KSI p m SN) (mfI s B) (tfI s B) := by
  have hn2 : n ≤ 524288 := by rw [hn]; exact Nat.le_trans (cnt_le (by omega)) hs
  have hNn : s.size / B ≤ n := by rw [hn]; exact div_le_cnt s B (by omega)
  have hTl : T.length = n := by rw [show T = (marksOf S0 (pieces s B n)).2 by rw [← hT], marksOf_len, pieces_len]
  have turn : ∀ c w' S t, Ext SN S → S.length ≤ SN.length + c → BkT p m S t w' ∨ BkT p m S t w' → KSI p m SN (c + 1) w' := by
    rintro c w' S t hE hl h
    obtain ⟨S', hS', hb⟩ := h.elim id id
    rcases hS' with rfl | rfl
    · exact ⟨S', hE, by omega, hb⟩
    · exact ⟨_, hE.add _, by have := addS_len S (bytesOf t); omega, hb⟩
  refine ⟨?_, ?_, mfI_lt s B (by omega), ?_, ?_, ?_⟩
  · rintro c a w' ⟨S, h1, h2, h3⟩ hk
    exact ⟨S, h1, h2, h3.kept hk (by omega) (by omega)⟩
  · intro j hj; injection hj with hj; omega
  · intro t ht; exact (of_decide_eq_true ht).1
  · rintro c W t wn pt vI vS kv pv f ⟨S, h1, h2, h3⟩ hc ht hTb hS hI
    have hb : S.length ≤ 100000000 := by omega
    refine (tabMatch_any W B0 pt p (some m) B s.size vI vS kv pv _ T (s.size / B) f (weakI t) wn t _ _ _ hTb hS hI (by omega) (by omega) (by omega) hB2 (by intro j hj; injection hj with hj; omega) (markC_ideal (SN := S) ⟨S, .inl rfl, h3⟩ (by unfold maxLen; omega) hb)).mono ?_
    rintro e w' ⟨rfl, h5, h6⟩
    rw [match_gen (by omega) hn (by omega) hT h1 hb]
    exact ⟨rfl, turn c w' S t h1 h2 h5, h6⟩
  · rintro c W t pt vI vS kv pv f ⟨S, h1, h2, h3⟩ hc ht hTb hS hI
    have hb : S.length ≤ 100000000 := by omega
    refine (tabTail_any W B0 pt p (some m) B s.size vI vS kv pv _ T _ t _ _ _ hTb (by rw [List.length_map, pieces_len]; omega) (by rw [List.length_map, pieces_len]; exact hTl) (by omega) hB2 hs ?_ (by omega) (by intro j hj; injection hj with hj; omega) (markC_ideal (SN := S) ⟨S, .inl rfl, h3⟩ (by unfold maxLen; omega) hb)).mono ?_
    · intro h7
      rw [List.length_map, pieces_len]
      have := (piece_last s B (by omega) h7).2.1
      omega
    · rintro e w' ⟨rfl, h5, h6⟩
      rw [tail_gen (by omega) hn (by omega) hT h1 hb]
      exact ⟨rfl, turn c w' S t h1 h2 h5, h6⟩
end Go.Proofs.YtgkcnocfijckoaaGreat
namespace Go.Proofs.YtgkcnocfijckoaaGreat
open Go.RowKit Sg
set_option linter.unusedVariables false
set_option linter.unusedSimpArgs false
def ownL (n : Nat) : List St := if n = 0 then [] else [⟨0, (n : Nat), ByteArray.empty⟩]
theorem copy_own (k n : Nat) (hk : k ≤ 1000000) (hn : 0 < n) : copyL (ownL k) (k : Int) (n : Int) = ownL (k + n) := by
  unfold ownL
  by_cases h : k = 0
  · subst h
    rw [if_pos rfl, if_neg (by omega), copyL_nil]
    simp
  · rw [if_neg h, if_neg (by omega), show ([⟨0, (k : Nat), ByteArray.empty⟩] : List St) = [] ++ [⟨0, (k : Nat), ByteArray.empty⟩] from rfl, copyL_snoc, if_pos ⟨rfl, by show w64 (0 + (k : Int)) = (k : Int); rw [Int.zero_add]; exact w64_in (WalkArith.wf_i64 (by omega))⟩]
    simp
theorem toS_nil : toS [] = ByteArray.empty := rfl
theorem mf_own (s : ByteArray) (B k : Nat) (hB : 0 < B) (hk : k * B + B ≤ s.size) : mfI s B (s.extract (k * B) (k * B + B)) (k : Int) = (k : Int) := by
  have hp : s.extract (k * B) (k * B + B) = piece s B k := by unfold piece; rw [Nat.add_mul, Nat.one_mul]
  have hkn : k < s.size / B := by rw [show (k < s.size / B ↔ k + 1 ≤ s.size / B) from Iff.rfl, Nat.le_div_iff_mul_le hB, Nat.add_mul, Nat.one_mul]; exact hk
  have hmem : k ∈ upFrom s B (piece s B k) (weakI (piece s B k)) (cnt s.size B) 0 := by
    refine mem_upFrom.2 ⟨Nat.lt_of_lt_of_le hkn (div_le_cnt s B hB), ?_⟩
    unfold okAt
    rw [decide_eq_true_eq]
    exact ⟨(piece_sizeB s B k hB).2 hkn, rfl, rfl⟩
  rw [hp]
  unfold mfI
  rw [if_pos]
  unfold lawIs
  rw [List.any_eq_true]
  exact ⟨k, hmem, decide_eq_true rfl⟩
theorem run_own (s : ByteArray) (B : Nat) (hB : 0 < B) (hs : s.size ≤ 524288) : ∀ j : Nat, j * B ≤ s.size → mkRun (mfI s B) s B ms0 = mkRun (mfI s B) s B ⟨ownL (j * B), [], j * B, j⟩ := by
  intro j
  induction j with
  | zero => intro _; simp [ownL, ms0]
  | succ j ih =>
    intro hj
    rw [Nat.add_mul, Nat.one_mul] at hj
    rw [ih (by omega), mkRun_go hB (by show j * B + B ≤ s.size; omega)]
    unfold mkStep
    simp only
    rw [mf_own s B j hB hj, if_neg (by omega)]
    congr 1
    rw [toS_nil, texts_nil, List.append_nil, ← Int.natCast_mul, copy_own _ _ (by omega) hB, Nat.add_mul, Nat.one_mul]
    simp
theorem steps_own (s : ByteArray) (B : Nat) (hB : 0 < B) (hs : s.size ≤ 524288) : stepsM (mfI s B) (tfI s B) s s.size B = ownL s.size := by
  have hd := Nat.div_add_mod s.size B
  have hm := Nat.mod_lt s.size hB
  have hNB : s.size / B * B = s.size - s.size % B := by rw [Nat.mul_comm]; omega
  have hr := run_own s B hB hs (s.size / B) (by omega)
  rw [mkRun_end (x := ⟨ownL (s.size / B * B), [], s.size / B * B, (s.size / B : Nat)⟩) (by show ¬ s.size / B * B + B ≤ s.size; omega)] at hr
  unfold stepsM
  rw [hr]
  simp only
  rw [hNB]
  obtain ⟨r, hrr⟩ : ∃ r, r = s.extract (s.size - s.size % B) s.size := ⟨_, rfl⟩
  have hrs : r.size = s.size % B := by rw [hrr, ByteArray.size_extract]; have := Nat.mod_le s.size B; omega
  rw [← hrr]
  unfold endL
  rw [hrs, Nat.sub_self, show r.extract 0 (s.size % B) = r by rw [← hrs]; exact ByteArray.extract_zero_size]
  unfold tfI
  rw [← hrr]
  have hle := Nat.mod_le s.size B
  by_cases h0 : 0 < s.size % B
  · rw [if_pos ⟨Nat.le_refl _, decide_eq_true ⟨h0, rfl⟩⟩, List.take_zero, List.append_nil, toS_nil, texts_nil, List.append_nil, copy_own _ _ (by omega) h0]
    congr 1; omega
  · rw [if_neg (fun h => h0 (of_decide_eq_true h.2).1)]
    have hr0 : r.data.toList = [] := by
      apply List.eq_nil_of_length_eq_zero
      rw [Array.length_toList]
      show r.size = 0
      omega
    rw [hr0, List.append_nil, toS_nil, texts_nil, List.append_nil]
    congr 1; omega
end Go.Proofs.YtgkcnocfijckoaaGreat
