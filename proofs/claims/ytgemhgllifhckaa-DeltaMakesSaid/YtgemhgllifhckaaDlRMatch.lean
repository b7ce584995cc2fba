/- The document's Match and Tail, by what its book says of a text's mark. Conditions: as named in each theorem. -/
import Derived.Test.YtgemhgllifhckaaDlOf
import Derived.Test.YtgemhgllifhckaaSgTabRef
import Derived.Test.YtgemhgllifhckaaDlRights
namespace Go.Proofs.Ytgemhgllifhckaa
open Go.RowKit Sg
set_option linter.unusedVariables false
set_option linter.unusedSimpArgs false

/-- the wanted place, or the first one -/
def matchF (f : Int → Bool) (wn : Int) (l : List Int) : Int := if wn ∈ l.filter f then wn else ((l.filter f).head?).getD (-1)
theorem matchF_go {T : List ByteArray} {MK : ByteArray} {wn : Int} {l : List Int} (h : ∀ x ∈ l, 0 ≤ x) : matchGo T MK wn l (-1) = matchF (eqM T MK) wn l := by
  rw [matchGo_eq T MK wn l (-1) h]
  unfold matchF
  by_cases hw : wn ∈ l.filter (eqM T MK)
  · rw [if_pos hw, if_pos hw]
  · rw [if_neg hw, if_neg hw, if_pos (show (-1 : Int) < 0 by decide)]
theorem matchF_congr {f g : Int → Bool} {wn : Int} {l : List Int} (h : ∀ x ∈ l, f x = g x) : matchF f wn l = matchF g wn l := by
  unfold matchF; rw [List.filter_congr h]
theorem findL_nn {W : List Int} {N : Nat} {weak : Int} : ∀ x ∈ findL W N weak, 0 ≤ x := fun x hx => by
  obtain ⟨v, _, rfl, _⟩ := findL_mem.1 hx
  omega
/-- what is found from a place on -/
def fstF (f : Int → Bool) (l : List Int) (j : Nat) : Int := (((l.drop j).filter f).head?).getD (-1)
theorem fstF_end (f : Int → Bool) (l : List Int) : fstF f l l.length = -1 := by unfold fstF; rw [List.drop_length]; rfl
theorem ldrop_at {l : List Int} {j : Nat} {x : Int} (h : l[j]? = some x) : l.drop j = x :: l.drop (j + 1) := by
  obtain ⟨hj, rfl⟩ := List.getElem?_eq_some_iff.1 h
  exact List.drop_eq_getElem_cons hj
theorem fstF_yes {f : Int → Bool} {l : List Int} {j : Nat} {x : Int} (h : l[j]? = some x) (hf : f x = true) : fstF f l j = x := by
  unfold fstF; rw [ldrop_at h, List.filter_cons_of_pos hf]; rfl
theorem fstF_no {f : Int → Bool} {l : List Int} {j : Nat} {x : Int} (h : l[j]? = some x) (hf : f x = false) : fstF f l j = fstF f l (j + 1) := by
  unfold fstF; rw [ldrop_at h, List.filter_cons_of_neg (by rw [hf]; decide)]
theorem inF_step {f : Int → Bool} {l : List Int} {j : Nat} {x wn : Int} (h : l[j]? = some x) (h1 : ¬ wn ∈ (l.drop (j + 1)).filter f) (h2 : f x = true → x ≠ wn) : ¬ wn ∈ (l.drop j).filter f := by
  rw [ldrop_at h]
  cases hf : f x
  · rw [List.filter_cons_of_neg (by rw [hf]; decide)]; exact h1
  · rw [List.filter_cons_of_pos hf, List.mem_cons]
    rintro (e | e)
    · exact h2 hf e.symm
    · exact h1 e
theorem matchF_hit {f : Int → Bool} {l : List Int} {j : Nat} {wn : Int} (h : l[j]? = some wn) (hf : f wn = true) : matchF f wn l = wn := by
  unfold matchF; rw [if_pos (List.mem_filter.2 ⟨List.mem_of_getElem? h, hf⟩)]
theorem matchF_end {f : Int → Bool} {l : List Int} {wn : Int} (h : ¬ wn ∈ (l.drop 0).filter f) : matchF f wn l = fstF f l 0 := by
  rw [List.drop_zero] at h
  unfold matchF fstF; rw [if_neg h, List.drop_zero]

/-- the document's book at q; F: the blocks that are its own -/
structure RBk (q : Nat) (T : List ByteArray) (KS : Nat → (Nat → Prop) → World → Prop) (em : ByteArray → Int → Bool) : Prop where
  lt : ∀ c F W, KS c F W → ∀ k, F k → k < W.heap.size
  kept : ∀ c F G W W', KS c F W → Kept G W W' → (∀ k, F k → ¬ G k) → KS c F W'
  mark : ∀ c F W t, KS c F W → c ≤ 10000000 → t.size ≤ 524288 → Calls Try.prog 42 #[.pointer (some ⟨q, 0, none⟩), .string t] W fun e w' => ∃ MK F', e = .returned (.string MK) ∧ (∀ i : Nat, i < T.length → eqM T MK i = em t i) ∧ KS (c + 1) F' w' ∧ Kept F W w' ∧ (∀ k, F' k → F k ∨ W.heap.size ≤ k)
theorem RBk.drew {q : Nat} {T : List ByteArray} {KS : Nat → (Nat → Prop) → World → Prop} {em : ByteArray → Int → Bool} (h : RBk q T KS em) {c : Nat} {F : Nat → Prop} {W : World} (hK : KS c F W) : KS c F W.drew :=
  h.kept c F (fun _ => False) W _ hK ⟨rfl, rfl, rfl, Nat.le_refl _, fun _ _ _ => rfl⟩ (fun _ _ h => h)
theorem RBk.next {q : Nat} {T : List ByteArray} {KS : Nat → (Nat → Prop) → World → Prop} {em : ByteArray → Int → Bool} (h : RBk q T KS em) {c : Nat} {F : Nat → Prop} {W W' : World} (hK : KS c F W) (hb : Below W.heap.size W W') : KS c F W' :=
  h.kept c F (fun _ => False) W W' hK (Kept.of_below _ hb) (fun _ _ h => h)
/-- the book behind some questions -/
def AskS (KS : Nat → (Nat → Prop) → World → Prop) (c d : Nat) (F : Nat → Prop) (B : Nat) (w w' : World) : Prop :=
  ∃ c' F', c' ≤ c + d ∧ KS c' F' w' ∧ Kept F w w' ∧ (∀ k, F' k → F k ∨ B ≤ k)
theorem Rs.keptF {α : Type} {T : Nat → Prop} {w w' : World} {ao : Option Addr} {len cap size : Nat} {rs : List α} {f : α → List Value} (h : Rs w ao len cap size rs f) (hk : Kept T w w') (hb : ∀ b off, ao = some ⟨b, off, none⟩ → ¬ T b) : Rs w' ao len cap size rs f := by
  obtain ⟨h1, h2, h3, h4⟩ := h
  refine ⟨h1, h2, h3, fun h0 => ?_⟩
  obtain ⟨b, off, e, hbw, hc⟩ := h4 h0
  exact ⟨b, off, e, Nat.lt_of_lt_of_le hbw hk.size, fun i hi j v hj => (hk.cell hbw (hb b off e)).trans (hc i hi j v hj)⟩

theorem Kept.drew' {T : Nat → Prop} {w w' : World} (h : Kept T w w') : Kept T w w'.drew := ⟨h.os, h.tape, h.output, h.size, h.block⟩

set_option maxRecDepth 100000 in
set_option maxHeartbeats 4000000 in
theorem refMatch_any (w : World) (q b z N : Nat) (ao : Option Addr) (n cap : Nat) (bo : Option Addr) (m cap2 : Nat) (Wk : List Int) (T : List ByteArray) (weak wn : Int) (s : ByteArray) (KS : Nat → (Nat → Prop) → World → Prop) (em : ByteArray → Int → Bool) (c : Nat) (F : Nat → Prop)
    (hC : RBk q T KS em) (hK : KS c F w) (hc : c ≤ 8000000) (hW : Rs w ao n cap 1 Wk (fun x => [.int .i64 x])) (hT : Rs w bo m cap2 1 T (fun x => [.string x])) (hTF : 0 < m → ∀ k off, bo = some ⟨k, off, none⟩ → ¬ F k)
    (hn : n ≤ 1000000) (hb : 16 ≤ b) (hb2 : b ≤ 1024) (hz : z ≤ 524288) (hN : z / b = N) (hNn : N ≤ n) (hNm : N ≤ m) (hN2 : N ≤ 1000) (hs : s.size ≤ 524288) :
    Calls Try.prog 65 #[.pointer (some ⟨q, 0, none⟩), .agg #[.int .i64 b, .int .i64 z, .slice ao n cap, .slice bo m cap2], .int .i64 weak, .string s, .int .i64 wn] w fun e w' =>
      e = .returned (.int .i64 (if s.size = b then matchF (em s) wn (findL Wk N weak) else -1)) ∧ AskS KS c 1000 F w.heap.size w w' := by
  obtain ⟨V1, hV1⟩ : ∃ V, V = w.alloc (Obj.cells #[.int .i64 b, .int .i64 z, .slice ao n cap, .slice bo m cap2] 52) := ⟨_, rfl⟩
  obtain ⟨p1, hp1⟩ : ∃ p, p = w.heap.size := ⟨_, rfl⟩
  have hG1 : Blk V1 p1 [.int .i64 b, .int .i64 z, .slice ao n cap, .slice bo m cap2] 52 := by rw [hV1, hp1]; exact Blk.new _ _ _
  have hB1 : Below w.heap.size w V1 := by rw [hV1]; exact below_alloc _ _
  have HK1 := Lib.hid (hC.next hK hB1)
  have hFw := hC.lt c F w hK
  obtain ⟨R, hR⟩ : ∃ R, R = (if s.size = b then matchF (em s) wn (findL Wk N weak) else -1) := ⟨_, rfl⟩
  rw [← hR]
  have HR := Lib.hid hR
  have HFD := Lib.hid (refFind_any V1 b z N ao n cap (.slice bo m cap2) ⟨_, _, _, rfl⟩ Wk weak (hW.next hB1) hn hb hb2 hz hN hNn)
  have c0 := hG1.cell (i := 0) rfl
  have c1 := hG1.cell (i := 1) rfl
  have c2 := hG1.cell (i := 2) rfl
  have c3 := hG1.cell (i := 3) rfl
  have HT := Lib.hid (And.intro (hT.next hB1) hTF)
  have HG := Lib.hid (And.intro hG1 hB1)
  have HC := Lib.hid hC
  have HF := Lib.hid hFw
  have HV1 := Lib.hid hV1
  have HP1 := Lib.hid hp1
  have HKK := Lib.hid hK
  clear hV1 hp1 hG1 hB1 hR hC hK hFw hW hT hTF hN
  go_enter Try.func65, Try.ntmps65
  go_upto_region 1 with fail
  rw [← HP1.out, ← HV1.out]
  by_cases hsb : s.size = b
  case neg =>
    have d1 : ((s.size : Int) != (b : Int)) = true := by simp; omega
    have hRm : R = -1 := by rw [HR.out, if_neg hsb]
    subst hRm
    go_wp2
    go_ret
    exact ⟨rfl, c, F, by omega, HK1.out, Kept.of_below _ HG.out.2, fun k hk => .inl hk⟩
  case pos =>
    have d1 : ((s.size : Int) != (b : Int)) = false := by simp; omega
    have hRm : R = matchF (em s) wn (findL Wk N weak) := by rw [HR.out, if_pos hsb]
    have HRM := Lib.hid hRm
    clear hRm
    go_wp2_with fail
    refine HFD.out.mono ?_
    rintro e w2 ⟨v, rfl, hI, hb2'⟩
    obtain ⟨L, hL⟩ : ∃ L, L = findL Wk N weak := ⟨_, rfl⟩
    have hLl := findL_len Wk N weak
    have hLm : ∀ x ∈ L, ∃ i : Nat, i < N ∧ x = (i : Int) := fun x hx => by
      rw [hL] at hx
      obtain ⟨i, h1, h2, _⟩ := findL_mem.1 hx
      exact ⟨i, h1, h2⟩
    rw [← hL] at hI hLl HRM
    obtain ⟨lm, hlm⟩ : ∃ lm, lm = L.length := ⟨_, rfl⟩
    unfold RowI at hI
    rw [← hlm] at hI hLl
    obtain ⟨a1, c1', rfl⟩ := owns_slice hI
    have hK2 := HC.out.next HK1.out hb2'
    have hG2 := HG.out.1.below hb2' HG.out.1.lt
    have hT2 := HT.out.1.next hb2'
    have hB2 := bl_nx HG.out.2 hb2'
    have hcl : ∀ (j : Nat) (x : Int), L[j]? = some x → ∃ ga, a1 = some ⟨ga, 0, none⟩ ∧ w.heap.size < ga ∧ ga < w2.heap.size ∧ w2.cell? ⟨ga, j, none⟩ = some (.int .i64 x) := fun j x hx => by
      have hj : j < lm := by rw [hlm]; exact (List.getElem?_eq_some_iff.1 hx).1
      rcases hI.2 with ⟨h0, h1⟩ | ⟨g, cap', cur, h3, hg, hh, _⟩
      · omega
      · injection h3 with h3 _ _
        subst h3
        refine ⟨g, rfl, ?_, (Array.getElem?_eq_some_iff.1 hh).1, ?_⟩
        · have := HG.out.1.lt
          have := HP1.out
          omega
        · have := World.ownsRow.cells hI (g := g) rfl j (.int .i64 x) (by rw [List.getElem?_map, hx]; rfl)
          rw [add_off', Nat.zero_add] at this
          exact this
    have HCL := Lib.hid hcl
    have HLM := Lib.hid hLm
    have H2 := Lib.hid (And.intro hK2 (And.intro hG2 (And.intro hT2 hB2)))
    have HLL := Lib.hid hlm
    have w0 : IntKind.i64.wrap ((lm : Int) - 1) = (lm : Int) - 1 := IntWalk.i64_in _ (by omega)
    have hps : p1 < w2.heap.size := hG2.lt
    have HPS := Lib.hid hps
    clear hL hLm hcl hK2 hG2 hT2 hB2 hI hlm hb2' HFD hps c0 c1 c2 c3
    go_wp2_with fail
    go_loopw [12, 13] (fun fv iv wr => ∃ (j c' : Nat) (F' : Nat → Prop), iv = .int .i64 ((j : Int) - 1) ∧ j ≤ lm ∧ fv = .int .i64 (fstF (em s) L j) ∧ ¬ wn ∈ (L.drop j).filter (em s) ∧ c' ≤ c + (lm - j) ∧ KS c' F' wr ∧ Kept F w2 wr ∧ (∀ k, F' k → F k ∨ w2.heap.size ≤ k)) (fun _ iv _ => (intOf iv + 1).toNat)
    case atStart => exact ⟨lm, c, F, rfl, by omega, by rw [HLL.out, fstF_end], by rw [HLL.out, List.drop_length]; exact List.not_mem_nil, by omega, H2.out.1, Kept.refl _ _, fun k hk => .inl hk⟩
    case round =>
      obtain ⟨j, c', F', rfl, hj, rfl, hwn, hc', hK', hk', hF'⟩ := hrel
      have HKR := Lib.hid (And.intro hK' (And.intro hk' hF'))
      have HWN := Lib.hid hwn
      clear hwn hF'
      by_cases hj0 : j = 0
      case pos =>
        subst hj0
        have hRf : R = fstF (em s) L 0 := by rw [HRM.out]; exact matchF_end HWN.out
        have HF2 : Hid (AskS KS c 1000 F w.heap.size w wr) := Lib.hid ⟨c', F', by omega, hK', (Kept.of_below F H2.out.2.2.2).trans hk' (fun _ _ h => h), fun k hk => (HKR.out.2.2 k hk).imp id (fun h => Nat.le_trans H2.out.2.2.2.size h)⟩
        rw [← hRf]
        clear hK' hk' hRf
        go_wp2
        go_ret
        exact ⟨rfl, HF2.out⟩
      case neg =>
        obtain ⟨jj, rfl⟩ : ∃ jj, j = jj + 1 := ⟨j - 1, by omega⟩
        have hjl : jj < L.length := by rw [← HLL.out]; omega
        obtain ⟨i, hi, hx⟩ := HLM.out _ (List.getElem_mem hjl)
        have hLj : L[jj]? = some (i : Int) := by rw [List.getElem?_eq_getElem hjl, hx]
        obtain ⟨ga, rfl, hg1, hg2, cl⟩ := HCL.out jj _ hLj
        obtain ⟨bb, off, t, rfl, hTi, ct⟩ := H2.out.2.2.1.one (k := i) (by omega)
        have hFga : ¬ F ga := fun h => by have := HF.out ga h; omega
        have hFp : ¬ F p1 := fun h => by have := HF.out p1 h; have := HP1.out; omega
        have hFb : ¬ F bb := HT.out.2 (by omega) bb off rfl
        have hbb : bb < w2.heap.size := World.block_lt_of_cell? w2 _ ct
        have f3 : wr.cell? ⟨p1, 3, none⟩ = some (.slice (some ⟨bb, off, none⟩) m cap2) := (hk'.cell HPS.out hFp).trans (H2.out.2.1.cell (i := 3) rfl)
        have fl : wr.cell? ⟨ga, jj, none⟩ = some (.int .i64 i) := (hk'.cell hg2 hFga).trans cl
        have ft : wr.cell? ⟨bb, off + i, none⟩ = some (.string t) := (hk'.cell hbb hFb).trans ct
        have hKD := HC.out.drew hK'
        have hF'2 : ∀ k, F' k → F k ∨ w2.heap.size ≤ k := HKR.out.2.2
        have n1 : ¬ F' p1 := fun h => by rcases hF'2 p1 h with h | h; exact hFp h; have := HPS.out; omega
        have n2 : ¬ F' ga := fun h => by rcases hF'2 ga h with h | h; exact hFga h; omega
        have n3 : ¬ F' bb := fun h => by rcases hF'2 bb h with h | h; exact hFb h; omega
        have hwz : w2.heap.size ≤ wr.heap.size := hk'.size
        have HCELL : Hid (∀ w4, Kept F' wr.drew w4 → w4.cell? ⟨p1, 3, none⟩ = some (.slice (some ⟨bb, off, none⟩) m cap2) ∧ w4.cell? ⟨ga, jj, none⟩ = some (.int .i64 i) ∧ w4.cell? ⟨bb, off + i, none⟩ = some (.string t)) := Lib.hid (fun w4 hk =>
          ⟨(hk.cell (Nat.lt_of_lt_of_le HPS.out hwz) n1).trans f3, (hk.cell (Nat.lt_of_lt_of_le hg2 hwz) n2).trans fl, (hk.cell (Nat.lt_of_lt_of_le hbb hwz) n3).trans ft⟩)
        obtain ⟨E, hE⟩ : ∃ E, E = em s (i : Int) := ⟨_, rfl⟩
        have hEE : em s (i : Int) = E := hE.symm
        have HTI : Hid (∀ MK : ByteArray, eqM T MK (i : Int) = em s (i : Int) → (t.toList == MK.toList) = E) := Lib.hid (fun MK h => by
          rw [hE, ← h]
          unfold eqM
          rw [Int.toNat_natCast, List.getD_eq_getElem?_getD, hTi, Option.getD_some]
          by_cases hq : t.data.toList = MK.data.toList
          · rw [beqS_t hq, decide_eq_true hq]
          · rw [beqS_f hq, decide_eq_false hq])
        have HM : Hid (∀ P : Ending → World → Prop, (∀ MK w4 F2, (t.toList == MK.toList) = E → KS (c' + 1) F2 w4 → Kept F' wr.drew w4 → (∀ k, F2 k → F k ∨ w2.heap.size ≤ k) → P (.returned (.string MK)) w4) → Calls Try.prog 42 #[.pointer (some ⟨q, 0, none⟩), .string s] wr.drew P) := Lib.hid (fun P hP => by
          refine (HC.out.mark c' F' _ s hKD (by omega) hs).mono ?_
          rintro e w4 ⟨MK, F2, rfl, hem, hK4, hk4, hF4⟩
          refine hP MK w4 F2 (HTI.out MK (hem i (by have := H2.out.2.2.1.2.2.1; omega))) hK4 hk4 (fun k hk => ?_)
          rcases hF4 k hk with h | h
          · exact hF'2 k h
          · exact .inr (Nat.le_trans hwz h))
        have i1 : (0 : Int) ≤ (jj : Int) := by omega
        have i2 : (jj : Int) < (lm : Int) := by omega
        have i3 : (0 : Int) ≤ (i : Int) := by omega
        have i4 : (i : Int) < (m : Int) := by omega
        have ej : ((jj + 1 : Nat) : Int) - 1 = (jj : Int) := by omega
        have wj : IntKind.i64.wrap ((jj : Int) - 1) = (jj : Int) - 1 := IntWalk.i64_in _ (by omega)
        rw [ej]
        have HX := Lib.hid (And.intro hLj hk')
        have HH := Lib.hid (And.intro hg2 (And.intro hbb hwz))
        clear hjl hx hLj cl ct hTi hFga hFp hFb hbb hKD hF'2 n1 n2 n3 hwz hK' hk' hE
        have HEE := Lib.hid hEE
        have HNX : Hid (∀ w4 F2, Kept F' wr.drew w4 → (∀ k, F2 k → F k ∨ w2.heap.size ≤ k) → KS (c' + 1) F2 w4 → Kept F w2 w4 ∧ AskS KS c 1000 F w.heap.size w w4) := Lib.hid (fun w4 F2 hk hF hKs => by
          have hkk : Kept F w2 w4 := (HX.out.2.drew').trans hk (fun k hk2 h => (HKR.out.2.2 k h).elim id (fun h2 => by omega))
          exact ⟨hkk, c' + 1, F2, by omega, hKs, (Kept.of_below F H2.out.2.2.2).trans hkk (fun _ _ h => h), fun k hk => (hF k hk).imp id (fun h => Nat.le_trans H2.out.2.2.2.size h)⟩)
        clear hEE
        cases E
        case false =>
          go_upto_region 8 with fail
          go_region_held3 (fun w' => w'.cell? ⟨p1, 3, none⟩ = some (.slice (some ⟨bb, off, none⟩) m cap2) ∧ w'.cell? ⟨ga, jj, none⟩ = some (.int .i64 i) ∧ w'.cell? ⟨bb, off + i, none⟩ = some (.string t))
            (first | exact ⟨f3, fl, ft⟩ | exact d3)
            ((go_at_call 42; refine HM.out _ ?_; intro MK w4 F2 hcmp hK4 hk4 hF4; have d3 := HCELL.out w4 hk4))
          all_goals
            have HF4 := Lib.hid (And.intro (HNX.out w4 F2 hk4 hF4 hK4).1 (And.intro hK4 hF4))
            clear d3 f3 fl ft hk4 hK4 hF4 HM
            go_wp2
            go_roundw
            case rel => exact ⟨jj, c' + 1, F2, rfl, by omega, by rw [fstF_no HX.out.1 HEE.out], inF_step HX.out.1 HWN.out (fun h => by rw [HEE.out] at h; cases h), by omega, HF4.out.2.1, HF4.out.1, HF4.out.2.2⟩
            case measure => (simp [intOf] <;> omega)
        case true =>
          by_cases hiw : (i : Int) = wn
          case pos =>
            have e1 : ((i : Int) == wn) = true := by simpa using hiw
            have HIW := Lib.hid hiw
            clear hiw
            go_upto_region 8 with fail
            go_region_held3 (fun w' => w'.cell? ⟨p1, 3, none⟩ = some (.slice (some ⟨bb, off, none⟩) m cap2) ∧ w'.cell? ⟨ga, jj, none⟩ = some (.int .i64 i) ∧ w'.cell? ⟨bb, off + i, none⟩ = some (.string t))
              (first | exact ⟨f3, fl, ft⟩ | exact d3)
              ((go_at_call 42; refine HM.out _ ?_; intro MK w4 F2 hcmp hK4 hk4 hF4; have d3 := HCELL.out w4 hk4))
            all_goals
              have HF4 := Lib.hid (HNX.out w4 F2 hk4 hF4 hK4).2
              have fl4 := d3.2.1
              clear d3 f3 fl ft hk4 hK4 hF4 HM
              rw [HIW.out] at fl4 ⊢
              go_wp2
              go_ret
              refine ⟨?_, HF4.out⟩
              rw [HRM.out, matchF_hit (j := jj) (by rw [← HIW.out]; exact HX.out.1) (by rw [← HIW.out]; exact HEE.out)]
              rfl
          case neg =>
            have e1 : ((i : Int) == wn) = false := by simpa using hiw
            have HIW := Lib.hid hiw
            clear hiw
            go_upto_region 8 with fail
            go_region_held3 (fun w' => w'.cell? ⟨p1, 3, none⟩ = some (.slice (some ⟨bb, off, none⟩) m cap2) ∧ w'.cell? ⟨ga, jj, none⟩ = some (.int .i64 i) ∧ w'.cell? ⟨bb, off + i, none⟩ = some (.string t))
              (first | exact ⟨f3, fl, ft⟩ | exact d3)
              ((go_at_call 42; refine HM.out _ ?_; intro MK w4 F2 hcmp hK4 hk4 hF4; have d3 := HCELL.out w4 hk4))
            all_goals
              have HF4 := Lib.hid (And.intro (HNX.out w4 F2 hk4 hF4 hK4).1 (And.intro hK4 hF4))
              have fl4 := d3.2.1
              clear d3 f3 fl ft hk4 hK4 hF4 HM
              go_wp2
              go_roundw
              case rel => exact ⟨jj, c' + 1, F2, rfl, by omega, by rw [fstF_yes HX.out.1 HEE.out], inF_step HX.out.1 HWN.out (fun _ => HIW.out), by omega, HF4.out.2.1, HF4.out.1, HF4.out.2.2⟩
              case measure => (simp [intOf] <;> omega)
end Go.Proofs.Ytgemhgllifhckaa
