/- Deepest. Conditions: as named in each theorem. -/
import Derived.Test.YtoibbeiieelccaaKeepAwake
import Derived.Test.YtoibbeiieelccaaKeepRoad2
import Derived.Maps.RangeWalk
namespace Go.Proofs.Ytoibbeiieelccaa
open Go.RowKit Go.Maps
set_option linter.unusedVariables false

/-- how many generations lie on a road -/
def rl (gs : List G) (g : Int) : Int := ((roadL gs g).length : Nat)
def Deep (gs : List G) (M : Int) : Prop := (∀ g ∈ gl gs, rl gs g ≤ M) ∧ (M = 0 ∨ ∃ g ∈ gl gs, M = rl gs g)
theorem rl_nn (gs : List G) (g : Int) : 0 ≤ rl gs g := by unfold rl; omega
theorem Deep.one {gs : List G} {M M' : Int} (h : Deep gs M) (h' : Deep gs M') : M = M' := by
  have a : M ≤ M' := by
    rcases h.2 with e | ⟨g, hg, e⟩
    · rcases h'.2 with e' | ⟨g', hg', e'⟩
      · omega
      · have := rl_nn gs g'; omega
    · have := h'.1 g hg; omega
  have b : M' ≤ M := by
    rcases h'.2 with e | ⟨g, hg, e⟩
    · rcases h.2 with e' | ⟨g', hg', e'⟩
      · omega
      · have := rl_nn gs g'; omega
    · have := h.1 g hg; omega
  omega
theorem rl_bd {gs : List G} (h : Ok gs) {g : Int} (hg : g ∈ gl gs) : 1 ≤ rl gs g ∧ rl gs g ≤ gs.length := by
  unfold rl
  have h1 := roadL_len h hg
  have h2 := idx_lt hg
  have h3 : 0 < (roadL gs g).length := by
    rw [roadL_eq h hg]
    split <;> simp
  omega
theorem idx_k {gs : List G} (h : Ok gs) {k : Nat} (hk : k < gs.length) : gs[k].gen ∈ gl gs ∧ idx gs gs[k].gen = k := by
  have hl : k < (gl gs).length := by rw [gl_len]; exact hk
  have hin : gs[k].gen ∈ gl gs := by rw [← gl_get hk hl]; exact List.getElem_mem hl
  have h1 := (ok_up h).at hl
  rw [gl_get hk hl] at h1
  have h2 := atZ_in hin
  rw [show gs.map G.gen = gl gs from rfl, h1] at h2
  exact ⟨hin, by omega⟩
theorem rl_self {gs : List G} (h : Ok gs) {k : Nat} (hk : k < gs.length) (he : gs[k].basis = gs[k].gen) : rl gs gs[k].gen = 1 := by
  obtain ⟨hin, hi⟩ := idx_k h hk
  unfold rl
  rw [roadL_eq h hin, if_pos (by unfold basisOf; rw [hi, getD_g hk]; exact he)]
  rfl
theorem rl_next {gs : List G} (h : Ok gs) {k : Nat} (hk : k < gs.length) (he : gs[k].basis ≠ gs[k].gen) : rl gs gs[k].gen = rl gs gs[k].basis + 1 ∧ gs[k].basis ∈ gl (gs.take k) := by
  obtain ⟨hin, hi⟩ := idx_k h hk
  have hb : basisOf gs gs[k].gen = gs[k].basis := by unfold basisOf; rw [hi, getD_g hk]
  have h2 := basis_step h hin (by rw [hb]; exact he)
  rw [hb, hi] at h2
  refine ⟨?_, h2⟩
  unfold rl
  rw [roadL_eq h hin, if_neg (by rw [hb]; exact he), hb]
  simp
theorem gl_succ {gs : List G} {k : Nat} (hk : k < gs.length) : gl (gs.take (k + 1)) = gl (gs.take k) ++ [gs[k].gen] := by
  unfold gl; rw [List.take_succ_eq_append_getElem hk, List.map_append]; rfl

/-- the map of depths, k generations in -/
def DepD (gs : List G) (k : Nat) (D : DataW Unit) : Prop := Maps.Tidy D ∧ ∀ n : Int, ∀ z, D.atKey (.int .i64 n) z = if n ∈ gl (gs.take k) then .lit (.int .i64 (rl gs n)) else z
theorem DepD.nil (gs : List G) : DepD gs 0 (.map []) := ⟨Maps.tidy_empty, fun _ _ => by simp [gl]; rfl⟩
theorem isKey (x : Int) : WideAt.IsKeyLit (.int .i64 x) := by simp [WideAt.IsKeyLit]
theorem DepD.put {gs : List G} {k : Nat} {D D' : DataW Unit} (hk : k < gs.length) (hT : Maps.Tidy D') (h : DepD gs k D)
    (hs : ∀ z, D'.atKey (.int .i64 gs[k].gen) z = .lit (.int .i64 (rl gs gs[k].gen))) (ho : ∀ n : Int, n ≠ gs[k].gen → ∀ z, D'.atKey (.int .i64 n) z = D.atKey (.int .i64 n) z) : DepD gs (k + 1) D' := by
  refine ⟨hT, fun n z => ?_⟩
  rw [gl_succ hk]
  by_cases e : n = gs[k].gen
  · subst e
    rw [hs, if_pos (by simp)]
  · rw [ho n e, h.2 n z]
    by_cases hm : n ∈ gl (gs.take k)
    · rw [if_pos hm, if_pos (by simp [hm])]
    · rw [if_neg hm, if_neg (by simp [hm, e])]
theorem DepD.self {gs : List G} {k : Nat} {D : DataW Unit} (hk : k < gs.length) (hok : Ok gs) (h : DepD gs k D) (he : gs[k].basis = gs[k].gen) : DepD gs (k + 1) (D.put (.int .i64 gs[k].gen) (.lit (.int .i64 1))) := by
  refine h.put hk (h.1.put (isKey _) _) (fun z => ?_) (fun n hn z => ?_)
  · rw [Maps.atKey_put_same h.1.isMap (isKey _), rl_self hok hk he]
  · rw [Maps.atKey_put_other (by intro e2; cases e2; exact hn rfl)]
theorem DepD.next {gs : List G} {k : Nat} {D : DataW Unit} (hk : k < gs.length) (hok : Ok gs) (h : DepD gs k D) (he : gs[k].basis ≠ gs[k].gen) {c : Int} (hc : c = rl gs gs[k].basis + 1) :
    DepD gs (k + 1) ((D.put (.int .i64 gs[k].gen) (.lit (.int .i64 1))).put (.int .i64 gs[k].gen) (.lit (.int .i64 c))) := by
  have h1 := h.1.put (isKey gs[k].gen) (.lit (.int .i64 1))
  refine h.put hk (h1.put (isKey _) _) (fun z => ?_) (fun n hn z => ?_)
  · rw [Maps.atKey_put_same h1.isMap (isKey _), (rl_next hok hk he).1, hc]
  · rw [Maps.atKey_put_other (by intro e2; cases e2; exact hn rfl), Maps.atKey_put_other (by intro e2; cases e2; exact hn rfl)]
theorem DepD.look {gs : List G} {k : Nat} {D : DataW Unit} (h : DepD gs k D) {b g : Int} (hb : b ∈ gl (gs.take k)) (hne : b ≠ g) : (D.put (.int .i64 g) (.lit (.int .i64 1))).atKey (.int .i64 b) (.lit (.int .i64 0)) = .lit (.int .i64 (rl gs b)) := by
  rw [Maps.atKey_put_other (by intro e2; cases e2; exact hne rfl), h.2, if_pos hb]
/-- what has been told so far -/
def Told (gs : List G) (left : Lit → Bool) (M : Int) : Prop := (∀ g ∈ gl gs, left (.int .i64 g) = true ∨ rl gs g ≤ M) ∧ (M = 0 ∨ ∃ g ∈ gl gs, M = rl gs g) ∧ 0 ≤ M ∧ M ≤ 4096
theorem Told.start {gs : List G} {D : DataW Unit} (h : DepD gs gs.length D) : Told gs (Maps.has D) 0 := by
  refine ⟨fun g hg => .inl (Maps.has_true_of_atKey (y := .lit (.int .i64 (rl gs g))) fun z => ?_), .inl rfl, by omega, by omega⟩
  rw [h.2, if_pos (by rw [List.take_length]; exact hg)]
theorem Told.step {gs : List G} {D : DataW Unit} {left : Lit → Bool} {M x c : Int} (hn : gs.length ≤ 4096) (hok : Ok gs) (hD : DepD gs gs.length D) (h : Told gs left M) (hat : ∀ z, D.atKey (.int .i64 x) z = .lit (.int .i64 c)) :
    Told gs (fun z => left z && !z.sameKey (.int .i64 x)) (if c > M then c else M) := by
  have hx : x ∈ gl gs ∧ c = rl gs x := by
    have h1 := hat (.lit (.bool true))
    rw [hD.2 x, List.take_length] at h1
    split at h1
    · rename_i hm; exact ⟨hm, by simpa using h1.symm⟩
    · cases h1
  have hb := rl_bd hok hx.1
  refine ⟨fun g hg => ?_, ?_, ?_, ?_⟩
  · by_cases e : g = x
    · right; rw [e, ← hx.2]; split <;> omega
    · rcases h.1 g hg with hl | hl
      · left
        show (left (.int .i64 g) && !(Lit.int .i64 g).sameKey (.int .i64 x)) = true
        rw [hl, Maps.sameKey_ne (by intro e2; cases e2; exact e rfl)]; rfl
      · right; split <;> omega
  · split
    · right; exact ⟨x, hx.1, hx.2⟩
    · exact h.2.1
  · have := h.2.2.1; split <;> omega
  · have := h.2.2.2; split <;> omega
theorem Told.done {gs : List G} {left : Lit → Bool} {M : Int} (h : Told gs left M) (hl : ∀ kl, left kl = false) : Deep gs M :=
  ⟨fun g hg => (h.1 g hg).resolve_left (by rw [hl]; simp), h.2.1⟩

set_option maxRecDepth 100000 in
set_option maxHeartbeats 4000000 in
theorem deepest_any (w : World) (ao : Option Addr) (len cap : Nat) (gs : List G) (hR : Rs w ao len cap 4 gs G.c) (hgs : ∀ g ∈ gs, g.ok) (hn : len ≤ 4096) :
    Calls Try.prog 25 #[.slice ao len cap] w fun e w' => ∃ M : Int, e = .returned (.tuple #[.int .i64 M, .int .i64 (chk gs)]) ∧ (chk gs = 0 → Deep gs M) ∧ (chk gs ≠ 0 → M = 0) ∧ Below w.heap.size w w' := by
  have hmm := @run_makeMap Try.prog
  have hgz := genZ_run
  have HLEN := Lib.hid hR.2.2.1
  by_cases hc : chk gs = 0
  · have HOK : Hid (Ok gs) := Lib.hid (chk_all hc)
    have HC := Lib.hid hc
    rw [hc]
    clear hc
    go_enter Try.func25, Try.ntmps25
    go_wp2_with fail
    refine (check_any _ _ _ _ _ hR hn).mono ?_
    rintro e w1 ⟨rfl, hb1⟩
    rw [HC.out]
    have hM0 : (w1.alloc (Obj.map #[] 0)).ownsMap Try.prog 3 (plainElem Try.prog 3) w1.heap.size 0 (.map [] : DataW Unit) := World.ownsMap_made _ _ _ _
    have hb2 : Below w.heap.size w (w1.alloc (Obj.map #[] 0)) := hb1.alloc hb1.size _
    have hs1 := hb1.size
    have hm2 : w1.heap.size < (w1.alloc (Obj.map #[] 0)).heap.size := by simp
    clear hb1
    go_wp2
    obtain ⟨m, hm⟩ : ∃ m, m = w1.heap.size := ⟨_, rfl⟩
    rw [← hm] at hM0 hs1 hm2
    rw [← hm]
    clear hm
    go_loopw [19] (fun i wr => ∃ (k : Nat) (D : DataW Unit), k ≤ len ∧ i = .int .i64 k ∧ wr.ownsMap Try.prog 3 (plainElem Try.prog 3) m (2 * k) D ∧ DepD gs k D ∧ Below w.heap.size w wr ∧ m < wr.heap.size) (fun i _ => len - (intOf i).toNat)
    case atStart => exact ⟨0, .map [], by omega, rfl, hM0, DepD.nil gs, hb2, hm2⟩
    case round =>
      clear hM0 hb2 hm2
      obtain ⟨k, D, hk, rfl, hM, hD, hB, hmw⟩ := hrel
      by_cases hlt : k < len
      · obtain ⟨b, off, rfl, hbw, hcc⟩ := rs_g hR (by omega)
        have hks : k < gs.length := by rw [HLEN.out]; exact hlt
        obtain ⟨c0, c1, c2, c3⟩ := hcc k hks
        have hok := hgs _ (List.getElem_mem hks)
        have HS := Lib.hid (fun he => hD.self hks HOK.out he)
        have HX := Lib.hid (fun he c hc => hD.next hks HOK.out he (c := c) hc)
        have hlook := fun he => hD.look (rl_next HOK.out hks he).2 he
        have hrb : gs[k].basis ≠ gs[k].gen → 1 ≤ rl gs gs[k].basis ∧ rl gs gs[k].basis ≤ gs.length := fun he => rl_bd HOK.out (mem_take (rl_next HOK.out hks he).2).1
        rw [HLEN.out] at hrb
        obtain ⟨x, hx⟩ : ∃ x, x = gs[k] := ⟨_, rfl⟩
        rw [← hx] at c0 c1 c2 c3 hok HS HX hlook hrb
        obtain ⟨r, hr⟩ : ∃ r, r = rl gs x.basis := ⟨_, rfl⟩
        rw [← hr] at hlook hrb HX
        have d0 := (hB.cell (p := ⟨b, off + k * 4, none⟩) hbw).trans c0
        have d1 := (hB.cell (p := ⟨b, off + k * 4 + 1, none⟩) hbw).trans c1
        have d2 := (hB.cell (p := ⟨b, off + k * 4 + 2, none⟩) hbw).trans c2
        have d3 := (hB.cell (p := ⟨b, off + k * 4 + 3, none⟩) hbw).trans c3
        have hkg := keyOf_int_mk (P := Try.prog) (k := 3) Try.underlying3 hok.1
        have hkb := keyOf_int_mk (P := Try.prog) (k := 3) Try.underlying3 hok.2.1
        have hMW : (wr.alloc (Obj.cells #[.int .i64 x.gen, .int .i64 x.basis, .int .i64 x.bytes, .string x.mark] 40)).ownsMap Try.prog 3 (plainElem Try.prog 3) m (2 * k) D := map_below hM hmw (below_alloc _ _)
        have hBW : Below w.heap.size w (wr.alloc (Obj.cells #[.int .i64 x.gen, .int .i64 x.basis, .int .i64 x.bytes, .string x.mark] 40)) := hB.alloc hB.size _
        have hBK := Blk.new wr [.int .i64 x.gen, .int .i64 x.basis, .int .i64 x.bytes, .string x.mark] 40
        have hmn : m ≠ wr.heap.size := by omega
        have HBW := Lib.hid hBW
        have HBK := Lib.hid hBK
        have HR := Lib.hid hr
        have i1 : (k : Int) < (len : Int) := by omega
        clear c0 c1 c2 c3 hcc hx hM hD hBW hBK hr hks hok
        by_cases he : x.basis = x.gen
        · have HN := Lib.hid (HS.out he)
          have hne : (x.basis != x.gen) = false := by simpa using he
          clear HS HX hlook hrb hkb he
          go_wp2_with (first | (at_mapUpdate; refine wpList_mapUpdate_own _ rfl _ _ _ 51 rfl 3 3 keyInt Try.underlying51 _ m _ D rfl hMW (by unfold maxLen; omega) _ _ _ rfl rfl hkg (.lit (.int .i64 1)) [] (plainElem_int Try.underlying3 (WalkArith.wf_i64 (by omega))) ?_; intro w3 hM3 hg3; have e0 := (HBK.out.grown hg3 (by simp; omega)).cell (i := 0) rfl; have e1 := (HBK.out.grown hg3 (by simp; omega)).cell (i := 1) rfl))
          have hB3 : Below w.heap.size w w3 := HBW.out.grown hg3 HBW.out.size (by intro j hj; cases hj; exact hs1)
          have hmw3 : m < w3.heap.size := Nat.lt_of_lt_of_le hmw (Nat.le_trans (by simp) hg3.size)
          have hM4 := hM3.mono (n' := 2 * (k + 1)) (by omega)
          clear hM3 hg3 hMW hB
          go_wp2
          go_roundw
          case rel => exact ⟨k + 1, _, by omega, by go_num, hM4, HN.out, hB3, hmw3⟩
          case measure => simp [intOf]; omega
        · have hne : (x.basis != x.gen) = true := by simpa using he
          have HN := Lib.hid (HX.out he)
          have hlk := hlook he
          obtain ⟨hr1, hr2⟩ := hrb he
          clear HS HX hlook hrb he
          go_wp2_with (first
            | (at_lookup; refine wpList_lookup_own_int _ rfl _ _ 51 rfl 3 3 .i64 keyInt Try.underlying51 Try.underlying3 (zeroInt _) m _ _ rfl hM3 _ _ rfl hkb ?_; intro cc hcc hwc; obtain rfl : r = cc := (by rw [hlk] at hcc; simpa using hcc); clear hcc hwc)
            | (at_mapUpdate; refine wpList_mapUpdate_own _ rfl _ _ _ 51 rfl 3 3 keyInt Try.underlying51 _ m _ D rfl hMW (by unfold maxLen; omega) _ _ _ rfl rfl hkg (.lit (.int .i64 1)) [] (plainElem_int Try.underlying3 (WalkArith.wf_i64 (by omega))) ?_; intro w3 hM3 hg3; have e0 := (HBK.out.grown hg3 (by simp; omega)).cell (i := 0) rfl; have e1 := (HBK.out.grown hg3 (by simp; omega)).cell (i := 1) rfl)
            | (at_mapUpdate; refine wpList_mapUpdate_own _ rfl _ _ _ 51 rfl 3 3 keyInt Try.underlying51 _ m _ _ rfl hM3 (by unfold maxLen; omega) _ _ _ rfl rfl hkg (.lit (.int .i64 (r + 1))) [] (plainElem_int Try.underlying3 (WalkArith.wf_i64 (by omega))) ?_; intro w4 hM4 hg4))
          have hB3 : Below w.heap.size w w3 := HBW.out.grown hg3 HBW.out.size (by intro j hj; cases hj; exact hs1)
          have hB4 : Below w.heap.size w w4 := hB3.grown hg4 hB3.size (by intro j hj; cases hj; exact hs1)
          have hmw4 : m < w4.heap.size := Nat.lt_of_lt_of_le hmw (Nat.le_trans (Nat.le_trans (by simp) hg3.size) hg4.size)
          have hM5 := hM4.mono (n' := 2 * (k + 1)) (by omega)
          clear hM3 hg3 hMW hB hM4 hg4 e0 e1 hB3 hlk
          go_wp2
          go_roundw
          case rel => exact ⟨k + 1, _, by omega, by go_num, hM5, HN.out _ (by rw [HR.out]), hB4, hmw4⟩
          case measure => simp [intOf]; omega
      · have hkk : k = len := by omega
        have hT : Told gs (Maps.has D) 0 := Told.start (by rw [HLEN.out, ← hkk]; exact hD)
        have HD : Hid (DepD gs gs.length D) := Lib.hid (by rw [HLEN.out, ← hkk]; exact hD)
        clear hD hkk
        go_wp2_with (first | (at_range; refine wpList_range_own _ rfl _ 51 rfl 3 3 keyInt Try.underlying51 _ m _ D rfl hM ?_; intro w0 hrg0 hg0 hs0) | go_in)
        go_frame
        obtain ⟨it, hit⟩ : ∃ it, it = wr.heap.size := ⟨_, rfl⟩
        rw [← hit] at hrg0 hs0 ⊢
        have hB0 : Below w.heap.size w w0 := hB.grown hg0 hB.size (by intro j hj; cases hj)
        have hitw : w.heap.size ≤ it := by rw [hit]; exact hB.size
        clear hg0 hM hB hmw hit
        go_loopw [8] (fun v wq => ∃ (M : Int) (left : Lit → Bool) (cnt : Nat), v = .int .i64 M ∧ wq.ranges Try.prog 3 (plainElem Try.prog 3) m it (2 * k) D left cnt ∧ Told gs left M ∧ Below w.heap.size w wq) (fun _ wq => wq.rangeLeft m it)
        case atStart => exact ⟨0, _, _, rfl, hrg0, hT, hB0⟩
        case round =>
          clear hrg0 hT hB0
          obtain ⟨M, left, cnt, rfl, hrg, hT, hB⟩ := hrel
          have HT := Lib.hid hT
          clear hT
          go_wp2_with (first | (at_next; refine wpList_next_ranges_ii _ rfl _ rfl 3 3 .i64 .i64 keyInt Try.underlying3 Try.underlying3 m it _ _ _ _ rfl hrg ?_ ?_) | go_in)
          · intro _ hl0
            have hdp := HT.out.done hl0
            go_wp2
            go_ret2
            exact ⟨M, rfl, fun _ => hdp, fun h => absurd rfl h, hB⟩
          · intro x c w5 cnt1 hwx hwc hlx hat hrg1 hlt1 hg1 hsz1 hen
            have hT1 := HT.out.step (by rw [HLEN.out]; exact hn) HOK.out HD.out hat
            have HT1 := Lib.hid hT1
            have hB1 : Below w.heap.size w w5 := hB.grown hg1 hB.size (by intro j hj; cases hj; exact hitw)
            have hml : w5.rangeLeft m it < wr.rangeLeft m it := by rw [hrg1.left_eq, hrg.left_eq]; exact hlt1
            have HRG := Lib.hid hrg1
            clear hT1 hat hlx hrg hrg1 hB hg1 hlt1
            by_cases hcm : c > M
            · have HT2 : Hid (Told gs _ c) := Lib.hid (by have := HT1.out; rw [if_pos hcm] at this; exact this)
              go_wp2
              go_roundw
              case rel => exact ⟨_, _, _, rfl, HRG.out, HT2.out, hB1⟩
              case measure => exact hml
            · have HT2 : Hid (Told gs _ M) := Lib.hid (by have := HT1.out; rw [if_neg hcm] at this; exact this)
              go_wp2
              go_roundw
              case rel => exact ⟨_, _, _, rfl, HRG.out, HT2.out, hB1⟩
              case measure => exact hml
  · have HC := Lib.hid hc
    obtain ⟨E, hE⟩ : ∃ E, E = chk gs := ⟨_, rfl⟩
    have hne : (E != 0) = true := by rw [hE]; simpa using hc
    have HE := Lib.hid hE
    rw [← hE]
    clear hc hE
    go_enter Try.func25, Try.ntmps25
    go_wp2_with fail
    refine (check_any _ _ _ _ _ hR hn).mono ?_
    rintro e w1 ⟨rfl, hb1⟩
    rw [← HE.out]
    go_wp2
    go_ret2
    exact ⟨0, rfl, fun h => absurd (HE.out.symm.trans h) HC.out, fun _ => rfl, hb1⟩
end Go.Proofs.Ytoibbeiieelccaa
