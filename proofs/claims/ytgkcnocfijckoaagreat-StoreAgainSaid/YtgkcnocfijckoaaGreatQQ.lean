/- slices.Reverse at []int, over a row of our own. Conditions: as named in each theorem. -/
import Derived.Test.YtgkcnocfijckoaaGreatQG
import Derived.Laws.OwnMore
import Derived.Test.YtgkcnocfijckoaaGreatQR
import Derived.Test.YtgkcnocfijckoaaGreatQP
namespace Go.Proofs.YtgkcnocfijckoaaGreat
open Go.RowKit
set_option linter.unusedVariables false
/-- a list turned round at its first and last i places -/
def revAt (xs : List Value) (i : Nat) : List Value := (List.range xs.length).map fun t => if t < i ∨ xs.length ≤ t + i then xs.getD (xs.length - 1 - t) undef else xs.getD t undef
theorem revAt_len (xs : List Value) (i : Nat) : (revAt xs i).length = xs.length := by simp [revAt]
theorem revAt_zero (xs : List Value) : revAt xs 0 = xs := by
  unfold revAt
  apply List.ext_getElem (by simp)
  intro t h1 h2
  simp only [List.getElem_map, List.getElem_range]
  rw [if_neg (by omega)]
  simp [List.getD, h2]
theorem revAt_end (xs : List Value) (i : Nat) (h : xs.length ≤ 2 * i + 1) : revAt xs i = xs.reverse := by
  unfold revAt
  apply List.ext_getElem (by simp)
  intro t h1 h2
  simp only [List.length_map, List.length_range] at h1
  simp only [List.getElem_map, List.getElem_range, List.getElem_reverse]
  split
  · rw [List.getD_eq_getElem?_getD, List.getElem?_eq_getElem (by omega)]; rfl
  · have e : xs.length - 1 - t = t := by omega
    simp only [e]
    rw [List.getD_eq_getElem?_getD, List.getElem?_eq_getElem h1]; rfl
theorem revAt_get (xs : List Value) (i t : Nat) (ht : t < xs.length) (h1 : i ≤ t) (h2 : t + i < xs.length) : (revAt xs i)[t]? = some (xs.getD t undef) := by
  unfold revAt
  rw [List.getElem?_map, List.getElem?_range ht]
  simp only [Option.map_some]
  rw [if_neg (by omega)]
theorem revAt_at (xs : List Value) (i t : Nat) (ht : t < xs.length) : (revAt xs i)[t]? = some (if t < i ∨ xs.length ≤ t + i then xs.getD (xs.length - 1 - t) undef else xs.getD t undef) := by
  unfold revAt
  rw [List.getElem?_map, List.getElem?_range ht]
  rfl
theorem revAt_step (xs : List Value) (i j : Nat) (hij : i < j) (hj : j + i + 1 = xs.length) : ((revAt xs i).set i (xs.getD j undef)).set j (xs.getD i undef) = revAt xs (i + 1) := by
  apply List.ext_getElem?
  intro t
  by_cases ht : t < xs.length
  · rw [revAt_at xs (i + 1) t ht, List.getElem?_set, List.getElem?_set, revAt_at xs i t ht]
    simp only [List.length_set, revAt_len]
    by_cases e1 : j = t
    · subst e1
      rw [if_pos rfl, if_pos ht, if_pos (by omega)]
      congr 2; omega
    · rw [if_neg e1]
      by_cases e2 : i = t
      · subst e2
        rw [if_pos rfl, if_pos ht, if_pos (by omega)]
        congr 2; omega
      · rw [if_neg e2]
        by_cases e3 : t < i ∨ xs.length ≤ t + i
        · rw [if_pos e3, if_pos (by omega)]
        · rw [if_neg e3, if_neg (by omega)]
  · rw [List.getElem?_eq_none (by simp [revAt_len]; omega), List.getElem?_eq_none (by simp [revAt_len]; omega)]
set_option maxHeartbeats 1000000 in
theorem reverse_any (w : World) (base : Nat) (v : Value) (n : Nat) (zs : List Int) (hn : n ≤ 1000000) (hz : zs.length = n) (hO : w.ownsRow base 3 1 v n (zs.map (Value.int .i64))) :
    Calls Tryz.prog 81 #[v] w fun e w' => (∃ r, e = .returned r) ∧ w'.ownsRow base 3 1 v n (zs.reverse.map (Value.int .i64)) ∧ w.grownBy w' v.ownBlock := by
  have hv := hO.2
  rcases hv with ⟨rfl, rfl⟩ | ⟨g, cap, cur, rfl, _⟩
  · have hz0 : zs = [] := List.eq_nil_of_length_eq_zero hz
    subst hz0
    go_enter Tryz.func81, Tryz.ntmps81
    go_wp2
    go_loopw [2, 3] (fun a b wr => a = .int .i64 0 ∧ b = .int .i64 (-1) ∧ wr = w) (fun _ _ _ => 0)
    case atStart => exact ⟨rfl, rfl, rfl⟩
    case round =>
      obtain ⟨rfl, rfl, rfl⟩ := hrel
      go_wp2
      go_end0
      exact ⟨⟨_, rfl⟩, hO, grown_refl _ _⟩
  · obtain ⟨xs, hxs⟩ : ∃ xs, xs = zs.map (Value.int .i64) := ⟨_, rfl⟩
    have hxl : xs.length = n := by rw [hxs, List.length_map, hz]
    have HXL := Lib.hid hxl
    have hrv : zs.reverse.map (Value.int .i64) = xs.reverse := by rw [hxs, List.map_reverse]
    rw [hrv]
    rw [← hxs] at hO
    have hxg : ∀ t, t < n → ∃ z, xs.getD t undef = .int .i64 z := fun t ht => by
      rw [hxs]
      exact ⟨zs[t]'(by omega), by simp [List.getD, show t < zs.length by omega]⟩
    have HXG := Lib.hid hxg
    clear hxg hxs hrv hxl
    go_enter Tryz.func81, Tryz.ntmps81
    go_wp2
    go_loopw [2, 3] (fun a b wr => ∃ i : Nat, 2 * i ≤ n + 1 ∧ a = .int .i64 i ∧ b = .int .i64 ((n : Int) - 1 - i) ∧ wr.ownsRow base 3 1 (.slice (some ⟨g, 0, none⟩) n cap) n (revAt xs i) ∧ w.grownBy wr (some g)) (fun a _ _ => n - (intOf a).toNat)
    case atStart => exact ⟨0, by omega, rfl, by go_num, by rw [revAt_zero]; exact hO, grown_refl _ _⟩
    case round =>
      obtain ⟨i, hi, rfl, rfl, hR, hG⟩ := hrel
      by_cases hlt : (i : Int) < (n : Int) - 1 - i
      · obtain ⟨j, hj⟩ : ∃ j : Nat, (n : Int) - 1 - i = j := ⟨n - 1 - i, by omega⟩
        rw [hj] at hlt ⊢
        have hjn : j + i + 1 = n := by omega
        have ci := hR.cellAt i (by omega)
        have cj := hR.cellAt j (by omega)
        have hxl := HXL.out
        rw [revAt_get xs i i (by omega) (by omega) (by omega)] at ci
        rw [revAt_get xs i j (by omega) (by omega) (by omega)] at cj
        obtain ⟨zi, hzi⟩ := HXG.out i (by omega)
        obtain ⟨zj, hzj⟩ := HXG.out j (by omega)
        rw [hzi] at ci
        rw [hzj] at cj
        have fi := hR.frozenAt i
        have fj := hR.frozenAt j
        have i1 : (i : Int) < (n : Int) := by omega
        have i2 : (j : Int) < (n : Int) := by omega
        have hne : i ≠ j := by omega
        have hne2 : j ≠ i := by omega
        clear hxl
        have HJ := Lib.hid hj
        have HZI := Lib.hid hzi
        have HZJ := Lib.hid hzj
        clear hj hzi hzj
        go_wp2_with fail
        go_region
        obtain ⟨W, hW⟩ : ∃ W, W = ((wr.setCell ⟨g, i, none⟩ (.int .i64 zj)).setCell ⟨g, j, none⟩ (.int .i64 zi)).drew := ⟨_, rfl⟩
        have hR2 : W.ownsRow base 3 1 (.slice (some ⟨g, 0, none⟩) n cap) n (revAt xs (i + 1)) := by
          rw [hW, ← revAt_step xs i j (by omega) (by rw [HXL.out]; exact hjn), HZI.out, HZJ.out]
          exact ((hR.stored i _).1.stored j _).1
        have hG2 : w.grownBy W (some g) := by rw [hW]; exact grown_drew (grown_set (grown_set hG _ _) _ _)
        rw [← hW]
        clear hW hR hG ci cj fi fj
        go_wp2
        go_roundw
        case rel => exact ⟨i + 1, by omega, by go_num, by have := HJ.out; go_num, hR2, hG2⟩
        case measure => simp [intOf]; omega
      · go_wp2
        go_end0
        refine ⟨⟨_, rfl⟩, ?_, hG⟩
        rw [← revAt_end xs i (by have := HXL.out; omega)]
        exact hR
end Go.Proofs.YtgkcnocfijckoaaGreat
namespace Go.Proofs.YtgkcnocfijckoaaGreat
open Go.RowKit
set_option linter.unusedVariables false
theorem infoInt : (Tryz.prog.info? 3).map (fun i => (i.zero, i.size, i.bytes)) = some (some (.int .i64 0), 1, 8) := by kernel_rfl
theorem owns_below {w w' : World} {base : Nat} {e : TypeId} {size n : Nat} {v : Value} {xs : List Value} (h : w.ownsRow base e size v n xs) (hb : Below w.heap.size w w') : w'.ownsRow base e size v n xs :=
  h.kept (below_grown hb none) (by cases v.ownBlock <;> simp)
def gl (gs : List G) : List Int := gs.map G.gen
def Ok (gs : List G) : Prop := chkTo gs gs.length
def idx (gs : List G) (g : Int) : Nat := (gl gs).idxOf g
def basisOf (gs : List G) (g : Int) : Int := (gs.getD (idx gs g) default).basis
def roadF (gs : List G) : Nat → Int → List Int
  | 0, _ => []
  | f + 1, g => if basisOf gs g = g then [g] else roadF gs f (basisOf gs g) ++ [g]
def roadL (gs : List G) (g : Int) : List Int := roadF gs gs.length g
theorem gl_take (gs : List G) (n : Nat) : gl (gs.take n) = (gl gs).take n := by simp [gl, List.map_take]
theorem gl_len (gs : List G) : (gl gs).length = gs.length := by simp [gl]
theorem idx_lt {gs : List G} {g : Int} (h : g ∈ gl gs) : idx gs g < gs.length := by
  have := List.idxOf_lt_length_of_mem h
  rwa [gl_len] at this
theorem gl_get {gs : List G} {k : Nat} (hk : k < gs.length) (h : k < (gl gs).length) : (gl gs)[k] = gs[k].gen := List.getElem_map G.gen
theorem atZ_in {gs : List G} {g : Int} (h : g ∈ gl gs) : atZ (gs.map G.gen) g = ((idx gs g : Nat) : Int) := if_pos h
theorem idx_gen {gs : List G} {g : Int} (h : g ∈ gl gs) : (gs[idx gs g]'(idx_lt h)).gen = g := by
  have h1 := List.idxOf_lt_length_of_mem h
  have h2 := List.getElem_idxOf h1
  have h3 : (gl gs)[(gl gs).idxOf g]'h1 = (gs[idx gs g]'(idx_lt h)).gen := gl_get (idx_lt h) h1
  exact h3.symm.trans h2
theorem mem_take {gs : List G} {g : Int} {n : Nat} (h : g ∈ gl (gs.take n)) : g ∈ gl gs ∧ idx gs g < n ∧ idx (gs.take n) g = idx gs g := by
  rw [gl_take] at h
  have h2 : g ∈ gl gs := List.mem_of_mem_take h
  have e : gl gs = (gl gs).take n ++ (gl gs).drop n := (List.take_append_drop _ _).symm
  have h3 : (gl gs).idxOf g = ((gl gs).take n).idxOf g := by
    conv => lhs; rw [e]
    rw [List.idxOf_append, if_pos h]
  have h4 := List.idxOf_lt_length_of_mem h
  refine ⟨h2, ?_, ?_⟩
  · unfold idx; rw [h3]; simp at h4; omega
  · unfold idx; rw [gl_take, h3]
theorem take_mem {gs : List G} {g : Int} {n : Nat} (h : g ∈ gl gs) (hn : idx gs g < n) : g ∈ gl (gs.take n) := by
  rw [gl_take]
  have h1 := List.idxOf_lt_length_of_mem h
  have h2 := List.getElem_idxOf h1
  rw [List.mem_iff_getElem]
  exact ⟨(gl gs).idxOf g, by rw [List.length_take]; exact Nat.lt_min.2 ⟨hn, h1⟩, by rw [List.getElem_take]; exact h2⟩
theorem basis_take {gs : List G} {g : Int} {n : Nat} (h : g ∈ gl (gs.take n)) : basisOf (gs.take n) g = basisOf gs g := by
  obtain ⟨h1, h2, h3⟩ := mem_take h
  unfold basisOf
  rw [h3]
  congr 1
  have hl := idx_lt h1
  simp [List.getD, h2]
theorem ok_up {gs : List G} (h : Ok gs) : Up (gl gs) := by
  have := chkTo_up (Nat.le_refl _) h
  rwa [List.take_length] at this
theorem chkAt_take {gs : List G} {n j : Nat} (hj : j < n) : chkAt (gs.take n) j = chkAt gs j := by
  have h1 : ∀ k, k < n → (gs.take n).getD k default = gs.getD k default := fun k hk => by simp [List.getD, hk]
  unfold chkAt
  rw [h1 j hj, h1 (j - 1) (by omega), List.take_take, Nat.min_eq_left (by omega)]
theorem ok_take {gs : List G} {n : Nat} (h : Ok gs) (hn : n ≤ gs.length) : Ok (gs.take n) := fun j hj => by
  rw [List.length_take] at hj
  have hj2 := Nat.lt_min.1 hj
  rw [chkAt_take hj2.1]; exact h j hj2.2
theorem ok_chk {gs : List G} (h : Ok gs) : chk gs = 0 := chk_ok h
theorem basis_step {gs : List G} (h : Ok gs) {g : Int} (hg : g ∈ gl gs) (hb : basisOf gs g ≠ g) : basisOf gs g ∈ gl (gs.take (idx gs g)) := by
  have h1 := (chk_facts (h _ (idx_lt hg))).2.2
  have h2 : (gs.getD (idx gs g) default).gen = g := by rw [getD_g (idx_lt hg)]; exact idx_gen hg
  rw [h2] at h1
  have h3 : (gs.getD (idx gs g) default).basis ≠ g := hb
  exact Classical.byContradiction fun hn => h1 ⟨h3, hn⟩
theorem basis_in {gs : List G} (h : Ok gs) {g : Int} (hg : g ∈ gl gs) (hb : basisOf gs g ≠ g) : basisOf gs g ∈ gl gs ∧ idx gs (basisOf gs g) < idx gs g := by
  obtain ⟨a, b, _⟩ := mem_take (basis_step h hg hb)
  exact ⟨a, b⟩
theorem roadF_fuel {gs : List G} (h : Ok gs) : ∀ (f f' : Nat) (g : Int), g ∈ gl gs → idx gs g < f → idx gs g < f' → roadF gs f g = roadF gs f' g := by
  intro f
  induction f with
  | zero => intro f' g _ h1; omega
  | succ f ih =>
    intro f' g hg h1 h2
    cases f' with
    | zero => omega
    | succ f' =>
      unfold roadF
      split
      · rfl
      · rename_i hb
        obtain ⟨a, b⟩ := basis_in h hg hb
        rw [ih f' _ a (by omega) (by omega)]
theorem roadF_len {gs : List G} (h : Ok gs) : ∀ (f : Nat) (g : Int), g ∈ gl gs → idx gs g < f → (roadF gs f g).length ≤ idx gs g + 1 := by
  intro f
  induction f with
  | zero => intro g _ h1; omega
  | succ f ih =>
    intro g hg h1
    unfold roadF
    split
    · simp
    · rename_i hb
      obtain ⟨a, b⟩ := basis_in h hg hb
      have := ih _ a (by omega)
      simp; omega
theorem roadL_eq {gs : List G} (h : Ok gs) {g : Int} (hg : g ∈ gl gs) : roadL gs g = if basisOf gs g = g then [g] else roadL gs (basisOf gs g) ++ [g] := by
  unfold roadL
  obtain ⟨n, hn⟩ : ∃ n, gs.length = n + 1 := ⟨gs.length - 1, by have := idx_lt hg; omega⟩
  conv => lhs; rw [hn]; unfold roadF
  split
  · rfl
  · rename_i hb
    obtain ⟨a, b⟩ := basis_in h hg hb
    have := idx_lt hg
    rw [roadF_fuel h n gs.length _ a (by omega) (idx_lt a)]
theorem roadL_len {gs : List G} (h : Ok gs) {g : Int} (hg : g ∈ gl gs) : (roadL gs g).length ≤ idx gs g + 1 := roadF_len h _ g hg (idx_lt hg)
theorem roadF_take {gs : List G} (h : Ok gs) {n : Nat} (hn : n ≤ gs.length) : ∀ (f : Nat) (g : Int), g ∈ gl (gs.take n) → roadF (gs.take n) f g = roadF gs f g := by
  intro f
  induction f with
  | zero => intro g _; rfl
  | succ f ih =>
    intro g hg
    unfold roadF
    rw [basis_take hg]
    split
    · rfl
    · rename_i hb
      obtain ⟨h1, h2, h3⟩ := mem_take hg
      obtain ⟨a, b⟩ := basis_in h h1 hb
      rw [ih _ (take_mem a (by omega))]
theorem roadL_take {gs : List G} (h : Ok gs) {n : Nat} (hn : n ≤ gs.length) {g : Int} (hg : g ∈ gl (gs.take n)) : roadL (gs.take n) g = roadL gs g := by
  obtain ⟨h1, h2, h3⟩ := mem_take hg
  unfold roadL
  rw [roadF_take h hn _ _ hg]
  exact roadF_fuel h _ _ g h1 (by rw [List.length_take]; exact Nat.lt_min.2 ⟨h2, idx_lt h1⟩) (idx_lt h1)
def roadE (gs : List G) (g : Int) : Int := if chk gs ≠ 0 then chk gs else if g ∉ gl gs then 8 else 0
def roadR (gs : List G) (g : Int) : List Int := if chk gs = 0 ∧ g ∈ gl gs then roadL gs g else []
def intV (l : List Int) : List Value := l.map (Value.int .i64)
theorem intV_len (l : List Int) : (intV l).length = l.length := by simp [intV]
set_option maxRecDepth 100000 in
set_option maxHeartbeats 2000000 in
theorem road_any (w : World) (ao : Option Addr) (len cap : Nat) (gs : List G) (g : Int) (hR : Rs w ao len cap 4 gs G.c) (hn : len ≤ 4096) :
    Calls Tryz.prog 48 #[.slice ao len cap, .int .i64 g] w fun e w' => ∃ v, e = .returned (.tuple #[v, .int .i64 (roadE gs g)]) ∧ w'.ownsRow w.heap.size 3 1 v (roadR gs g).length (intV (roadR gs g)) ∧ Below w.heap.size w w' := by
  obtain ⟨i0, hi, hz0, hz1, hz2⟩ := info_parts infoInt
  obtain ⟨E, hE⟩ : ∃ E, E = roadE gs g := ⟨_, rfl⟩
  obtain ⟨L, hL⟩ : ∃ L, L = roadR gs g := ⟨_, rfl⟩
  rw [← hE, ← hL]
  unfold roadE at hE
  unfold roadR at hL
  by_cases hc : chk gs = 0
  · have HOK : Hid (Ok gs) := Lib.hid (chk_all hc)
    have HC := Lib.hid hc
    by_cases hg : g ∈ gl gs
    · rw [if_neg (by simp [hc]), if_neg (by simp [hg])] at hE
      rw [if_pos ⟨hc, hg⟩] at hL
      subst hE
      have HL := Lib.hid hL
      clear hc hL
      go_enter Tryz.func48, Tryz.ntmps48
      go_wp2_with fail
      refine (check_any _ _ _ _ _ hR hn).mono ?_
      rintro e w1 ⟨rfl, hb1⟩
      rw [HC.out]
      go_wp2
      go_loopg [1, 7] (idx gs g) (fun m u v wr => ∃ (cur : Int) (done : List Int), u = .int .i64 cur ∧ cur ∈ gl gs ∧ m = idx gs cur ∧ L = roadL gs cur ++ done.reverse ∧ done.length + idx gs cur + 1 ≤ len ∧ wr.ownsRow w.heap.size 3 1 v done.length (intV done) ∧ Below w.heap.size w wr)
      case atStart => exact ⟨g, [], rfl, hg, rfl, by simp [HL.out], by have := idx_lt hg; have := hR.2.2.1; simp; omega, World.ownsRow_nil _ _ _ _, hb1⟩
      case round =>
        clear hb1 hg HL
        obtain ⟨cur, done, rfl, hcur, hm, hL, hlen, hO, hB⟩ := hrel
        have HLL := Lib.hid hR.2.2.1
        have hat : atZ (gs.map G.gen) cur = ((idx gs cur : Nat) : Int) := atZ_in hcur
        have hil := idx_lt hcur
        have hbo : basisOf gs cur = (gs[idx gs cur]'hil).basis := by unfold basisOf; rw [getD_g hil]
        have hrl := roadL_eq HOK.out hcur
        obtain ⟨b, off, rfl, hbw, hcc⟩ := rs_g hR (by have := HLL.out; omega)
        obtain ⟨-, c1, -, -⟩ := hcc _ hil
        rw [← hbo] at c1
        have hbi := basis_in HOK.out hcur
        obtain ⟨i, hie⟩ : ∃ i, i = idx gs cur := ⟨_, rfl⟩
        rw [← hie] at hat hil c1 hm hlen hbi
        obtain ⟨y, hy⟩ : ∃ y, y = basisOf gs cur := ⟨_, rfl⟩
        rw [← hy] at c1 hrl hbi
        have HAT := Lib.hid hat
        have HRL := Lib.hid hrl
        have HM := Lib.hid hm
        have HL := Lib.hid hL
        have HBI := Lib.hid hbi
        have hil2 : i < len := by rw [← HLL.out]; exact hil
        have i1 : (i : Int) < (len : Int) := by omega
        clear hat hbo hrl hcc hm hie hy hL hbi hil
        go_wp2_with fail
        refine (place_z _ _ _ _ _ _ _ (hR.below hB (Nat.le_refl _)) (by omega) (ok_up HOK.out) HAT.out.symm).mono ?_
        rintro e w2 ⟨rfl, hb2⟩
        have hO2 := owns_below hO hb2
        have hB2 := kpBelow_via hB hb2
        clear hO hB hb2
        go_wp2_with (at_builtin; refine wpList_append_own _ rfl _ _ 49 rfl w.heap.size 3 i0 (.int .i64 0) 1 8 Tryz.underlying49 hi hz0 hz1 hz2 rfl (by decide) _ _ _ rfl (hO2.alloc _) ⟨w2.heap.size, 0, none⟩ 1 1 [.int .i64 cur] rfl rfl (cell1_new _ _ _) (one1 _ rfl) (by unfold maxLen; omega) (by omega) (by simp; have := hB2.size; omega) ?_)
        intro v' w3 hO3 hg3 _
        have hO4 : w3.ownsRow w.heap.size 3 1 v' (done ++ [cur]).length (intV (done ++ [cur])) := by
          rw [List.length_append]; simpa [intV] using hO3
        have hB4 : Below w.heap.size w w3 := (hB2.alloc hB2.size _).grown hg3 (by simp; have := hB2.size; omega) (fun j hj => (World.ownsRow.lt hO2 j hj).1)
        have d1 := (hB4.cell (p := ⟨b, off + i * 4 + 1, none⟩) hbw).trans c1
        clear hO3 hg3 hO2 hB2 c1
        by_cases hyc : y = cur
        · have hL2 : L = (done ++ [cur]).reverse := by rw [HL.out, HRL.out, if_pos hyc]; simp
          have HL2 := Lib.hid hL2
          subst hyc
          clear hL2
          obtain ⟨D, hD⟩ : ∃ D, D = done ++ [y] := ⟨_, rfl⟩
          have hDl : D.length ≤ len := by rw [hD]; simp; omega
          rw [← hD] at hO4 HL2
          clear hD
          go_wp2_with fail
          refine (reverse_any _ _ _ _ D (by omega) rfl hO4).mono ?_
          rintro e w5 ⟨⟨r, rfl⟩, hO5, hg5⟩
          have hB5 : Below w.heap.size w w5 := hB4.grown hg5 hB4.size (fun j hj => (World.ownsRow.lt hO4 j hj).1)
          go_wp2
          go_ret2
          refine ⟨v', rfl, ?_, hB5⟩
          rw [HL2.out, List.length_reverse]
          exact hO5
        · have hL2 : L = roadL gs y ++ (done ++ [cur]).reverse := by rw [HL.out, HRL.out, if_neg hyc]; simp
          have HL2 := Lib.hid hL2
          obtain ⟨hy1, hy2⟩ := HBI.out hyc
          have HY1 := Lib.hid hy1
          have HY2 := Lib.hid hy2
          clear hL2 hy1 hy2
          go_wp2
          go_roundg (idx gs y)
          case measure => have := HM.out; have := HY2.out; omega
          case rel => exact ⟨y, done ++ [cur], rfl, HY1.out, rfl, HL2.out, by have := HY2.out; simp; omega, hO4, hB4⟩
    · rw [if_neg (by simp [hc]), if_pos hg] at hE
      rw [if_neg (by simp [hg])] at hL
      subst hE hL
      have hat : atZ (gs.map G.gen) g = -1 := atZ_none hg
      have HAT := Lib.hid hat
      clear hc hat hg
      go_enter Tryz.func48, Tryz.ntmps48
      go_wp2_with fail
      refine (check_any _ _ _ _ _ hR hn).mono ?_
      rintro e w1 ⟨rfl, hb1⟩
      rw [HC.out]
      go_wp2
      refine wp_loop_rounds 1 ?_
      rw [rounds_succ]
      go_wp2_with fail
      refine (place_z _ _ _ _ _ _ _ (hR.next hb1) (by omega) (ok_up HOK.out) HAT.out.symm).mono ?_
      rintro e w2 ⟨rfl, hb2⟩
      go_wp2
      go_ret2
      exact ⟨_, rfl, World.ownsRow_nil _ _ _ _, kpBelow_via hb1 hb2⟩
  · rw [if_pos hc] at hE
    rw [if_neg (by simp [hc])] at hL
    subst hL
    have hne : (E != 0) = true := by rw [hE]; simpa using hc
    have HE := Lib.hid hE
    clear hE hc
    go_enter Tryz.func48, Tryz.ntmps48
    go_wp2_with fail
    refine (check_any _ _ _ _ _ hR hn).mono ?_
    rintro e w1 ⟨rfl, hb1⟩
    rw [← HE.out]
    go_wp2
    go_ret2
    exact ⟨_, rfl, World.ownsRow_nil _ _ _ _, hb1⟩
end Go.Proofs.YtgkcnocfijckoaaGreat
