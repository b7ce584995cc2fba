/- Road and the reference's Road. Conditions: as named in each theorem. -/
import Derived.Test.YtoibbeiieelccaaKeepCheck2
import Derived.Test.YtoibbeiieelccaaKeepRev
namespace Go.Proofs.Ytoibbeiieelccaa
open Go.RowKit
set_option linter.unusedVariables false

theorem infoInt : (Try.prog.info? 3).map (fun i => (i.zero, i.size, i.bytes)) = some (some (.int .i64 0), 1, 8) := by kernel_rfl
theorem owns_below {w w' : World} {base : Nat} {e : TypeId} {size n : Nat} {v : Value} {xs : List Value} (h : w.ownsRow base e size v n xs) (hb : Below w.heap.size w w') : w'.ownsRow base e size v n xs :=
  h.kept (below_grown hb none) (by cases v.ownBlock <;> simp)
theorem owns_slice {w : World} {base : Nat} {e : TypeId} {size n : Nat} {v : Value} {xs : List Value} (h : w.ownsRow base e size v n xs) : ∃ ao cap, v = .slice ao n cap := by
  rcases h.2 with ⟨rfl, h0⟩ | ⟨g, cap, cur, rfl, _⟩
  · exact ⟨none, 0, by rw [h0]⟩
  · exact ⟨_, cap, rfl⟩

/-! the plain law -/
def gl (gs : List G) : List Int := gs.map G.gen
def Ok (gs : List G) : Prop := chkTo gs gs.length
def idx (gs : List G) (g : Int) : Nat := (gl gs).idxOf g
def basisOf (gs : List G) (g : Int) : Int := (gs.getD (idx gs g) default).basis
def roadF (gs : List G) : Nat → Int → List Int
  | 0, _ => []
  | f + 1, g => if basisOf gs g = g then [g] else roadF gs f (basisOf gs g) ++ [g]
def roadL (gs : List G) (g : Int) : List Int := roadF gs gs.length g
theorem gl_take (gs : List G) (n : Nat) : gl (gs.take n) = (gl gs).take n := by simp [gl, List.map_take]
theorem gl_len (gs : List G) : (gl gs).length = gs.length := by simp [gl]
theorem idx_lt {gs : List G} {g : Int} (h : g ∈ gl gs) : idx gs g < gs.length := by
  have := List.idxOf_lt_length_of_mem h
  rwa [gl_len] at this
theorem gl_get {gs : List G} {k : Nat} (hk : k < gs.length) (h : k < (gl gs).length) : (gl gs)[k] = gs[k].gen := List.getElem_map G.gen
theorem atZ_in {gs : List G} {g : Int} (h : g ∈ gl gs) : atZ (gs.map G.gen) g = ((idx gs g : Nat) : Int) := if_pos h
theorem idx_gen {gs : List G} {g : Int} (h : g ∈ gl gs) : (gs[idx gs g]'(idx_lt h)).gen = g := by
  have h1 := List.idxOf_lt_length_of_mem h
  have h2 := List.getElem_idxOf h1
  have h3 : (gl gs)[(gl gs).idxOf g]'h1 = (gs[idx gs g]'(idx_lt h)).gen := gl_get (idx_lt h) h1
  exact h3.symm.trans h2
theorem mem_take {gs : List G} {g : Int} {n : Nat} (h : g ∈ gl (gs.take n)) : g ∈ gl gs ∧ idx gs g < n ∧ idx (gs.take n) g = idx gs g := by
  rw [gl_take] at h
  have h2 : g ∈ gl gs := List.mem_of_mem_take h
  have e : gl gs = (gl gs).take n ++ (gl gs).drop n := (List.take_append_drop _ _).symm
  have h3 : (gl gs).idxOf g = ((gl gs).take n).idxOf g := by
    conv => lhs; rw [e]
    rw [List.idxOf_append, if_pos h]
  have h4 := List.idxOf_lt_length_of_mem h
  refine ⟨h2, ?_, ?_⟩
  · unfold idx; rw [h3]; simp at h4; omega
  · unfold idx; rw [gl_take, h3]
theorem take_mem {gs : List G} {g : Int} {n : Nat} (h : g ∈ gl gs) (hn : idx gs g < n) : g ∈ gl (gs.take n) := by
  rw [gl_take]
  have h1 := List.idxOf_lt_length_of_mem h
  have h2 := List.getElem_idxOf h1
  rw [List.mem_iff_getElem]
  exact ⟨(gl gs).idxOf g, by rw [List.length_take]; exact Nat.lt_min.2 ⟨hn, h1⟩, by rw [List.getElem_take]; exact h2⟩
theorem basis_take {gs : List G} {g : Int} {n : Nat} (h : g ∈ gl (gs.take n)) : basisOf (gs.take n) g = basisOf gs g := by
  obtain ⟨h1, h2, h3⟩ := mem_take h
  unfold basisOf
  rw [h3]
  congr 1
  have hl := idx_lt h1
  simp [List.getD, h2]
theorem ok_up {gs : List G} (h : Ok gs) : Up (gl gs) := by
  have := chkTo_up (Nat.le_refl _) h
  rwa [List.take_length] at this
theorem chkAt_take {gs : List G} {n j : Nat} (hj : j < n) : chkAt (gs.take n) j = chkAt gs j := by
  have h1 : ∀ k, k < n → (gs.take n).getD k default = gs.getD k default := fun k hk => by simp [List.getD, hk]
  unfold chkAt
  rw [h1 j hj, h1 (j - 1) (by omega), List.take_take, Nat.min_eq_left (by omega)]
theorem ok_take {gs : List G} {n : Nat} (h : Ok gs) (hn : n ≤ gs.length) : Ok (gs.take n) := fun j hj => by
  rw [List.length_take] at hj
  have hj2 := Nat.lt_min.1 hj
  rw [chkAt_take hj2.1]; exact h j hj2.2
theorem ok_chk {gs : List G} (h : Ok gs) : chk gs = 0 := chk_ok h
theorem basis_step {gs : List G} (h : Ok gs) {g : Int} (hg : g ∈ gl gs) (hb : basisOf gs g ≠ g) : basisOf gs g ∈ gl (gs.take (idx gs g)) := by
  have h1 := (chk_facts (h _ (idx_lt hg))).2.2
  have h2 : (gs.getD (idx gs g) default).gen = g := by rw [getD_g (idx_lt hg)]; exact idx_gen hg
  rw [h2] at h1
  have h3 : (gs.getD (idx gs g) default).basis ≠ g := hb
  exact Classical.byContradiction fun hn => h1 ⟨h3, hn⟩
theorem basis_in {gs : List G} (h : Ok gs) {g : Int} (hg : g ∈ gl gs) (hb : basisOf gs g ≠ g) : basisOf gs g ∈ gl gs ∧ idx gs (basisOf gs g) < idx gs g := by
  obtain ⟨a, b, _⟩ := mem_take (basis_step h hg hb)
  exact ⟨a, b⟩
theorem roadF_fuel {gs : List G} (h : Ok gs) : ∀ (f f' : Nat) (g : Int), g ∈ gl gs → idx gs g < f → idx gs g < f' → roadF gs f g = roadF gs f' g := by
  intro f
  induction f with
  | zero => intro f' g _ h1; omega
  | succ f ih =>
    intro f' g hg h1 h2
    cases f' with
    | zero => omega
    | succ f' =>
      unfold roadF
      split
      · rfl
      · rename_i hb
        obtain ⟨a, b⟩ := basis_in h hg hb
        rw [ih f' _ a (by omega) (by omega)]
theorem roadF_len {gs : List G} (h : Ok gs) : ∀ (f : Nat) (g : Int), g ∈ gl gs → idx gs g < f → (roadF gs f g).length ≤ idx gs g + 1 := by
  intro f
  induction f with
  | zero => intro g _ h1; omega
  | succ f ih =>
    intro g hg h1
    unfold roadF
    split
    · simp
    · rename_i hb
      obtain ⟨a, b⟩ := basis_in h hg hb
      have := ih _ a (by omega)
      simp; omega
theorem roadL_eq {gs : List G} (h : Ok gs) {g : Int} (hg : g ∈ gl gs) : roadL gs g = if basisOf gs g = g then [g] else roadL gs (basisOf gs g) ++ [g] := by
  unfold roadL
  obtain ⟨n, hn⟩ : ∃ n, gs.length = n + 1 := ⟨gs.length - 1, by have := idx_lt hg; omega⟩
  conv => lhs; rw [hn]; unfold roadF
  split
  · rfl
  · rename_i hb
    obtain ⟨a, b⟩ := basis_in h hg hb
    have := idx_lt hg
    rw [roadF_fuel h n gs.length _ a (by omega) (idx_lt a)]
theorem roadL_len {gs : List G} (h : Ok gs) {g : Int} (hg : g ∈ gl gs) : (roadL gs g).length ≤ idx gs g + 1 := roadF_len h _ g hg (idx_lt hg)
theorem roadF_take {gs : List G} (h : Ok gs) {n : Nat} (hn : n ≤ gs.length) : ∀ (f : Nat) (g : Int), g ∈ gl (gs.take n) → roadF (gs.take n) f g = roadF gs f g := by
  intro f
  induction f with
  | zero => intro g _; rfl
  | succ f ih =>
    intro g hg
    unfold roadF
    rw [basis_take hg]
    split
    · rfl
    · rename_i hb
      obtain ⟨h1, h2, h3⟩ := mem_take hg
      obtain ⟨a, b⟩ := basis_in h h1 hb
      rw [ih _ (take_mem a (by omega))]
theorem roadL_take {gs : List G} (h : Ok gs) {n : Nat} (hn : n ≤ gs.length) {g : Int} (hg : g ∈ gl (gs.take n)) : roadL (gs.take n) g = roadL gs g := by
  obtain ⟨h1, h2, h3⟩ := mem_take hg
  unfold roadL
  rw [roadF_take h hn _ _ hg]
  exact roadF_fuel h _ _ g h1 (by rw [List.length_take]; exact Nat.lt_min.2 ⟨h2, idx_lt h1⟩) (idx_lt h1)

def roadE (gs : List G) (g : Int) : Int := if chk gs ≠ 0 then chk gs else if g ∉ gl gs then 8 else 0
def roadR (gs : List G) (g : Int) : List Int := if chk gs = 0 ∧ g ∈ gl gs then roadL gs g else []
def intV (l : List Int) : List Value := l.map (Value.int .i64)
theorem intV_len (l : List Int) : (intV l).length = l.length := by simp [intV]

set_option maxHeartbeats 2000000 in
theorem road_any (w : World) (ao : Option Addr) (len cap : Nat) (gs : List G) (g : Int) (hR : Rs w ao len cap 4 gs G.c) (hn : len ≤ 4096) :
    Calls Try.prog 20 #[.slice ao len cap, .int .i64 g] w fun e w' => ∃ v, e = .returned (.tuple #[v, .int .i64 (roadE gs g)]) ∧ w'.ownsRow w.heap.size 3 1 v (roadR gs g).length (intV (roadR gs g)) ∧ Below w.heap.size w w' := by
  obtain ⟨i0, hi, hz0, hz1, hz2⟩ := info_parts infoInt
  obtain ⟨E, hE⟩ : ∃ E, E = roadE gs g := ⟨_, rfl⟩
  obtain ⟨L, hL⟩ : ∃ L, L = roadR gs g := ⟨_, rfl⟩
  rw [← hE, ← hL]
  unfold roadE at hE
  unfold roadR at hL
  by_cases hc : chk gs = 0
  · have HOK : Hid (Ok gs) := Lib.hid (chk_all hc)
    have HC := Lib.hid hc
    by_cases hg : g ∈ gl gs
    · rw [if_neg (by simp [hc]), if_neg (by simp [hg])] at hE
      rw [if_pos ⟨hc, hg⟩] at hL
      subst hE
      have HL := Lib.hid hL
      clear hc hL
      go_enter Try.func20, Try.ntmps20
      go_wp2_with fail
      refine (check_any _ _ _ _ _ hR hn).mono ?_
      rintro e w1 ⟨rfl, hb1⟩
      rw [HC.out]
      go_wp2
      go_loopg [1, 7] (idx gs g) (fun m u v wr => ∃ (cur : Int) (done : List Int), u = .int .i64 cur ∧ cur ∈ gl gs ∧ m = idx gs cur ∧ L = roadL gs cur ++ done.reverse ∧ done.length + idx gs cur + 1 ≤ len ∧ wr.ownsRow w.heap.size 3 1 v done.length (intV done) ∧ Below w.heap.size w wr)
      case atStart => exact ⟨g, [], rfl, hg, rfl, by simp [HL.out], by have := idx_lt hg; have := hR.2.2.1; simp; omega, World.ownsRow_nil _ _ _ _, hb1⟩
      case round =>
        clear hb1 hg HL
        obtain ⟨cur, done, rfl, hcur, hm, hL, hlen, hO, hB⟩ := hrel
        have HLL := Lib.hid hR.2.2.1
        have hat : atZ (gs.map G.gen) cur = ((idx gs cur : Nat) : Int) := atZ_in hcur
        have hil := idx_lt hcur
        have hbo : basisOf gs cur = (gs[idx gs cur]'hil).basis := by unfold basisOf; rw [getD_g hil]
        have hrl := roadL_eq HOK.out hcur
        obtain ⟨b, off, rfl, hbw, hcc⟩ := rs_g hR (by have := HLL.out; omega)
        obtain ⟨-, c1, -, -⟩ := hcc _ hil
        rw [← hbo] at c1
        have hbi := basis_in HOK.out hcur
        obtain ⟨i, hie⟩ : ∃ i, i = idx gs cur := ⟨_, rfl⟩
        rw [← hie] at hat hil c1 hm hlen hbi
        obtain ⟨y, hy⟩ : ∃ y, y = basisOf gs cur := ⟨_, rfl⟩
        rw [← hy] at c1 hrl hbi
        have HAT := Lib.hid hat
        have HRL := Lib.hid hrl
        have HM := Lib.hid hm
        have HL := Lib.hid hL
        have HBI := Lib.hid hbi
        have hil2 : i < len := by rw [← HLL.out]; exact hil
        have i1 : (i : Int) < (len : Int) := by omega
        clear hat hbo hrl hcc hm hie hy hL hbi hil
        go_wp2_with fail
        refine (place_z _ _ _ _ _ _ _ (hR.below hB (Nat.le_refl _)) (by omega) (ok_up HOK.out) HAT.out.symm).mono ?_
        rintro e w2 ⟨rfl, hb2⟩
        have hO2 := owns_below hO hb2
        have hB2 := below_via hB hb2
        clear hO hB hb2
        go_wp2_with (at_builtin; refine wpList_append_own _ rfl _ _ 23 rfl w.heap.size 3 i0 (.int .i64 0) 1 8 Try.underlying23 hi hz0 hz1 hz2 rfl (by decide) _ _ _ rfl (hO2.alloc _) ⟨w2.heap.size, 0, none⟩ 1 1 [.int .i64 cur] rfl rfl (cell1_new _ _ _) (one1 _ rfl) (by unfold maxLen; omega) (by omega) (by simp; have := hB2.size; omega) ?_)
        intro v' w3 hO3 hg3 _
        have hO4 : w3.ownsRow w.heap.size 3 1 v' (done ++ [cur]).length (intV (done ++ [cur])) := by
          rw [List.length_append]; simpa [intV] using hO3
        have hB4 : Below w.heap.size w w3 := (hB2.alloc hB2.size _).grown hg3 (by simp; have := hB2.size; omega) (fun j hj => (World.ownsRow.lt hO2 j hj).1)
        have d1 := (hB4.cell (p := ⟨b, off + i * 4 + 1, none⟩) hbw).trans c1
        clear hO3 hg3 hO2 hB2 c1
        by_cases hyc : y = cur
        · have hL2 : L = (done ++ [cur]).reverse := by rw [HL.out, HRL.out, if_pos hyc]; simp
          have HL2 := Lib.hid hL2
          subst hyc
          clear hL2
          obtain ⟨D, hD⟩ : ∃ D, D = done ++ [y] := ⟨_, rfl⟩
          have hDl : D.length ≤ len := by rw [hD]; simp; omega
          rw [← hD] at hO4 HL2
          clear hD
          go_wp2_with fail
          refine (reverse_any _ _ _ _ D (by omega) rfl hO4).mono ?_
          rintro e w5 ⟨⟨r, rfl⟩, hO5, hg5⟩
          have hB5 : Below w.heap.size w w5 := hB4.grown hg5 hB4.size (fun j hj => (World.ownsRow.lt hO4 j hj).1)
          go_wp2
          go_ret2
          refine ⟨v', rfl, ?_, hB5⟩
          rw [HL2.out, List.length_reverse]
          exact hO5
        · have hL2 : L = roadL gs y ++ (done ++ [cur]).reverse := by rw [HL.out, HRL.out, if_neg hyc]; simp
          have HL2 := Lib.hid hL2
          obtain ⟨hy1, hy2⟩ := HBI.out hyc
          have HY1 := Lib.hid hy1
          have HY2 := Lib.hid hy2
          clear hL2 hy1 hy2
          go_wp2
          go_roundg (idx gs y)
          case measure => have := HM.out; have := HY2.out; omega
          case rel => exact ⟨y, done ++ [cur], rfl, HY1.out, rfl, HL2.out, by have := HY2.out; simp; omega, hO4, hB4⟩
    · rw [if_neg (by simp [hc]), if_pos hg] at hE
      rw [if_neg (by simp [hg])] at hL
      subst hE hL
      have hat : atZ (gs.map G.gen) g = -1 := atZ_none hg
      have HAT := Lib.hid hat
      clear hc hat hg
      go_enter Try.func20, Try.ntmps20
      go_wp2_with fail
      refine (check_any _ _ _ _ _ hR hn).mono ?_
      rintro e w1 ⟨rfl, hb1⟩
      rw [HC.out]
      go_wp2
      refine wp_loop_rounds 1 ?_
      rw [rounds_succ]
      go_wp2_with fail
      refine (place_z _ _ _ _ _ _ _ (hR.next hb1) (by omega) (ok_up HOK.out) HAT.out.symm).mono ?_
      rintro e w2 ⟨rfl, hb2⟩
      go_wp2
      go_ret2
      exact ⟨_, rfl, World.ownsRow_nil _ _ _ _, below_via hb1 hb2⟩
  · rw [if_pos hc] at hE
    rw [if_neg (by simp [hc])] at hL
    subst hL
    have hne : (E != 0) = true := by rw [hE]; simpa using hc
    have HE := Lib.hid hE
    clear hE hc
    go_enter Try.func20, Try.ntmps20
    go_wp2_with fail
    refine (check_any _ _ _ _ _ hR hn).mono ?_
    rintro e w1 ⟨rfl, hb1⟩
    rw [← HE.out]
    go_wp2
    go_ret2
    exact ⟨_, rfl, World.ownsRow_nil _ _ _ _, hb1⟩
end Go.Proofs.Ytoibbeiieelccaa
