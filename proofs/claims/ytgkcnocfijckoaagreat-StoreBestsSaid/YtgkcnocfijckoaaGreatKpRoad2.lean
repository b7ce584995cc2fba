/- The reference's Road; Cost. Conditions: as named in each theorem. -/
import Derived.Test.YtgkcnocfijckoaaGreatQQ
import Derived.Test.YtgkcnocfijckoaaGreatSG
import Derived.Deep.RegionHeld3
namespace Go.Proofs.YtgkcnocfijckoaaGreat
open Go.RowKit Sg
set_option linter.unusedVariables false
theorem ints_lit (w : World) (L : List Int) (h : L.length ≤ maxLen) : (w.alloc (.cells (intV L).toArray 3)).ownsRow w.heap.size 3 1 (.slice (some ⟨w.heap.size, 0, none⟩) L.length L.length) L.length (intV L) := by
  have := World.ownsRow_lit (base := w.heap.size) (e := 3) (size := 1) w (intV L).toArray L.length (Nat.le_refl _) h (by simp [intV])
  simpa using this
theorem roadF_mem {gs : List G} (h : Ok gs) : ∀ (f : Nat) (g : Int), g ∈ gl gs → ∀ x ∈ roadF gs f g, x ∈ gl gs := by
  intro f
  induction f with
  | zero => intro g _ x hx; simp [roadF] at hx
  | succ f ih =>
    intro g hg x hx
    unfold roadF at hx
    split at hx
    · simp at hx; rw [hx]; exact hg
    · rename_i hb
      obtain ⟨a, b⟩ := basis_in h hg hb
      rcases List.mem_append.1 hx with h1 | h1
      · exact ih _ a x h1
      · simp at h1; rw [h1]; exact hg
theorem roadR_mem {gs : List G} {g : Int} : ∀ x ∈ roadR gs g, x ∈ gl gs := by
  unfold roadR
  split
  · rename_i h
    exact roadF_mem (chk_all h.1) _ g h.2
  · intro x hx; simp at hx
theorem roadR_len {gs : List G} {g : Int} : (roadR gs g).length ≤ gs.length := by
  unfold roadR
  split
  · rename_i h
    have h1 := roadL_len (chk_all h.1) h.2
    have h2 := idx_lt h.2
    omega
  · simp
theorem roadE_ok {gs : List G} {g : Int} (h : roadE gs g = 0) : chk gs = 0 ∧ g ∈ gl gs := by
  unfold roadE at h
  by_cases hc : chk gs = 0
  · rw [if_neg (by simp [hc])] at h
    by_cases hg : g ∈ gl gs
    · exact ⟨hc, hg⟩
    · rw [if_pos hg] at h; cases h
  · rw [if_pos hc] at h; exact absurd h hc
set_option maxRecDepth 100000 in
set_option maxHeartbeats 4000000 in
theorem refRoad_any : ∀ (N : Nat) (w : World) (ao : Option Addr) (len cap : Nat) (gs : List G) (g : Int), len ≤ N → Rs w ao len cap 4 gs G.c → len ≤ 4096 →
    Calls Tryz.prog 22 #[.slice ao len cap, .int .i64 g] w fun e w' => ∃ v, e = .returned (.tuple #[v, .int .i64 (roadE gs g)]) ∧ w'.ownsRow w.heap.size 3 1 v (roadR gs g).length (intV (roadR gs g)) ∧ Below w.heap.size w w' := by
  intro N
  induction N with
  | zero =>
    intro w ao len cap gs g hN hR hn
    have hgs : gs = [] := List.eq_nil_of_length_eq_zero (by have := hR.2.2.1; omega)
    subst hgs
    have hE : roadE [] g = 8 := rfl
    have hL : roadR [] g = [] := rfl
    rw [hE, hL]
    clear hE hL
    go_enter Tryz.func22, Tryz.ntmps22
    go_wp2_with fail
    refine (refCheck_any _ _ _ _ _ hR hn).mono ?_
    rintro e w1 ⟨rfl, q, hw1⟩
    have hb1 : Below w.heap.size w w1 := by rw [hw1]; exact below_drewN' (Below.refl _ _) _
    rw [show chk [] = 0 from rfl]
    clear hw1
    go_wp2_with fail
    refine (at_z _ _ _ _ _ _ (-1) (hR.next hb1) (by omega) rfl).mono ?_
    rintro e w2 ⟨rfl, rfl⟩
    go_wp2
    go_ret2
    exact ⟨_, rfl, World.ownsRow_nil _ _ _ _, hb1⟩
  | succ N ih =>
    intro w ao len cap gs g hN hR hn
    obtain ⟨i0, hi, hz0, hz1, hz2⟩ := info_parts infoInt
    obtain ⟨E, hE⟩ : ∃ E, E = roadE gs g := ⟨_, rfl⟩
    obtain ⟨L, hL⟩ : ∃ L, L = roadR gs g := ⟨_, rfl⟩
    rw [← hE, ← hL]
    unfold roadE at hE
    unfold roadR at hL
    by_cases hc : chk gs = 0
    · have HOK : Hid (Ok gs) := Lib.hid (chk_all hc)
      have HC := Lib.hid hc
      by_cases hg : g ∈ gl gs
      · rw [if_neg (by simp [hc]), if_neg (by simp [hg])] at hE
        rw [if_pos ⟨hc, hg⟩] at hL
        subst hE
        have HL := Lib.hid hL
        have hat := atZ_in hg
        have hil := idx_lt hg
        have hbo : basisOf gs g = (gs[idx gs g]'hil).basis := by unfold basisOf; rw [getD_g hil]
        have hrl := roadL_eq HOK.out hg
        have hbs := basis_step HOK.out hg
        obtain ⟨b, off, rfl, hbw, hcc⟩ := rs_g hR (by have := hR.2.2.1; omega)
        obtain ⟨-, c1, -, -⟩ := hcc _ hil
        rw [← hbo] at c1
        obtain ⟨i, hie⟩ : ∃ i, i = idx gs g := ⟨_, rfl⟩
        rw [← hie] at hat hil c1 hbs
        have hlen : gs.length = len := hR.2.2.1
        have hil2 : i < len := by omega
        have i1 : (i : Int) < (len : Int) := by omega
        have hcap := hR.1
        have i2 : (i : Int) ≤ (cap : Int) := by omega
        have i3 : i ≤ cap := by omega
        obtain ⟨y, hy⟩ : ∃ y, y = basisOf gs g := ⟨_, rfl⟩
        rw [← hy] at c1 hrl hbs
        have HAT := Lib.hid hat
        have HRL := Lib.hid hrl
        have HBS := Lib.hid hbs
        have HRT := Lib.hid (hR.take (m := i) (by omega))
        have HIL := Lib.hid hil
        clear hc hg hL hat hbo hrl hbs hcc hie hlen hcap hil hy
        by_cases hyg : y = g
        · have hLL : L = [g] := by rw [HL.out, HRL.out, if_pos hyg]
          subst hLL
          subst hyg
          have hI := fun w1 : World => ints_lit w1 [y] (show 1 ≤ maxLen by decide)
          go_enter Tryz.func22, Tryz.ntmps22
          go_wp2_with fail
          refine (refCheck_any _ _ _ _ _ hR hn).mono ?_
          rintro e w1 ⟨rfl, q, hw1⟩
          have hb1 : Below w.heap.size w w1 := by rw [hw1]; exact below_drewN' (Below.refl _ _) _
          have d1 : w1.cell? ⟨b, off + i * 4 + 1, none⟩ = some (.int .i64 y) := by rw [hw1]; exact c1
          rw [HC.out]
          clear hw1 c1
          go_wp2_with fail
          refine (at_z _ _ _ _ _ _ _ (hR.next hb1) (by omega) HAT.out.symm).mono ?_
          rintro e w2 ⟨rfl, rfl⟩
          go_wp2
          go_ret2
          exact ⟨_, rfl, owns_mono (hI w1) hb1.size, hb1.alloc hb1.size _⟩
        · have hin := HBS.out hyg
          have hLL : L = roadL gs y ++ [g] := by rw [HL.out, HRL.out, if_neg hyg]
          have hrt := roadL_take HOK.out (Nat.le_of_lt HIL.out) hin
          have hchk : chk (gs.take i) = 0 := ok_chk (ok_take HOK.out (Nat.le_of_lt HIL.out))
          have hRR : roadR (gs.take i) y = roadL gs y := by unfold roadR; rw [if_pos ⟨hchk, hin⟩, hrt]
          have hRE : roadE (gs.take i) y = 0 := by unfold roadE; rw [if_neg (by simp [hchk]), if_neg (by simp [hin])]
          have hlenR : (roadL gs y).length ≤ 1000000 := by
            have h1 := roadR_len (gs := gs.take i) (g := y)
            rw [hRR] at h1
            have := List.length_take_le i gs
            omega
          obtain ⟨A, hA⟩ : ∃ A, A = roadL gs y := ⟨_, rfl⟩
          rw [← hA] at hLL hRR hlenR
          have HLL := Lib.hid hLL
          have HRR := Lib.hid hRR
          have HRE := Lib.hid hRE
          have hbne : (y == g) = false := by simpa using hyg
          clear hin hLL hrt hchk hRR hRE hA hyg HL
          go_enter Tryz.func22, Tryz.ntmps22
          go_wp2_with fail
          refine (refCheck_any _ _ _ _ _ hR hn).mono ?_
          rintro e w1 ⟨rfl, q, hw1⟩
          have hb1 : Below w.heap.size w w1 := by rw [hw1]; exact below_drewN' (Below.refl _ _) _
          have d1 : w1.cell? ⟨b, off + i * 4 + 1, none⟩ = some (.int .i64 y) := by rw [hw1]; exact c1
          rw [HC.out]
          clear hw1 c1
          go_wp2_with fail
          refine (at_z _ _ _ _ _ _ _ (hR.next hb1) (by omega) HAT.out.symm).mono ?_
          rintro e w2 ⟨rfl, rfl⟩
          go_wp2
          have hbw1 : b < w1.heap.size := Nat.lt_of_lt_of_le hbw hb1.size
          have H : ∀ a1 a2 : World, Below a1.heap.size a1 a2 → (a1.cell? ⟨b, off + i * 4 + 1, none⟩ = some (.int .i64 y) ∧ Below w1.heap.size w1 a1) → (a2.cell? ⟨b, off + i * 4 + 1, none⟩ = some (.int .i64 y) ∧ Below w1.heap.size w1 a2) :=
            fun a1 a2 hb h => ⟨(hb.cell (p := ⟨b, off + i * 4 + 1, none⟩) (Nat.lt_of_lt_of_le hbw1 h.2.size)).trans h.1, bl_nx h.2 hb⟩
          have hS0 : w1.drew.cell? ⟨b, off + i * 4 + 1, none⟩ = some (.int .i64 y) ∧ Below w1.heap.size w1 w1.drew := ⟨d1, (Below.refl _ _).drew⟩
          go_region_held3 (fun w' => w'.cell? ⟨b, off + i * 4 + 1, none⟩ = some (.int .i64 y) ∧ Below w1.heap.size w1 w')
            (first | assumption | go_keep)
            (first | (go_at_call 22; refine (ih _ _ _ _ _ _ (by omega) (HRT.out.next (bl_nx hb1 (And.right (by assumption : _ ∧ Below w1.heap.size w1 _)))) (by omega)).mono ?_; rintro e w4 ⟨v, rfl, hO4, hb4⟩; have hS2 := H _ _ hb4 (by assumption)))
          obtain ⟨_, hBW⟩ := hS2
          rw [HRR.out] at hO4
          have hO5 : w4.ownsRow w.heap.size 3 1 v A.length (intV A) := owns_mono hO4 (by have h1 := hb1.size; simp; omega)
          have hB5 := bl_nx hb1 hBW
          have hS5 := hB5.size
          clear hO4 hBW H hS0 d1
          go_wp2_with (at_builtin; refine wpList_append_own _ rfl _ _ 49 rfl w.heap.size 3 i0 (.int .i64 0) 1 8 Tryz.underlying49 hi hz0 hz1 hz2 rfl (by decide) _ _ _ rfl (hO5.alloc _) ⟨w4.heap.size, 0, none⟩ 1 1 [.int .i64 g] rfl rfl (cell1_new _ _ _) (one1 _ rfl) (by unfold maxLen; omega) (by omega) (by simp; omega) ?_)
          intro v' w5 hO6 hg6 _
          have hO7 : w5.ownsRow w.heap.size 3 1 v' L.length (intV L) := by
            rw [HLL.out, List.length_append]; simpa [intV] using hO6
          have hB7 : Below w.heap.size w w5 := (hB5.alloc hS5 _).grown hg6 (by simp; omega) (fun j hj => (World.ownsRow.lt hO5 j hj).1)
          go_wp2
          go_ret2
          exact ⟨_, rfl, hO7, hB7⟩
      · rw [if_neg (by simp [hc]), if_pos hg] at hE
        rw [if_neg (by simp [hg])] at hL
        subst hE hL
        have hat : atZ (gs.map G.gen) g = -1 := atZ_none hg
        have HAT := Lib.hid hat
        clear hc hat hg
        go_enter Tryz.func22, Tryz.ntmps22
        go_wp2_with fail
        refine (refCheck_any _ _ _ _ _ hR hn).mono ?_
        rintro e w1 ⟨rfl, q, hw1⟩
        have hb1 : Below w.heap.size w w1 := by rw [hw1]; exact below_drewN' (Below.refl _ _) _
        rw [HC.out]
        clear hw1
        go_wp2_with fail
        refine (at_z _ _ _ _ _ _ _ (hR.next hb1) (by omega) HAT.out.symm).mono ?_
        rintro e w2 ⟨rfl, rfl⟩
        go_wp2
        go_ret2
        exact ⟨_, rfl, World.ownsRow_nil _ _ _ _, hb1⟩
    · rw [if_pos hc] at hE
      rw [if_neg (by simp [hc])] at hL
      subst hL
      have hne : (E != 0) = true := by rw [hE]; simpa using hc
      have HE := Lib.hid hE
      clear hE hc
      go_enter Tryz.func22, Tryz.ntmps22
      go_wp2_with fail
      refine (refCheck_any _ _ _ _ _ hR hn).mono ?_
      rintro e w1 ⟨rfl, q, hw1⟩
      have hb1 : Below w.heap.size w w1 := by rw [hw1]; exact below_drewN' (Below.refl _ _) _
      rw [← HE.out]
      clear hw1
      go_wp2
      go_ret2
      exact ⟨_, rfl, World.ownsRow_nil _ _ _ _, hb1⟩
end Go.Proofs.YtgkcnocfijckoaaGreat
