/- Check, and the reference's Check: the same word. Conditions: as named in each theorem. -/
import Derived.Test.YtgkcnocfijckoaaGreatDlCore
import Derived.Test.YtgkcnocfijckoaaGreatQG
import Derived.BigQuiet
import Derived.Deep.RegionHeld3
namespace Go.Proofs.YtgkcnocfijckoaaGreat
open Go.RowKit
set_option linter.unusedVariables false
/-- what is wrong with the generation at a place, when nothing is wrong ahead of it -/
def chkAt (gs : List G) (k : Nat) : Int :=
  if (gs.getD k default).gen < 0 ∨ (gs.getD k default).bytes < 0 ∨ 524288 < (gs.getD k default).bytes then 2
  else if 0 < k ∧ (gs.getD k default).gen ≤ (gs.getD (k - 1) default).gen then 12
  else if (gs.getD k default).basis ≠ (gs.getD k default).gen ∧ (gs.getD k default).basis ∉ (gs.take k).map G.gen then 13 else 0
def chkTo (gs : List G) (k : Nat) : Prop := ∀ j, j < k → chkAt gs j = 0
def chk (gs : List G) : Int := (((List.range gs.length).map (chkAt gs)).find? (fun e => decide (e ≠ 0))).getD 0
theorem chk_ok {gs : List G} (h : chkTo gs gs.length) : chk gs = 0 := by
  unfold chk
  rw [List.find?_eq_none.2]; rfl
  intro e he
  simp only [List.mem_map, List.mem_range] at he
  obtain ⟨j, hj, rfl⟩ := he
  simp [h j hj]
theorem chk_at {gs : List G} {k : Nat} {e : Int} (hk : k < gs.length) (h : chkTo gs k) (he : chkAt gs k = e) (h0 : e ≠ 0) : chk gs = e := by
  unfold chk
  have h1 : (List.range gs.length).map (chkAt gs) = (List.range k).map (chkAt gs) ++ (e :: ((List.range gs.length).map (chkAt gs)).drop (k + 1)) := by
    have h2 : (List.range gs.length).map (chkAt gs) = ((List.range gs.length).map (chkAt gs)).take (k + 1) ++ ((List.range gs.length).map (chkAt gs)).drop (k + 1) := (List.take_append_drop _ _).symm
    have h3 : ((List.range gs.length).map (chkAt gs)).take (k + 1) = (List.range k).map (chkAt gs) ++ [e] := by
      rw [List.take_succ_eq_append_getElem (by simpa using hk)]
      rw [← List.map_take, List.take_range, Nat.min_eq_left (by omega)]
      simp [he]
    rw [h3] at h2
    exact h2.trans (by simp)
  rw [h1, List.find?_append, List.find?_eq_none.2 (by
    intro x hx
    simp only [List.mem_map, List.mem_range] at hx
    obtain ⟨j, hj, rfl⟩ := hx
    simp [h j hj])]
  simp [h0]
theorem chk_all {gs : List G} (h : chk gs = 0) : chkTo gs gs.length := by
  unfold chk at h
  intro j hj
  cases hf : ((List.range gs.length).map (chkAt gs)).find? (fun e => decide (e ≠ 0)) with
  | none =>
    have := List.find?_eq_none.1 hf (chkAt gs j) (by simp only [List.mem_map, List.mem_range]; exact ⟨j, hj, rfl⟩)
    simpa using this
  | some e =>
    rw [hf] at h
    have := List.find?_some hf
    simp only [Option.getD_some] at h
    simp [h] at this
theorem chkTo_succ {gs : List G} {k : Nat} (h : chkTo gs k) (he : chkAt gs k = 0) : chkTo gs (k + 1) := fun j hj => by
  rcases Nat.lt_succ_iff_lt_or_eq.1 hj with h1 | h1
  · exact h j h1
  · rw [h1]; exact he
theorem getD_g {gs : List G} {k : Nat} (hk : k < gs.length) : gs.getD k default = gs[k] := by simp [List.getD, hk]
theorem chk_facts {gs : List G} {k : Nat} (h : chkAt gs k = 0) : ¬ ((gs.getD k default).gen < 0 ∨ (gs.getD k default).bytes < 0 ∨ 524288 < (gs.getD k default).bytes) ∧ ¬ (0 < k ∧ (gs.getD k default).gen ≤ (gs.getD (k - 1) default).gen) ∧ ¬ ((gs.getD k default).basis ≠ (gs.getD k default).gen ∧ (gs.getD k default).basis ∉ (gs.take k).map G.gen) := by
  unfold chkAt at h
  split at h
  · simp at h
  · split at h
    · simp at h
    · split at h
      · simp at h
      · exact ⟨by assumption, by assumption, by assumption⟩
theorem dn3 (w : World) (a b c : Nat) : ∃ m, ((w.drewN a).drewN b).drewN c = w.drewN m := ⟨a + b + c, by simp⟩
theorem quiet_eq2 {P : Program} {f : FuncId} {args : Array Value} {w : World} {c x : Nat} {v : Value}
    (h : Calls P f args (w.drewN (c + x)) fun e w' => e = .returned v ∧ w.drewN (c + x) = w') : Calls P f args (w.drewN (c + x)) fun e w'' => e = .returned v ∧ ∃ n, w'' = w.drewN (c + n) :=
  h.mono fun _ _ ⟨he, hm⟩ => ⟨he, x, hm.symm⟩
theorem at_z (w : World) (ao : Option Addr) (len cap : Nat) (gs : List G) (g z : Int) (hR : Rs w ao len cap 4 gs G.c) (hn : len ≤ 1000000) (hz : z = atZ (gs.map G.gen) g) :
    Calls Tryz.prog 52 #[.slice ao len cap, .int .i64 g] w fun e w' => e = .returned (.int .i64 z) ∧ w = w' := by
  rw [hz]; exact at_any w ao len cap gs g hR hn
def Rng (x : G) : Prop := x.gen < 0 ∨ x.bytes < 0 ∨ 524288 < x.bytes
theorem chkAt_rng {gs : List G} {k : Nat} {x : G} (h : gs.getD k default = x) (h1 : Rng x) : chkAt gs k = 2 := by subst h; exact if_pos h1
theorem chkAt_ord {gs : List G} {k : Nat} {x : G} (h : gs.getD k default = x) (h1 : ¬ Rng x) (h2 : 0 < k ∧ x.gen ≤ (gs.getD (k - 1) default).gen) : chkAt gs k = 12 := by
  subst h
  have h1' : ¬ ((gs.getD k default).gen < 0 ∨ (gs.getD k default).bytes < 0 ∨ 524288 < (gs.getD k default).bytes) := h1
  unfold chkAt
  rw [if_neg h1', if_pos h2]
theorem chkAt_bas {gs : List G} {k : Nat} {x : G} (h : gs.getD k default = x) (h1 : ¬ Rng x) (h2 : ¬ (0 < k ∧ x.gen ≤ (gs.getD (k - 1) default).gen)) (h3 : x.basis ≠ x.gen) (h4 : x.basis ∉ (gs.take k).map G.gen) : chkAt gs k = 13 := by
  subst h
  have h1' : ¬ ((gs.getD k default).gen < 0 ∨ (gs.getD k default).bytes < 0 ∨ 524288 < (gs.getD k default).bytes) := h1
  unfold chkAt
  rw [if_neg h1', if_neg h2, if_pos ⟨h3, h4⟩]
theorem chkAt_zero {gs : List G} {k : Nat} {x : G} (h : gs.getD k default = x) (h1 : ¬ Rng x) (h2 : ¬ (0 < k ∧ x.gen ≤ (gs.getD (k - 1) default).gen)) (h3 : x.basis = x.gen ∨ x.basis ∈ (gs.take k).map G.gen) : chkAt gs k = 0 := by
  subst h
  have h1' : ¬ ((gs.getD k default).gen < 0 ∨ (gs.getD k default).bytes < 0 ∨ 524288 < (gs.getD k default).bytes) := h1
  unfold chkAt
  rw [if_neg h1', if_neg h2, if_neg (by rintro ⟨a, b⟩; exact h3.elim a b)]
theorem chkTo_up {gs : List G} {k : Nat} (hk : k ≤ gs.length) (h : chkTo gs k) : Up ((gs.take k).map G.gen) := by
  have step : ∀ i, i + 1 < k → (gs.getD i default).gen < (gs.getD (i + 1) default).gen := fun i hi => by
    have := (chk_facts (h (i + 1) hi)).2.1
    simp only [Nat.add_sub_cancel] at this
    omega
  have far : ∀ d i, i + d + 1 < k → (gs.getD i default).gen < (gs.getD (i + d + 1) default).gen := by
    intro d
    induction d with
    | zero => intro i hi; exact step i hi
    | succ d ih => intro i hi; exact Int.lt_trans (ih i (by omega)) (step (i + d + 1) (by omega))
  intro i j hi hj hij
  simp only [List.length_map, List.length_take] at hi hj
  have h1 := far (j - i - 1) i (by omega)
  rw [show i + (j - i - 1) + 1 = j by omega, getD_g (by omega), getD_g (by omega)] at h1
  simpa using h1
set_option maxHeartbeats 4000000 in
set_option maxRecDepth 100000 in
theorem refCheck_any (w : World) (ao : Option Addr) (len cap : Nat) (gs : List G) (hR : Rs w ao len cap 4 gs G.c) (hn : len ≤ 4096) :
    Calls Tryz.prog 29 #[.slice ao len cap] w fun e w' => e = .returned (.int .i64 (chk gs)) ∧ ∃ m, w' = w.drewN m := by
  have HL := Lib.hid hR.2.2.1
  have HCAP := Lib.hid hR.1
  go_enter Tryz.func29, Tryz.ntmps29
  go_wp2
  go_loopw [3] (fun i wr => ∃ k : Nat, k ≤ len ∧ i = .int .i64 k ∧ chkTo gs k ∧ ∃ m, wr = w.drewN m) (fun i _ => len - (intOf i).toNat)
  case atStart => exact ⟨0, by omega, rfl, fun j hj => by omega, 0, rfl⟩
  case round =>
    obtain ⟨k, hk, rfl, hcc, m, rfl⟩ := hrel
    have HC := Lib.hid hcc
    clear hcc
    by_cases hlt : k < len
    · obtain ⟨b, off, rfl, hbw, hc⟩ := rs_g hR (by omega)
      clear hbw
      rcases k with _ | j
      · have hks : 0 < gs.length := by rw [HL.out]; exact hlt
        obtain ⟨d0, d1, d2, d3⟩ := hc (0) hks
        have hgk : gs.getD (0) default = gs[0] := getD_g hks
        obtain ⟨x, hx⟩ : ∃ x, x = gs[0] := ⟨_, rfl⟩
        rw [← hx] at d0 d1 d2 d3 hgk
        have HGK := Lib.hid hgk
        have HKS := Lib.hid hks
        have i1 : ((0 : Nat) : Int) < (len : Int) := by omega
        have i2 : ((0 : Nat) : Int) ≤ (cap : Int) := by have := HCAP.out; omega
        have i3 : 0 ≤ cap := by have := HCAP.out; omega
        have HRT := Lib.hid ((hR.take (m := 0) (by omega)).next (below_drewN' (Below.refl _ w) m))
        clear hgk hx d3 hks
        clear hc
        simp only [Nat.zero_mul, Nat.add_zero] at d0 d1 d2
        by_cases hA : x.gen < 0
        · have q : ((2 : Int)) = chk gs := (chk_at HKS.out HC.out (chkAt_rng HGK.out (.inl hA)) (by decide)).symm
          have HQ := Lib.hid q
          clear q
          go_wp2
          go_ret
          exact ⟨ret_v (int_v HQ.out), by first | exact ⟨_, rfl⟩ | exact dn2 _ _ _ | exact dn3 _ _ _ _⟩
        · by_cases hB : x.bytes < 0
          · have q : ((2 : Int)) = chk gs := (chk_at HKS.out HC.out (chkAt_rng HGK.out (.inr (.inl hB))) (by decide)).symm
            have HQ := Lib.hid q
            clear q
            go_wp2
            go_ret
            exact ⟨ret_v (int_v HQ.out), by first | exact ⟨_, rfl⟩ | exact dn2 _ _ _ | exact dn3 _ _ _ _⟩
          · by_cases hC : 524288 < x.bytes
            · have q : ((2 : Int)) = chk gs := (chk_at HKS.out HC.out (chkAt_rng HGK.out (.inr (.inr hC))) (by decide)).symm
              have HQ := Lib.hid q
              clear q
              go_wp2
              go_ret
              exact ⟨ret_v (int_v HQ.out), by first | exact ⟨_, rfl⟩ | exact dn2 _ _ _ | exact dn3 _ _ _ _⟩
            · have nrng : ¬ Rng x := by unfold Rng; omega
              have NRNG := Lib.hid nrng
              clear nrng
              have nord : ¬ (0 < 0 ∧ x.gen ≤ (gs.getD (0 - 1) default).gen) := by omega
              have NORD := Lib.hid nord
              clear nord
              by_cases he : x.basis = x.gen
              · have hz : chkAt gs 0 = 0 := chkAt_zero HGK.out NRNG.out NORD.out (.inl he)
                have HZ := Lib.hid hz
                clear hz
                go_wp2
                go_quiet (fail)
                go_wp2
                go_quiet (fail)
                go_wp2
                go_roundw
                case rel => exact ⟨0 + 1, by omega, by go_num, chkTo_succ HC.out HZ.out, by first | exact ⟨_, rfl⟩ | exact dn2 _ _ _ | exact dn3 _ _ _ _⟩
                case measure => simp [intOf]; omega
              · by_cases hin : x.basis ∈ (gs.take 0).map G.gen
                · exact absurd hin (by simp)
                · have hz : chk gs = 13 := chk_at HKS.out HC.out (chkAt_bas HGK.out NRNG.out NORD.out he hin) (by decide)
                  have HZ := Lib.hid hz
                  have hat : atZ ((gs.take 0).map G.gen) x.basis < 0 := by rw [atZ_neg]; exact hin
                  obtain ⟨z, hzz⟩ : ∃ z, z = atZ ((gs.take 0).map G.gen) x.basis := ⟨_, rfl⟩
                  rw [← hzz] at hat
                  have HZZ := Lib.hid hzz
                  clear hz hin hzz
                  have hbn : (x.basis != x.gen) = true := by simp; exact he
                  go_wp2
                  go_quiet (fail)
                  go_wp2
                  go_quiet ((go_at_call 52; exact quiet_eq2 (at_z _ _ _ _ _ _ _ (HRT.out) (by omega) HZZ.out)))
                  go_wp2
                  go_ret
                  exact ⟨ret_v (int_v HZ.out.symm), by first | exact ⟨_, rfl⟩ | exact dn2 _ _ _ | exact dn3 _ _ _ _⟩
      · have hks : j + 1 < gs.length := by rw [HL.out]; exact hlt
        obtain ⟨d0, d1, d2, d3⟩ := hc (j + 1) hks
        have hgk : gs.getD (j + 1) default = gs[j + 1] := getD_g hks
        obtain ⟨x, hx⟩ : ∃ x, x = gs[j + 1] := ⟨_, rfl⟩
        rw [← hx] at d0 d1 d2 d3 hgk
        have HGK := Lib.hid hgk
        have HKS := Lib.hid hks
        have i1 : ((j + 1 : Nat) : Int) < (len : Int) := by omega
        have i2 : ((j + 1 : Nat) : Int) ≤ (cap : Int) := by have := HCAP.out; omega
        have i3 : j + 1 ≤ cap := by have := HCAP.out; omega
        have HRT := Lib.hid ((hR.take (m := j + 1) (by omega)).next (below_drewN' (Below.refl _ w) m))
        clear hgk hx d3 hks
        have hj : j < gs.length := by rw [HL.out]; omega
        obtain ⟨f0, -, -, -⟩ := hc j hj
        have hgj : gs.getD j default = gs[j] := getD_g hj
        obtain ⟨y, hy⟩ : ∃ y, y = gs[j] := ⟨_, rfl⟩
        rw [← hy] at f0 hgj
        have HGJ := Lib.hid hgj
        have i4 : (j : Int) < (len : Int) := by omega
        have i5 : IntKind.i64.wrap ((j : Int) + 1 - 1) = (j : Int) := by rw [IntWalk.i64_in _ (by omega)]; omega
        clear hy hgj hj hc
        by_cases hA : x.gen < 0
        · have q : ((2 : Int)) = chk gs := (chk_at HKS.out HC.out (chkAt_rng HGK.out (.inl hA)) (by decide)).symm
          have HQ := Lib.hid q
          clear q
          go_wp2
          go_ret
          exact ⟨ret_v (int_v HQ.out), by first | exact ⟨_, rfl⟩ | exact dn2 _ _ _ | exact dn3 _ _ _ _⟩
        · by_cases hB : x.bytes < 0
          · have q : ((2 : Int)) = chk gs := (chk_at HKS.out HC.out (chkAt_rng HGK.out (.inr (.inl hB))) (by decide)).symm
            have HQ := Lib.hid q
            clear q
            go_wp2
            go_ret
            exact ⟨ret_v (int_v HQ.out), by first | exact ⟨_, rfl⟩ | exact dn2 _ _ _ | exact dn3 _ _ _ _⟩
          · by_cases hC : 524288 < x.bytes
            · have q : ((2 : Int)) = chk gs := (chk_at HKS.out HC.out (chkAt_rng HGK.out (.inr (.inr hC))) (by decide)).symm
              have HQ := Lib.hid q
              clear q
              go_wp2
              go_ret
              exact ⟨ret_v (int_v HQ.out), by first | exact ⟨_, rfl⟩ | exact dn2 _ _ _ | exact dn3 _ _ _ _⟩
            · have nrng : ¬ Rng x := by unfold Rng; omega
              have NRNG := Lib.hid nrng
              clear nrng
              by_cases hD : x.gen ≤ y.gen
              · have hz : chk gs = 12 := chk_at HKS.out HC.out (chkAt_ord HGK.out NRNG.out ⟨by omega, by rw [Nat.add_sub_cancel, HGJ.out]; exact hD⟩) (by decide)
                have HZ := Lib.hid hz
                clear hz
                go_wp2
                go_quiet (fail)
                go_wp2
                go_ret
                exact ⟨ret_v (int_v HZ.out.symm), by first | exact ⟨_, rfl⟩ | exact dn2 _ _ _ | exact dn3 _ _ _ _⟩
              · have hDd : decide (x.gen ≤ y.gen) = false := by simp; omega
                have nord : ¬ (0 < (j + 1) ∧ x.gen ≤ (gs.getD ((j + 1) - 1) default).gen) := by rw [Nat.add_sub_cancel, HGJ.out]; omega
                have NORD := Lib.hid nord
                clear nord
                by_cases he : x.basis = x.gen
                · have hz : chkAt gs (j + 1) = 0 := chkAt_zero HGK.out NRNG.out NORD.out (.inl he)
                  have HZ := Lib.hid hz
                  clear hz
                  go_wp2
                  go_quiet (fail)
                  go_wp2
                  go_quiet (fail)
                  go_wp2
                  go_roundw
                  case rel => exact ⟨(j + 1) + 1, by omega, by go_num, chkTo_succ HC.out HZ.out, by first | exact ⟨_, rfl⟩ | exact dn2 _ _ _ | exact dn3 _ _ _ _⟩
                  case measure => simp [intOf]; omega
                · by_cases hin : x.basis ∈ (gs.take (j + 1)).map G.gen
                  · have hz : chkAt gs (j + 1) = 0 := chkAt_zero HGK.out NRNG.out NORD.out (.inr hin)
                    have HZ := Lib.hid hz
                    have hat : ¬ atZ ((gs.take (j + 1)).map G.gen) x.basis < 0 := by rw [atZ_neg]; exact fun h => h hin
                    obtain ⟨z, hzz⟩ : ∃ z, z = atZ ((gs.take (j + 1)).map G.gen) x.basis := ⟨_, rfl⟩
                    rw [← hzz] at hat
                    have HZZ := Lib.hid hzz
                    clear hz hin hzz
                    have hbn : (x.basis != x.gen) = true := by simp; exact he
                    go_wp2
                    go_quiet (fail)
                    go_wp2
                    go_quiet ((go_at_call 52; exact quiet_eq2 (at_z _ _ _ _ _ _ _ (HRT.out) (by omega) HZZ.out)))
                    go_wp2
                    go_roundw
                    case rel => exact ⟨(j + 1) + 1, by omega, by go_num, chkTo_succ HC.out HZ.out, by first | exact ⟨_, rfl⟩ | exact dn2 _ _ _ | exact dn3 _ _ _ _⟩
                    case measure => simp [intOf]; omega
                  · have hz : chk gs = 13 := chk_at HKS.out HC.out (chkAt_bas HGK.out NRNG.out NORD.out he hin) (by decide)
                    have HZ := Lib.hid hz
                    have hat : atZ ((gs.take (j + 1)).map G.gen) x.basis < 0 := by rw [atZ_neg]; exact hin
                    obtain ⟨z, hzz⟩ : ∃ z, z = atZ ((gs.take (j + 1)).map G.gen) x.basis := ⟨_, rfl⟩
                    rw [← hzz] at hat
                    have HZZ := Lib.hid hzz
                    clear hz hin hzz
                    have hbn : (x.basis != x.gen) = true := by simp; exact he
                    go_wp2
                    go_quiet (fail)
                    go_wp2
                    go_quiet ((go_at_call 52; exact quiet_eq2 (at_z _ _ _ _ _ _ _ (HRT.out) (by omega) HZZ.out)))
                    go_wp2
                    go_ret
                    exact ⟨ret_v (int_v HZ.out.symm), by first | exact ⟨_, rfl⟩ | exact dn2 _ _ _ | exact dn3 _ _ _ _⟩
    · have hkk : k = gs.length := by rw [HL.out]; omega
      have hz : chk gs = 0 := chk_ok (by rw [← hkk]; exact HC.out)
      have HZ := Lib.hid hz
      clear hz hkk
      go_wp2
      go_ret
      exact ⟨ret_v (int_v HZ.out.symm), by first | exact ⟨_, rfl⟩ | exact dn2 _ _ _ | exact dn3 _ _ _ _⟩
end Go.Proofs.YtgkcnocfijckoaaGreat
namespace Go.Proofs.YtgkcnocfijckoaaGreat
open Go.RowKit
set_option linter.unusedVariables false
theorem genZ_run (w : World) : (zeroValue 48).run Tryz.prog w = .ok (.agg #[.int .i64 0, .int .i64 0, .int .i64 0, .string ByteArray.empty]) w := by kernel_rfl
theorem place_z (w : World) (ao : Option Addr) (len cap : Nat) (gs : List G) (n z : Int) (hR : Rs w ao len cap 4 gs G.c) (hn : len ≤ 1000000) (hU : Up (gs.map G.gen)) (hz : z = atZ (gs.map G.gen) n) :
    Calls Tryz.prog 80 #[.slice ao len cap, .int .i64 n] w fun e w' => e = .returned (.int .i64 z) ∧ Below w.heap.size w w' := by
  rw [hz]; exact place_any w ao len cap gs n hR hn hU
theorem kpBelow_via {a w w' : World} (h : Below a.heap.size a w) (h2 : Below w.heap.size w w') : Below a.heap.size a w' := h.trans (h2.mono h.size)
set_option maxHeartbeats 4000000 in
set_option maxRecDepth 100000 in
theorem check_any (w : World) (ao : Option Addr) (len cap : Nat) (gs : List G) (hR : Rs w ao len cap 4 gs G.c) (hn : len ≤ 4096) :
    Calls Tryz.prog 79 #[.slice ao len cap] w fun e w' => e = .returned (.int .i64 (chk gs)) ∧ Below w.heap.size w w' := by
  have HL := Lib.hid hR.2.2.1
  have HCAP := Lib.hid hR.1
  have hz := genZ_run
  go_enter Tryz.func79, Tryz.ntmps79
  go_wp2
  go_loopw [10] (fun i wr => ∃ k : Nat, k ≤ len ∧ i = .int .i64 k ∧ chkTo gs k ∧ Below w.heap.size w wr) (fun i _ => len - (intOf i).toNat)
  case atStart => exact ⟨0, by omega, rfl, fun j hj => by omega, Below.refl _ _⟩
  case round =>
    obtain ⟨k, hk, rfl, hcc, hB⟩ := hrel
    have HC := Lib.hid hcc
    clear hcc
    by_cases hlt : k < len
    · obtain ⟨b, off, rfl, hbw, hc⟩ := rs_g hR (by omega)
      rcases k with _ | j
      · have hks : 0 < gs.length := by rw [HL.out]; exact hlt
        obtain ⟨c0, c1, c2, c3⟩ := hc (0) hks
        have hgk : gs.getD (0) default = gs[0] := getD_g hks
        obtain ⟨x, hx⟩ : ∃ x, x = gs[0] := ⟨_, rfl⟩
        rw [← hx] at c0 c1 c2 c3 hgk
        have d0 := (hB.cell (p := ⟨b, off + (0) * 4, none⟩) hbw).trans c0
        have d1 := (hB.cell (p := ⟨b, off + (0) * 4 + 1, none⟩) hbw).trans c1
        have d2 := (hB.cell (p := ⟨b, off + (0) * 4 + 2, none⟩) hbw).trans c2
        have d3 := (hB.cell (p := ⟨b, off + (0) * 4 + 3, none⟩) hbw).trans c3
        have HGK := Lib.hid hgk
        have HKS := Lib.hid hks
        have HBLK := Lib.hid (Blk.new wr [.int .i64 x.gen, .int .i64 x.basis, .int .i64 x.bytes, .string x.mark] 48)
        have HBW : Hid (Below w.heap.size w (wr.alloc (Obj.cells #[.int .i64 x.gen, .int .i64 x.basis, .int .i64 x.bytes, .string x.mark] 48))) := Lib.hid (hB.alloc hB.size _)
        have HWS : Hid (wr.heap.size < (wr.alloc (Obj.cells #[.int .i64 x.gen, .int .i64 x.basis, .int .i64 x.bytes, .string x.mark] 48)).heap.size) := Lib.hid (by simp)
        have i1 : ((0 : Nat) : Int) < (len : Int) := by omega
        have i2 : ((0 : Nat) : Int) ≤ (cap : Int) := by have := HCAP.out; omega
        have i3 : 0 ≤ cap := by have := HCAP.out; omega
        clear hgk hx hks c0 c1 c2 c3
        clear hc
        simp only [Nat.zero_mul, Nat.add_zero] at d0 d1 d2 d3
        by_cases hA : x.gen < 0
        · have q : ((2 : Int)) = chk gs := (chk_at HKS.out HC.out (chkAt_rng HGK.out (.inl hA)) (by decide)).symm
          have HQ := Lib.hid q
          clear q
          go_wp2
          go_ret
          exact ⟨ret_v (int_v HQ.out), HBW.out⟩
        · by_cases hB' : x.bytes < 0
          · have q : ((2 : Int)) = chk gs := (chk_at HKS.out HC.out (chkAt_rng HGK.out (.inr (.inl hB'))) (by decide)).symm
            have HQ := Lib.hid q
            clear q
            go_wp2
            go_ret
            exact ⟨ret_v (int_v HQ.out), HBW.out⟩
          · by_cases hC : 524288 < x.bytes
            · have q : ((2 : Int)) = chk gs := (chk_at HKS.out HC.out (chkAt_rng HGK.out (.inr (.inr hC))) (by decide)).symm
              have HQ := Lib.hid q
              clear q
              go_wp2
              go_ret
              exact ⟨ret_v (int_v HQ.out), HBW.out⟩
            · have nrng : ¬ Rng x := by unfold Rng; omega
              have NRNG := Lib.hid nrng
              clear nrng
              have nord : ¬ (0 < 0 ∧ x.gen ≤ (gs.getD (0 - 1) default).gen) := by omega
              have NORD := Lib.hid nord
              clear nord
              by_cases he : x.basis = x.gen
              · have hz : chkAt gs 0 = 0 := chkAt_zero HGK.out NRNG.out NORD.out (.inl he)
                have HZ := Lib.hid hz
                have HE := Lib.hid he
                clear hz he
                go_wp2
                obtain ⟨W, hW⟩ : ∃ W, W = (wr.alloc (Obj.cells #[.int .i64 x.gen, .int .i64 x.basis, .int .i64 x.bytes, .string x.mark] 48)) := ⟨_, rfl⟩
                rw [← hW] at HBW HBLK HWS
                rw [← hW]
                have e0 := HBLK.out.cell (i := 0) rfl
                have e1 := HBLK.out.cell (i := 1) rfl
                clear hW d0 d1 d2 d3
                go_quiet (fail)
                obtain ⟨V, hV⟩ : ∃ V, V = W.drewN nq := ⟨_, rfl⟩
                have HBV : Hid (Below w.heap.size w V) := by rw [hV]; exact Lib.hid (below_drewN' HBW.out _)
                have x0 : V.cell? ⟨wr.heap.size, 0, none⟩ = some (.int .i64 x.gen) := by rw [hV]; exact e0
                have x1 : V.cell? ⟨wr.heap.size, 1, none⟩ = some (.int .i64 x.basis) := by rw [hV]; exact e1
                have HVS : Hid (wr.heap.size < V.heap.size) := by rw [hV]; exact HWS
                rw [← hV]
                clear hV e0 e1 HBW HBLK HWS
                have he := HE.out
                go_wp2
                go_quiet (fail)
                go_wp2
                go_roundw
                case rel => exact ⟨0 + 1, by omega, by go_num, chkTo_succ HC.out HZ.out, below_drewN' HBV.out _⟩
                case measure => simp [intOf]; omega
              · by_cases hin : x.basis ∈ (gs.take 0).map G.gen
                · exact absurd hin (by simp)
                · have hz : chk gs = 13 := chk_at HKS.out HC.out (chkAt_bas HGK.out NRNG.out NORD.out he hin) (by decide)
                  have HZ := Lib.hid hz
                  have hat : atZ ((gs.take 0).map G.gen) x.basis < 0 := by rw [atZ_neg]; exact hin
                  obtain ⟨z, hzz⟩ : ∃ z, z = atZ ((gs.take 0).map G.gen) x.basis := ⟨_, rfl⟩
                  rw [← hzz] at hat
                  have HZZ := Lib.hid hzz
                  clear hz hin hzz
                  have hbn : (x.basis != x.gen) = true := by simp; exact he
                  clear he
                  go_wp2
                  obtain ⟨W, hW⟩ : ∃ W, W = (wr.alloc (Obj.cells #[.int .i64 x.gen, .int .i64 x.basis, .int .i64 x.bytes, .string x.mark] 48)) := ⟨_, rfl⟩
                  rw [← hW] at HBW HBLK HWS
                  rw [← hW]
                  have e0 := HBLK.out.cell (i := 0) rfl
                  have e1 := HBLK.out.cell (i := 1) rfl
                  clear hW d0 d1 d2 d3
                  go_quiet (fail)
                  obtain ⟨V, hV⟩ : ∃ V, V = W.drewN nq := ⟨_, rfl⟩
                  have HBV : Hid (Below w.heap.size w V) := by rw [hV]; exact Lib.hid (below_drewN' HBW.out _)
                  have x0 : V.cell? ⟨wr.heap.size, 0, none⟩ = some (.int .i64 x.gen) := by rw [hV]; exact e0
                  have x1 : V.cell? ⟨wr.heap.size, 1, none⟩ = some (.int .i64 x.basis) := by rw [hV]; exact e1
                  have HVS : Hid (wr.heap.size < V.heap.size) := by rw [hV]; exact HWS
                  rw [← hV]
                  clear hV e0 e1 HBW HBLK HWS
                  have H : ∀ w1 w2 : World, Below w1.heap.size w1 w2 → (w1.cell? ⟨wr.heap.size, 0, none⟩ = some (.int .i64 x.gen) ∧ w1.cell? ⟨wr.heap.size, 1, none⟩ = some (.int .i64 x.basis) ∧ Below V.heap.size V w1) → (w2.cell? ⟨wr.heap.size, 0, none⟩ = some (.int .i64 x.gen) ∧ w2.cell? ⟨wr.heap.size, 1, none⟩ = some (.int .i64 x.basis) ∧ Below V.heap.size V w2) :=
                    fun w1 w2 hb h => ⟨(hb.cell (p := ⟨wr.heap.size, 0, none⟩) (Nat.lt_of_lt_of_le HVS.out h.2.2.size)).trans h.1, (hb.cell (p := ⟨wr.heap.size, 1, none⟩) (Nat.lt_of_lt_of_le HVS.out h.2.2.size)).trans h.2.1, kpBelow_via h.2.2 hb⟩
                  have hS0 : V.drew.cell? ⟨wr.heap.size, 0, none⟩ = some (.int .i64 x.gen) ∧ V.drew.cell? ⟨wr.heap.size, 1, none⟩ = some (.int .i64 x.basis) ∧ Below V.heap.size V V.drew := ⟨x0, x1, (Below.refl _ _).drew⟩
                  have HRT := Lib.hid ((hR.take (m := 0) (by omega)).next HBV.out)
                  have HUP := Lib.hid (chkTo_up (Nat.le_of_lt HKS.out) HC.out)
                  clear x0 x1 hR
                  go_wp2
                  go_region_held3 (fun w' => w'.cell? ⟨wr.heap.size, 0, none⟩ = some (.int .i64 x.gen) ∧ w'.cell? ⟨wr.heap.size, 1, none⟩ = some (.int .i64 x.basis) ∧ Below V.heap.size V w')
                    (first | assumption | go_keep)
                    (first | (go_at_call 80; refine (place_z _ _ _ _ _ _ _ (HRT.out.next (And.right (And.right (by assumption : _ ∧ _ ∧ Below V.heap.size V _)))) (by omega) HUP.out HZZ.out).mono ?_; rintro e w4 ⟨rfl, hb4⟩; have hS2 := H _ _ hb4 (by assumption)))
                  obtain ⟨_, _, hBV⟩ := hS2
                  go_wp2
                  go_ret
                  exact ⟨ret_v (int_v HZ.out.symm), kpBelow_via HBV.out hBV⟩
      · have hks : j + 1 < gs.length := by rw [HL.out]; exact hlt
        obtain ⟨c0, c1, c2, c3⟩ := hc (j + 1) hks
        have hgk : gs.getD (j + 1) default = gs[j + 1] := getD_g hks
        obtain ⟨x, hx⟩ : ∃ x, x = gs[j + 1] := ⟨_, rfl⟩
        rw [← hx] at c0 c1 c2 c3 hgk
        have d0 := (hB.cell (p := ⟨b, off + (j + 1) * 4, none⟩) hbw).trans c0
        have d1 := (hB.cell (p := ⟨b, off + (j + 1) * 4 + 1, none⟩) hbw).trans c1
        have d2 := (hB.cell (p := ⟨b, off + (j + 1) * 4 + 2, none⟩) hbw).trans c2
        have d3 := (hB.cell (p := ⟨b, off + (j + 1) * 4 + 3, none⟩) hbw).trans c3
        have HGK := Lib.hid hgk
        have HKS := Lib.hid hks
        have HBLK := Lib.hid (Blk.new wr [.int .i64 x.gen, .int .i64 x.basis, .int .i64 x.bytes, .string x.mark] 48)
        have HBW : Hid (Below w.heap.size w (wr.alloc (Obj.cells #[.int .i64 x.gen, .int .i64 x.basis, .int .i64 x.bytes, .string x.mark] 48))) := Lib.hid (hB.alloc hB.size _)
        have HWS : Hid (wr.heap.size < (wr.alloc (Obj.cells #[.int .i64 x.gen, .int .i64 x.basis, .int .i64 x.bytes, .string x.mark] 48)).heap.size) := Lib.hid (by simp)
        have i1 : ((j + 1 : Nat) : Int) < (len : Int) := by omega
        have i2 : ((j + 1 : Nat) : Int) ≤ (cap : Int) := by have := HCAP.out; omega
        have i3 : j + 1 ≤ cap := by have := HCAP.out; omega
        clear hgk hx hks c0 c1 c2 c3
        have hj : j < gs.length := by rw [HL.out]; omega
        obtain ⟨f0', -, -, -⟩ := hc j hj
        have hgj : gs.getD j default = gs[j] := getD_g hj
        obtain ⟨y, hy⟩ : ∃ y, y = gs[j] := ⟨_, rfl⟩
        rw [← hy] at f0' hgj
        have HGJ := Lib.hid hgj
        have f0 := (hB.cell (p := ⟨b, off + j * 4, none⟩) hbw).trans f0'
        have F0 : Hid ((wr.alloc (Obj.cells #[.int .i64 x.gen, .int .i64 x.basis, .int .i64 x.bytes, .string x.mark] 48)).cell? ⟨b, off + j * 4, none⟩ = some (.int .i64 y.gen)) := Lib.hid ((World.cell?_alloc_some _ _ _ (by rw [f0]; rfl)).trans f0)
        have i4 : (j : Int) < (len : Int) := by omega
        have i6 : (j : Int) + 1 < (len : Int) := by omega
        have i7 : (j : Int) + 1 ≤ (cap : Int) := by have := HCAP.out; omega
        have i8 : (0 : Int) ≤ (j : Int) + 1 := by omega
        have i9 : ((j : Int) + 1).toNat = j + 1 := by omega
        have i5 : IntKind.i64.wrap ((j : Int) + 1 - 1) = (j : Int) := by rw [IntWalk.i64_in _ (by omega)]; omega
        clear hy hgj hj hc f0' f0
        by_cases hA : x.gen < 0
        · have q : ((2 : Int)) = chk gs := (chk_at HKS.out HC.out (chkAt_rng HGK.out (.inl hA)) (by decide)).symm
          have HQ := Lib.hid q
          clear q
          go_wp2
          go_ret
          exact ⟨ret_v (int_v HQ.out), HBW.out⟩
        · by_cases hB' : x.bytes < 0
          · have q : ((2 : Int)) = chk gs := (chk_at HKS.out HC.out (chkAt_rng HGK.out (.inr (.inl hB'))) (by decide)).symm
            have HQ := Lib.hid q
            clear q
            go_wp2
            go_ret
            exact ⟨ret_v (int_v HQ.out), HBW.out⟩
          · by_cases hC : 524288 < x.bytes
            · have q : ((2 : Int)) = chk gs := (chk_at HKS.out HC.out (chkAt_rng HGK.out (.inr (.inr hC))) (by decide)).symm
              have HQ := Lib.hid q
              clear q
              go_wp2
              go_ret
              exact ⟨ret_v (int_v HQ.out), HBW.out⟩
            · have nrng : ¬ Rng x := by unfold Rng; omega
              have NRNG := Lib.hid nrng
              clear nrng
              by_cases hD : x.gen ≤ y.gen
              · have hz : chk gs = 12 := chk_at HKS.out HC.out (chkAt_ord HGK.out NRNG.out ⟨by omega, by rw [Nat.add_sub_cancel, HGJ.out]; exact hD⟩) (by decide)
                have HZ := Lib.hid hz
                clear hz
                go_wp2
                obtain ⟨W, hW⟩ : ∃ W, W = (wr.alloc (Obj.cells #[.int .i64 x.gen, .int .i64 x.basis, .int .i64 x.bytes, .string x.mark] 48)) := ⟨_, rfl⟩
                rw [← hW] at HBW HBLK HWS F0
                rw [← hW]
                have e0 := HBLK.out.cell (i := 0) rfl
                have e1 := HBLK.out.cell (i := 1) rfl
                clear hW d0 d1 d2 d3
                have f0 := F0.out
                go_quiet (fail)
                go_wp2
                go_ret
                exact ⟨ret_v (int_v HZ.out.symm), below_drewN' HBW.out _⟩
              · have hDd : decide (x.gen ≤ y.gen) = false := by simp; omega
                have nord : ¬ (0 < (j + 1) ∧ x.gen ≤ (gs.getD ((j + 1) - 1) default).gen) := by rw [Nat.add_sub_cancel, HGJ.out]; omega
                have NORD := Lib.hid nord
                clear nord
                by_cases he : x.basis = x.gen
                · have hz : chkAt gs (j + 1) = 0 := chkAt_zero HGK.out NRNG.out NORD.out (.inl he)
                  have HZ := Lib.hid hz
                  have HE := Lib.hid he
                  clear hz he
                  go_wp2
                  obtain ⟨W, hW⟩ : ∃ W, W = (wr.alloc (Obj.cells #[.int .i64 x.gen, .int .i64 x.basis, .int .i64 x.bytes, .string x.mark] 48)) := ⟨_, rfl⟩
                  rw [← hW] at HBW HBLK HWS F0
                  rw [← hW]
                  have e0 := HBLK.out.cell (i := 0) rfl
                  have e1 := HBLK.out.cell (i := 1) rfl
                  clear hW d0 d1 d2 d3
                  have f0 := F0.out
                  go_quiet (fail)
                  obtain ⟨V, hV⟩ : ∃ V, V = W.drewN nq := ⟨_, rfl⟩
                  have HBV : Hid (Below w.heap.size w V) := by rw [hV]; exact Lib.hid (below_drewN' HBW.out _)
                  have x0 : V.cell? ⟨wr.heap.size, 0, none⟩ = some (.int .i64 x.gen) := by rw [hV]; exact e0
                  have x1 : V.cell? ⟨wr.heap.size, 1, none⟩ = some (.int .i64 x.basis) := by rw [hV]; exact e1
                  have HVS : Hid (wr.heap.size < V.heap.size) := by rw [hV]; exact HWS
                  rw [← hV]
                  clear hV e0 e1 HBW HBLK HWS
                  have he := HE.out
                  go_wp2
                  go_quiet (fail)
                  go_wp2
                  go_roundw
                  case rel => exact ⟨(j + 1) + 1, by omega, by go_num, chkTo_succ HC.out HZ.out, below_drewN' HBV.out _⟩
                  case measure => simp [intOf]; omega
                · by_cases hin : x.basis ∈ (gs.take (j + 1)).map G.gen
                  · have hz : chkAt gs (j + 1) = 0 := chkAt_zero HGK.out NRNG.out NORD.out (.inr hin)
                    have HZ := Lib.hid hz
                    have hat : ¬ atZ ((gs.take (j + 1)).map G.gen) x.basis < 0 := by rw [atZ_neg]; exact fun h => h hin
                    obtain ⟨z, hzz⟩ : ∃ z, z = atZ ((gs.take (j + 1)).map G.gen) x.basis := ⟨_, rfl⟩
                    rw [← hzz] at hat
                    have HZZ := Lib.hid hzz
                    clear hz hin hzz
                    have hbn : (x.basis != x.gen) = true := by simp; exact he
                    clear he
                    go_wp2
                    obtain ⟨W, hW⟩ : ∃ W, W = (wr.alloc (Obj.cells #[.int .i64 x.gen, .int .i64 x.basis, .int .i64 x.bytes, .string x.mark] 48)) := ⟨_, rfl⟩
                    rw [← hW] at HBW HBLK HWS F0
                    rw [← hW]
                    have e0 := HBLK.out.cell (i := 0) rfl
                    have e1 := HBLK.out.cell (i := 1) rfl
                    clear hW d0 d1 d2 d3
                    have f0 := F0.out
                    go_quiet (fail)
                    obtain ⟨V, hV⟩ : ∃ V, V = W.drewN nq := ⟨_, rfl⟩
                    have HBV : Hid (Below w.heap.size w V) := by rw [hV]; exact Lib.hid (below_drewN' HBW.out _)
                    have x0 : V.cell? ⟨wr.heap.size, 0, none⟩ = some (.int .i64 x.gen) := by rw [hV]; exact e0
                    have x1 : V.cell? ⟨wr.heap.size, 1, none⟩ = some (.int .i64 x.basis) := by rw [hV]; exact e1
                    have HVS : Hid (wr.heap.size < V.heap.size) := by rw [hV]; exact HWS
                    rw [← hV]
                    clear hV e0 e1 HBW HBLK HWS
                    have H : ∀ w1 w2 : World, Below w1.heap.size w1 w2 → (w1.cell? ⟨wr.heap.size, 0, none⟩ = some (.int .i64 x.gen) ∧ w1.cell? ⟨wr.heap.size, 1, none⟩ = some (.int .i64 x.basis) ∧ Below V.heap.size V w1) → (w2.cell? ⟨wr.heap.size, 0, none⟩ = some (.int .i64 x.gen) ∧ w2.cell? ⟨wr.heap.size, 1, none⟩ = some (.int .i64 x.basis) ∧ Below V.heap.size V w2) :=
                      fun w1 w2 hb h => ⟨(hb.cell (p := ⟨wr.heap.size, 0, none⟩) (Nat.lt_of_lt_of_le HVS.out h.2.2.size)).trans h.1, (hb.cell (p := ⟨wr.heap.size, 1, none⟩) (Nat.lt_of_lt_of_le HVS.out h.2.2.size)).trans h.2.1, kpBelow_via h.2.2 hb⟩
                    have hS0 : V.drew.cell? ⟨wr.heap.size, 0, none⟩ = some (.int .i64 x.gen) ∧ V.drew.cell? ⟨wr.heap.size, 1, none⟩ = some (.int .i64 x.basis) ∧ Below V.heap.size V V.drew := ⟨x0, x1, (Below.refl _ _).drew⟩
                    have HRT := Lib.hid ((hR.take (m := (j + 1)) (by omega)).next HBV.out)
                    have HUP := Lib.hid (chkTo_up (Nat.le_of_lt HKS.out) HC.out)
                    clear x0 x1 hR
                    go_wp2
                    go_region_held3 (fun w' => w'.cell? ⟨wr.heap.size, 0, none⟩ = some (.int .i64 x.gen) ∧ w'.cell? ⟨wr.heap.size, 1, none⟩ = some (.int .i64 x.basis) ∧ Below V.heap.size V w')
                      (first | assumption | go_keep)
                      (first | (go_at_call 80; refine (place_z _ _ _ _ _ _ _ (HRT.out.next (And.right (And.right (by assumption : _ ∧ _ ∧ Below V.heap.size V _)))) (by omega) HUP.out HZZ.out).mono ?_; rintro e w4 ⟨rfl, hb4⟩; have hS2 := H _ _ hb4 (by assumption)))
                    obtain ⟨_, _, hBV⟩ := hS2
                    go_wp2
                    go_roundw
                    case rel => exact ⟨(j + 1) + 1, by omega, by go_num, chkTo_succ HC.out HZ.out, kpBelow_via HBV.out hBV⟩
                    case measure => simp [intOf]; omega
                  · have hz : chk gs = 13 := chk_at HKS.out HC.out (chkAt_bas HGK.out NRNG.out NORD.out he hin) (by decide)
                    have HZ := Lib.hid hz
                    have hat : atZ ((gs.take (j + 1)).map G.gen) x.basis < 0 := by rw [atZ_neg]; exact hin
                    obtain ⟨z, hzz⟩ : ∃ z, z = atZ ((gs.take (j + 1)).map G.gen) x.basis := ⟨_, rfl⟩
                    rw [← hzz] at hat
                    have HZZ := Lib.hid hzz
                    clear hz hin hzz
                    have hbn : (x.basis != x.gen) = true := by simp; exact he
                    clear he
                    go_wp2
                    obtain ⟨W, hW⟩ : ∃ W, W = (wr.alloc (Obj.cells #[.int .i64 x.gen, .int .i64 x.basis, .int .i64 x.bytes, .string x.mark] 48)) := ⟨_, rfl⟩
                    rw [← hW] at HBW HBLK HWS F0
                    rw [← hW]
                    have e0 := HBLK.out.cell (i := 0) rfl
                    have e1 := HBLK.out.cell (i := 1) rfl
                    clear hW d0 d1 d2 d3
                    have f0 := F0.out
                    go_quiet (fail)
                    obtain ⟨V, hV⟩ : ∃ V, V = W.drewN nq := ⟨_, rfl⟩
                    have HBV : Hid (Below w.heap.size w V) := by rw [hV]; exact Lib.hid (below_drewN' HBW.out _)
                    have x0 : V.cell? ⟨wr.heap.size, 0, none⟩ = some (.int .i64 x.gen) := by rw [hV]; exact e0
                    have x1 : V.cell? ⟨wr.heap.size, 1, none⟩ = some (.int .i64 x.basis) := by rw [hV]; exact e1
                    have HVS : Hid (wr.heap.size < V.heap.size) := by rw [hV]; exact HWS
                    rw [← hV]
                    clear hV e0 e1 HBW HBLK HWS
                    have H : ∀ w1 w2 : World, Below w1.heap.size w1 w2 → (w1.cell? ⟨wr.heap.size, 0, none⟩ = some (.int .i64 x.gen) ∧ w1.cell? ⟨wr.heap.size, 1, none⟩ = some (.int .i64 x.basis) ∧ Below V.heap.size V w1) → (w2.cell? ⟨wr.heap.size, 0, none⟩ = some (.int .i64 x.gen) ∧ w2.cell? ⟨wr.heap.size, 1, none⟩ = some (.int .i64 x.basis) ∧ Below V.heap.size V w2) :=
                      fun w1 w2 hb h => ⟨(hb.cell (p := ⟨wr.heap.size, 0, none⟩) (Nat.lt_of_lt_of_le HVS.out h.2.2.size)).trans h.1, (hb.cell (p := ⟨wr.heap.size, 1, none⟩) (Nat.lt_of_lt_of_le HVS.out h.2.2.size)).trans h.2.1, kpBelow_via h.2.2 hb⟩
                    have hS0 : V.drew.cell? ⟨wr.heap.size, 0, none⟩ = some (.int .i64 x.gen) ∧ V.drew.cell? ⟨wr.heap.size, 1, none⟩ = some (.int .i64 x.basis) ∧ Below V.heap.size V V.drew := ⟨x0, x1, (Below.refl _ _).drew⟩
                    have HRT := Lib.hid ((hR.take (m := (j + 1)) (by omega)).next HBV.out)
                    have HUP := Lib.hid (chkTo_up (Nat.le_of_lt HKS.out) HC.out)
                    clear x0 x1 hR
                    go_wp2
                    go_region_held3 (fun w' => w'.cell? ⟨wr.heap.size, 0, none⟩ = some (.int .i64 x.gen) ∧ w'.cell? ⟨wr.heap.size, 1, none⟩ = some (.int .i64 x.basis) ∧ Below V.heap.size V w')
                      (first | assumption | go_keep)
                      (first | (go_at_call 80; refine (place_z _ _ _ _ _ _ _ (HRT.out.next (And.right (And.right (by assumption : _ ∧ _ ∧ Below V.heap.size V _)))) (by omega) HUP.out HZZ.out).mono ?_; rintro e w4 ⟨rfl, hb4⟩; have hS2 := H _ _ hb4 (by assumption)))
                    obtain ⟨_, _, hBV⟩ := hS2
                    go_wp2
                    go_ret
                    exact ⟨ret_v (int_v HZ.out.symm), kpBelow_via HBV.out hBV⟩
    · have hkk : k = gs.length := by rw [HL.out]; omega
      have hz : chk gs = 0 := chk_ok (by rw [← hkk]; exact HC.out)
      have HZ := Lib.hid hz
      clear hz hkk
      go_wp2
      go_ret
      exact ⟨ret_v (int_v HZ.out.symm), hB⟩
end Go.Proofs.YtgkcnocfijckoaaGreat
