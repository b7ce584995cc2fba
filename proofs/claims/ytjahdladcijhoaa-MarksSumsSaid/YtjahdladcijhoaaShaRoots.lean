/- The reference's primes and Roots. Conditions: as named in each theorem. -/
import Derived.Test.YtjahdladcijhoaaShaRRoot
namespace Go.Proofs.Ytjahdladcijhoaa
open Go.RowKit
set_option linter.unusedVariables false
set_option linter.unusedSimpArgs false

def isP (n : Nat) : Bool := decide (2 ≤ n) && (List.range 20).all (fun k => decide (n < (k + 2) * (k + 2)) || decide (n % (k + 2) ≠ 0))
theorem isP_no {n k : Nat} (hk : k < 20) (h1 : (k + 2) * (k + 2) ≤ n) (h2 : n % (k + 2) = 0) : isP n = false := by
  unfold isP
  rw [Bool.and_eq_false_iff]
  refine .inr ?_
  rw [List.all_eq_false]
  refine ⟨k, List.mem_range.2 hk, ?_⟩
  have : ¬ n < (k + 2) * (k + 2) := by omega
  simp [this, h2]
theorem isP_yes {n : Nat} (h : ∀ e, e < 20 → (e + 2) * (e + 2) ≤ n → n % (e + 2) ≠ 0) : isP n = decide (2 ≤ n) := by
  unfold isP
  have : (List.range 20).all (fun k => decide (n < (k + 2) * (k + 2)) || decide (n % (k + 2) ≠ 0)) = true := by
    rw [List.all_eq_true]
    intro k hk
    by_cases h1 : n < (k + 2) * (k + 2)
    · rw [decide_eq_true h1]; rfl
    · rw [decide_eq_true (h k (List.mem_range.1 hk) (by omega)), Bool.or_true]
  rw [this, Bool.and_true]
theorem isP_table0 : ∀ x : Fin 312, 2 ≤ x.val → (isP x.val = true ∧ P64[cntP x.val]? = some x.val ∧ cntP (x.val + 1) = cntP x.val + 1) ∨ (isP x.val = false ∧ cntP (x.val + 1) = cntP x.val) := by decide +kernel
theorem isP_table (n : Nat) (h : 2 ≤ n) (h2 : n < 312) : (isP n = true ∧ P64[cntP n]? = some n ∧ cntP (n + 1) = cntP n + 1) ∨ (isP n = false ∧ cntP (n + 1) = cntP n) := isP_table0 ⟨n, h2⟩ h
theorem P64_19a : ∀ c : Fin 8, P64.getD c.val 0 ≤ 19 := by decide
theorem P64_19 (c : Nat) (h : c < 8) (n : Nat) (hn : P64[c]? = some n) : n ≤ 19 := by
  have := P64_19a ⟨c, h⟩
  rw [List.getD_eq_getElem?_getD] at this
  simp only at this
  rw [hn] at this
  exact this
theorem take_snoc {l : List Nat} {c n : Nat} (h : l[c]? = some n) : l.take (c + 1) = l.take c ++ [n] := by
  rw [List.take_add_one, h]; rfl
theorem iV_app (l : List Nat) (x : Nat) : iV (l ++ [x]) = iV l ++ [.int .i64 (x : Nat)] := by simp [iV]
def RootsP (xs : List Value) (n : Nat) (w : World) (e : Ending) (w' : World) : Prop := ∃ v, e = .returned v ∧ w'.ownsRow w.heap.size 3 1 v n xs ∧ Below w.heap.size w w'

set_option maxRecDepth 100000 in
set_option maxHeartbeats 1000000 in
theorem prime_any (n : Nat) (hn : n ≤ 400) (w : World) : Calls Try.prog 33 #[.int .i64 n] w fun e w' => e = .returned (.bool (isP n)) ∧ w' = w := by
  go_enter Try.func33, Try.ntmps33
  go_wp2_with fail
  go_loopw [3] (fun dv wr => ∃ k : Nat, dv = .int .i64 ((k + 2 : Nat) : Int) ∧ k ≤ 20 ∧ (∀ e, e < k → (e + 2) * (e + 2) ≤ n → n % (e + 2) ≠ 0) ∧ wr = w) (fun dv _ => 30 - (intOf dv).toNat)
  case atStart => exact ⟨0, by go_num, by omega, fun e h => absurd h (by omega), rfl⟩
  case round =>
    obtain ⟨k, rfl, hk, hinv, rfl⟩ := hrel
    obtain ⟨d, hd⟩ : ∃ d, d = k + 2 := ⟨_, rfl⟩
    obtain ⟨q, hq⟩ : ∃ q, q = d * d := ⟨_, rfl⟩
    have hq2 : q ≤ 22 * 22 := by rw [hq]; exact Nat.mul_le_mul (by omega) (by omega)
    have hdk : k = d - 2 := by omega
    have hd2 : 2 ≤ d := by omega
    have hd22 : d ≤ 22 := by omega
    have e1 : (d : Int) * (d : Int) = (q : Int) := by rw [hq]; simp
    have v1 : IntKind.i64.wrap (q : Int) = (q : Int) := IntWalk.i64_in _ (by omega)
    have HI := Lib.hid hinv
    have HQ := Lib.hid (And.intro hd hq)
    rw [← hd]
    clear hinv
    by_cases hle : q ≤ n
    · have hk20 : k < 20 := by
        rcases Nat.lt_or_ge k 20 with h | h
        · exact h
        · have : 22 * 22 ≤ q := by rw [hq]; exact Nat.mul_le_mul (by omega) (by omega)
          omega
      have i1 : (q : Int) ≤ (n : Int) := by omega
      obtain ⟨M, hM⟩ : ∃ M, M = n % d := ⟨_, rfl⟩
      have e2 : (n : Int).tmod (d : Int) = (M : Int) := by rw [hM, Int.tmod_eq_emod_of_nonneg (by omega)]; simp
      have e3 : (n : Int) % (d : Int) = (M : Int) := by rw [hM]; simp
      have v2 : IntKind.i64.wrap (M : Int) = (M : Int) := IntWalk.i64_in _ (by have := Nat.mod_lt n (show 0 < d by omega); omega)
      have nd : ¬ (d : Int) = 0 := by omega
      have nd2 : ((d : Int) == 0) = false := by rw [beq_eq_false_iff_ne]; omega
      by_cases hM0 : M = 0
      · subst hM0
        have e4 : (n : Int).tmod (d : Int) = 0 := e2
        have e5 : (n : Int) % (d : Int) = 0 := e3
        clear e2 e3 v2
        have HR : Hid (isP n = false) := Lib.hid (isP_no hk20 (by rw [← hd, ← hq]; exact hle) (by rw [← hd, ← hM]))
        clear hk20 hM hq hd hdk
        go_wp2
        go_ret
        exact ⟨by rw [HR.out]; rfl, rfl⟩
      · have hb : ((M : Int) == 0) = false := by rw [beq_eq_false_iff_ne]; omega
        have HN : Hid (∀ e, e < k + 1 → (e + 2) * (e + 2) ≤ n → n % (e + 2) ≠ 0) := Lib.hid (fun e h1 h2 h3 => by
          by_cases he : e < k
          · exact HI.out e he h2 h3
          · have : e = k := by omega
            subst this
            rw [← hd, ← hM] at h3; exact hM0 h3)
        have HK := Lib.hid (And.intro hd hk20)
        clear hk20 hM hq hd hdk
        go_wp2
        exact ⟨⟨k + 1, by rw [HK.out.1]; go_num, by have := HK.out.2; omega, HN.out, trivial⟩, by simp [intOf]; omega⟩
    · have i1 : ¬ (q : Int) ≤ (n : Int) := by omega
      have HR : Hid (isP n = decide (2 ≤ n)) := Lib.hid (isP_yes (fun e h1 h2 => by
        by_cases he : e < k
        · exact HI.out e he h2
        · have : d * d ≤ (e + 2) * (e + 2) := Nat.mul_le_mul (by omega) (by omega)
          omega))
      have e4 : decide ((2 : Int) ≤ (n : Int)) = decide (2 ≤ n) := by rw [decide_eq_decide]; omega
      have HE := Lib.hid e4
      clear hq hd hdk e4
      go_wp2
      go_ret
      exact ⟨by rw [HR.out, ← HE.out]; first | rfl | simp, rfl⟩

set_option maxRecDepth 100000 in
set_option maxHeartbeats 1000000 in
theorem roots_3 (count : Nat) (hc : count ≤ 64) (w : World) :
    Calls Try.prog 27 #[.int .i64 count, .int .i64 3] w (RootsP (iV ((P64.map k3).take count)) count w) := by
  obtain ⟨i0, hi, hz0, hz1, hz2⟩ := info_parts infoIntH
  go_enter Try.func27, Try.ntmps27
  go_wp2_with fail
  go_loopw [5, 6] (fun v nv wr => ∃ n c : Nat, nv = .int .i64 n ∧ 2 ≤ n ∧ n ≤ 312 ∧ c = cntP n ∧ c ≤ count ∧ wr.ownsRow w.heap.size 3 1 v c (iV ((P64.map k3).take c)) ∧ Below w.heap.size w wr) (fun _ nv _ => 320 - (intOf nv).toNat)
  case atStart => exact ⟨2, 0, rfl, by omega, by omega, P64_cnt.1.symm, Nat.zero_le _, World.ownsRow_nil _ _ _ _, Below.refl _ _⟩
  case round =>
    obtain ⟨n, c, rfl, h2, h312, hcn, hcc, hO, hB⟩ := hrel
    obtain ⟨av, cv, rfl⟩ := slice_own hO
    have hS := hB.size
    by_cases hlt : c < count
    · have hn : n < 312 := by
        rcases Nat.lt_or_ge n 312 with h | h
        · exact h
        · have : n = 312 := by omega
          subst this
          rw [P64_cnt.2] at hcn; omega
      have i1 : (c : Int) < (count : Int) := by omega
      have HO := Lib.hid hO
      have HB := Lib.hid hB
      have HPR := Lib.hid (prime_any n (by omega) wr)
      have htab := isP_table n h2 hn
      rw [← hcn] at htab
      have HCN := Lib.hid hcn
      clear hO hB hcn
      rcases htab with ⟨t0, t1, t2⟩ | ⟨t0, t2⟩
      · rw [t0] at HPR
        have HT := Lib.hid (And.intro t1 t2)
        clear t0 t1 t2
        have hnb : n ≤ 4000 := by omega
        have HRT := Lib.hid (fun w2 => rroot3_any n hnb w2)
        go_wp2_with fail
        refine HPR.out.mono ?_
        rintro e w' ⟨rfl, rfl⟩
        go_wp2_with fail
        refine (HRT.out _).mono ?_
        rintro e w2 ⟨rfl, hb⟩
        have hB2 : Below w.heap.size w w2 := HB.out.trans (hb.mono hS)
        have hO2 := own_below HO.out hb
        have hS2 := hB2.size
        have HO2 := Lib.hid hO2
        have HB2 := Lib.hid hB2
        clear hO2 hB2 HO HB hb HPR HRT
        go_wp2_with (at_builtin; refine wpList_append_own _ rfl _ _ 53 rfl w.heap.size 3 i0 (.int .i64 0) 1 8 Try.underlying53 hi hz0 hz1 hz2 rfl (by decide) _ _ _ rfl (World.ownsRow.alloc HO2.out _) ⟨w2.heap.size, 0, none⟩ 1 1 [.int .i64 (k3 n : Nat)] rfl rfl (cell1_new _ _ _) (one1 _ rfl) (by unfold maxLen; omega) (by omega) (by simp; omega) ?_)
        intro v' w3 hO3 hg3 _
        have hO4 : w3.ownsRow w.heap.size 3 1 v' (c + 1) (iV ((P64.map k3).take (c + 1))) := by
          rw [take_snoc (show (P64.map k3)[c]? = some (k3 n) by rw [List.getElem?_map, HT.out.1]; rfl), iV_app]; exact hO3
        have hB4 : Below w.heap.size w w3 := (HB2.out.alloc (by omega) _).grown hg3 (by simp; omega) (fun j hj => by have := World.ownsRow.lt HO2.out j hj; omega)
        have HF := Lib.hid (And.intro hO4 hB4)
        clear hO3 hg3 hO4 hB4 HO2 HB2
        go_wp2
        exact ⟨⟨n + 1, c + 1, by go_num, by omega, by omega, HT.out.2.symm, by omega, HF.out⟩, by simp [intOf]; omega⟩
      · rw [t0] at HPR
        have HT := Lib.hid t2
        clear t0 t2
        go_wp2_with fail
        refine HPR.out.mono ?_
        rintro e w' ⟨rfl, rfl⟩
        clear HPR
        go_wp2
        exact ⟨⟨n + 1, c, by go_num, by omega, by omega, HT.out.symm, by omega, HO.out, HB.out⟩, by simp [intOf]; omega⟩
    · have hce : c = count := by omega
      subst hce
      have i1 : ¬ (c : Int) < (c : Int) := by omega
      have HF := Lib.hid (And.intro hO hB)
      clear hO hB hcn
      go_wp2
      go_ret
      exact ⟨_, rfl, HF.out.1, HF.out.2⟩

set_option maxRecDepth 100000 in
set_option maxHeartbeats 1000000 in
theorem roots_2 (count : Nat) (hc : count ≤ 8) (w : World) :
    Calls Try.prog 27 #[.int .i64 count, .int .i64 2] w (RootsP (iV ((P64.map k2).take count)) count w) := by
  obtain ⟨i0, hi, hz0, hz1, hz2⟩ := info_parts infoIntH
  go_enter Try.func27, Try.ntmps27
  go_wp2_with fail
  go_loopw [5, 6] (fun v nv wr => ∃ n c : Nat, nv = .int .i64 n ∧ 2 ≤ n ∧ n ≤ 312 ∧ c = cntP n ∧ c ≤ count ∧ wr.ownsRow w.heap.size 3 1 v c (iV ((P64.map k2).take c)) ∧ Below w.heap.size w wr) (fun _ nv _ => 320 - (intOf nv).toNat)
  case atStart => exact ⟨2, 0, rfl, by omega, by omega, P64_cnt.1.symm, Nat.zero_le _, World.ownsRow_nil _ _ _ _, Below.refl _ _⟩
  case round =>
    obtain ⟨n, c, rfl, h2, h312, hcn, hcc, hO, hB⟩ := hrel
    obtain ⟨av, cv, rfl⟩ := slice_own hO
    have hS := hB.size
    by_cases hlt : c < count
    · have hn : n < 312 := by
        rcases Nat.lt_or_ge n 312 with h | h
        · exact h
        · have : n = 312 := by omega
          subst this
          rw [P64_cnt.2] at hcn; omega
      have i1 : (c : Int) < (count : Int) := by omega
      have HO := Lib.hid hO
      have HB := Lib.hid hB
      have HPR := Lib.hid (prime_any n (by omega) wr)
      have htab := isP_table n h2 hn
      rw [← hcn] at htab
      have HCN := Lib.hid hcn
      clear hO hB hcn
      rcases htab with ⟨t0, t1, t2⟩ | ⟨t0, t2⟩
      · rw [t0] at HPR
        have HT := Lib.hid (And.intro t1 t2)
        clear t0 t1 t2
        have hnb : n ≤ 200 := by have := P64_19 c (by omega) n HT.out.1; omega
        have HRT := Lib.hid (fun w2 => rroot2_any n hnb w2)
        go_wp2_with fail
        refine HPR.out.mono ?_
        rintro e w' ⟨rfl, rfl⟩
        go_wp2_with fail
        refine (HRT.out _).mono ?_
        rintro e w2 ⟨rfl, hb⟩
        have hB2 : Below w.heap.size w w2 := HB.out.trans (hb.mono hS)
        have hO2 := own_below HO.out hb
        have hS2 := hB2.size
        have HO2 := Lib.hid hO2
        have HB2 := Lib.hid hB2
        clear hO2 hB2 HO HB hb HPR HRT
        go_wp2_with (at_builtin; refine wpList_append_own _ rfl _ _ 53 rfl w.heap.size 3 i0 (.int .i64 0) 1 8 Try.underlying53 hi hz0 hz1 hz2 rfl (by decide) _ _ _ rfl (World.ownsRow.alloc HO2.out _) ⟨w2.heap.size, 0, none⟩ 1 1 [.int .i64 (k2 n : Nat)] rfl rfl (cell1_new _ _ _) (one1 _ rfl) (by unfold maxLen; omega) (by omega) (by simp; omega) ?_)
        intro v' w3 hO3 hg3 _
        have hO4 : w3.ownsRow w.heap.size 3 1 v' (c + 1) (iV ((P64.map k2).take (c + 1))) := by
          rw [take_snoc (show (P64.map k2)[c]? = some (k2 n) by rw [List.getElem?_map, HT.out.1]; rfl), iV_app]; exact hO3
        have hB4 : Below w.heap.size w w3 := (HB2.out.alloc (by omega) _).grown hg3 (by simp; omega) (fun j hj => by have := World.ownsRow.lt HO2.out j hj; omega)
        have HF := Lib.hid (And.intro hO4 hB4)
        clear hO3 hg3 hO4 hB4 HO2 HB2
        go_wp2
        exact ⟨⟨n + 1, c + 1, by go_num, by omega, by omega, HT.out.2.symm, by omega, HF.out⟩, by simp [intOf]; omega⟩
      · rw [t0] at HPR
        have HT := Lib.hid t2
        clear t0 t2
        go_wp2_with fail
        refine HPR.out.mono ?_
        rintro e w' ⟨rfl, rfl⟩
        clear HPR
        go_wp2
        exact ⟨⟨n + 1, c, by go_num, by omega, by omega, HT.out.symm, by omega, HO.out, HB.out⟩, by simp [intOf]; omega⟩
    · have hce : c = count := by omega
      subst hce
      have i1 : ¬ (c : Int) < (c : Int) := by omega
      have HF := Lib.hid (And.intro hO hB)
      clear hO hB hcn
      go_wp2
      go_ret
      exact ⟨_, rfl, HF.out.1, HF.out.2⟩
end Go.Proofs.Ytjahdladcijhoaa
