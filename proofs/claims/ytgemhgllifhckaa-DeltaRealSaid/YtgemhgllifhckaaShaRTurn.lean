/- The reference's low and right. Conditions: as named in each theorem. -/
import Derived.Test.YtgemhgllifhckaaShaBook
import Derived.Laws.OwnMore
import Derived.Deep.QuietTactic
import Derived.BigQuiet
import Derived.StillTailTactics
namespace Go.Proofs.Ytgemhgllifhckaa
open Go.RowKit
set_option linter.unusedVariables false
set_option linter.unusedSimpArgs false
def iV (l : List Nat) : List Value := l.map fun x : Nat => Value.int .i64 (x : Nat)
/-- the number of digits to the base 65536, the lowest first -/
def dval : List Nat → Nat
  | [] => 0
  | x :: l => x + 65536 * dval l
theorem dval_set : ∀ (l : List Nat) (j x y : Nat), l[j]? = some y → dval (l.set j x) + y * 65536 ^ j = dval l + x * 65536 ^ j := by
  intro l
  induction l with
  | nil => intro j x y h; simp at h
  | cons a l ih =>
    intro j x y h
    cases j with
    | zero =>
      have : a = y := by simpa using h
      subst this
      simp only [List.set_cons_zero, dval, Nat.pow_zero, Nat.mul_one]; omega
    | succ j =>
      have h2 := ih j x y (by simpa using h)
      simp only [List.set_cons_succ, dval, Nat.pow_succ]
      have e1 : y * (65536 ^ j * 65536) = 65536 * (y * 65536 ^ j) := by rw [← Nat.mul_assoc, Nat.mul_comm]
      have e2 : x * (65536 ^ j * 65536) = 65536 * (x * 65536 ^ j) := by rw [← Nat.mul_assoc, Nat.mul_comm]
      rw [e1, e2]; omega
theorem dval_take : ∀ (l : List Nat) (k x : Nat), l[k]? = some x → dval (l.take (k + 1)) = dval (l.take k) + x * 65536 ^ k := by
  intro l
  induction l with
  | nil => intro k x h; simp at h
  | cons a l ih =>
    intro k x h
    cases k with
    | zero =>
      have : a = x := by simpa using h
      subst this
      simp [dval]
    | succ k =>
      have h2 := ih k x (by simpa using h)
      simp only [List.take_succ_cons, dval, Nat.pow_succ]
      rw [h2, Nat.mul_add]
      have e1 : x * (65536 ^ k * 65536) = 65536 * (x * 65536 ^ k) := by rw [← Nat.mul_assoc, Nat.mul_comm]
      rw [e1]; omega
theorem dval_zeros (n : Nat) : dval (List.replicate n 0) = 0 := by
  induction n with
  | zero => rfl
  | succ n ih => rw [List.replicate_succ, dval, ih]
theorem digit_step (V V2 M N a b c x Pw : Nat) (hset : V2 + x * Pw = V + (c + x + a * b) % 65536 * Pw) (hinv : V + c * Pw = M + N) : V2 + (c + x + a * b) / 65536 * (Pw * 65536) = M + (N + a * b * Pw) := by
  obtain ⟨t, ht⟩ : ∃ t, t = c + x + a * b := ⟨_, rfl⟩
  have e1 : t / 65536 * (Pw * 65536) + t % 65536 * Pw = t * Pw := by
    have := Nat.div_add_mod' t 65536
    rw [Nat.mul_comm Pw 65536, ← Nat.mul_assoc, ← Nat.add_mul, this]
  have e2 : t * Pw = c * Pw + x * Pw + a * b * Pw := by rw [ht, Nat.add_mul, Nat.add_mul]
  rw [← ht] at hset ⊢
  omega
theorem own_cell {w : World} {base : Nat} {ao : Option Addr} {n cap : Nat} {l : List Nat} (h : w.ownsRow base 3 1 (.slice ao n cap) n (iV l)) (h0 : 0 < n) : ∃ g, ao = some ⟨g, 0, none⟩ ∧ base ≤ g ∧ g < w.heap.size ∧ n ≤ cap ∧ ∀ j x, l[j]? = some x → w.cell? ⟨g, j, none⟩ = some (.int .i64 (x : Nat)) := by
  have h' := h
  obtain ⟨hl, ⟨h1, _⟩ | ⟨g, c2, cur, h1, h2, h3, h4, _⟩⟩ := h'
  · injection h1 with h1 h2; omega
  · injection h1 with h1 h5 h6
    subst h1 h6
    have hlt := World.ownsRow.lt h g rfl
    refine ⟨g, rfl, hlt.1, hlt.2, h4, fun j x hx => ?_⟩
    have hj := (List.getElem?_eq_some_iff.1 hx).1
    have hl2 : (iV l).length = n * 1 := hl
    unfold iV at hl2
    rw [List.length_map] at hl2
    rw [h.cellAt j (by omega)]
    unfold iV
    rw [List.getElem?_map, hx]; rfl
theorem iV_set (l : List Nat) (j x : Nat) : (iV l).set j (.int .i64 (x : Nat)) = iV (l.set j x) := by unfold iV; rw [List.map_set]
def Dg (l : List Nat) : Prop := ∀ x ∈ l, x < 65536
theorem Dg.set {l : List Nat} (h : Dg l) (j x : Nat) (hx : x < 65536) : Dg (l.set j x) := by
  intro y hy
  rcases List.mem_or_eq_of_mem_set hy with h1 | h1
  · exact h y h1
  · rw [h1]; exact hx
theorem carry_div (c X P : Nat) (h : c + X + P ≤ 6442450944) : wrap64 (((c : Int) + (X : Int) + (P : Int)).tdiv 65536) = (((c + X + P) / 65536 : Nat) : Int) := by
  rw [Int.tdiv_eq_ediv_of_nonneg (by omega)]
  unfold wrap64
  omega
theorem carry_mod (c X P : Nat) : ((c : Int) + (X : Int) + (P : Int)) % 65536 = (((c + X + P) % 65536 : Nat) : Int) := by omega
theorem carry_lt (c X P : Nat) (h : c + X + P ≤ 65535 + 65535 + 65535 * 65535) : (c + X + P) / 65536 < 65536 := by omega
theorem infoIntH : (Try.prog.info? 3).map (fun i => (i.zero, i.size, i.bytes)) = some (some (.int .i64 0), 1, 8) := by kernel_rfl
/-- what product answers -/
def ProdP (la lb : List Nat) (w : World) (e : Ending) (w' : World) : Prop := ∃ v lp, e = .returned v ∧ w'.ownsRow w.heap.size 3 1 v (la.length + lb.length) (iV lp) ∧ lp.length = la.length + lb.length ∧ Dg lp ∧ dval lp = dval la * dval lb ∧ Below w.heap.size w w'
set_option maxRecDepth 100000 in
set_option maxHeartbeats 4000000 in
theorem product_any (w : World) (B1 B2 : Nat) (va vb : Value) (la lb : List Nat) (ha : w.ownsRow B1 3 1 va la.length (iV la)) (hb : w.ownsRow B2 3 1 vb lb.length (iV lb)) (hla : 0 < la.length) (hlb : 0 < lb.length) (hla2 : la.length ≤ 100) (hlb2 : lb.length ≤ 100) (hda : Dg la) (hdb : Dg lb) :
    Calls Try.prog 128 #[va, vb] w (ProdP la lb w) := by
  obtain ⟨i0, hi, hz0, hz1, hz2⟩ := info_parts infoIntH
  obtain ⟨m, hm⟩ : ∃ m, m = la.length := ⟨_, rfl⟩
  obtain ⟨n, hn⟩ : ∃ n, n = lb.length := ⟨_, rfl⟩
  rw [← hm] at ha hla hla2
  rw [← hn] at hb hlb hlb2
  obtain ⟨ao, ca, rfl⟩ := slice_own ha
  obtain ⟨bo, cb, rfl⟩ := slice_own hb
  obtain ⟨ga, rfl, _, hga, hca, hcella⟩ := own_cell ha hla
  obtain ⟨gb, rfl, _, hgb, hcb, hcellb⟩ := own_cell hb hlb
  obtain ⟨W2, hmk, hOw, hGr⟩ := run_make_full (P := Try.prog) w w.heap.size 50 3 i0 (.int .i64 0) 1 Try.underlying50 hi hz0 hz1 .i64 .i64 (m + n) (by rw [hz2]; omega) (by unfold maxLen; omega) (Nat.le_refl _)
  have hf0 : W2.ownsRow w.heap.size 3 1 (.slice (some ⟨w.heap.size, 0, none⟩) (m + n) (m + n)) (m + n) (iV (List.replicate (m + n) 0)) := by
    have := hOw
    rw [Nat.mul_one, show (Value.int .i64 0).cells = #[Value.int .i64 0] from rfl, toList_madeCells_one] at this
    simpa [iV] using this
  have hb0 : Below w.heap.size w W2 := (Below.refl _ _).grown hGr (Nat.le_refl _) (by simp)
  have H0 := Lib.hid (And.intro hf0 hb0)
  have hmn : IntKind.i64.wrap ((m : Int) + (n : Int)) = (m : Int) + (n : Int) := IntWalk.i64_in _ (by omega)
  have hcast : ((m + n : Nat) : Int) = (m : Int) + (n : Int) := by omega
  rw [hcast] at hmk
  have HCA := Lib.hid hcella
  have HCB := Lib.hid hcellb
  have HMN := Lib.hid (And.intro hm hn)
  have HD := Lib.hid (And.intro hda hdb)
  have HW := Lib.hid (And.intro hga hgb)
  clear hf0 hb0 hOw hGr hcella hcellb hda hdb hga hgb ha hb hm hn hcast
  go_enter Try.func128, Try.ntmps128
  go_wp2_with fail
  go_loopw [6] (fun iv wr => ∃ (i : Nat) (o : List Nat), iv = .int .i64 i ∧ i ≤ m ∧ wr.ownsRow w.heap.size 3 1 (.slice (some ⟨w.heap.size, 0, none⟩) (m + n) (m + n)) (m + n) (iV o) ∧ o.length = m + n ∧ Dg o ∧ (∀ j, i + n ≤ j → j < m + n → o[j]? = some 0) ∧ dval o = dval (la.take i) * dval lb ∧ Below w.heap.size w wr) (fun iv _ => m - (intOf iv).toNat)
  case atStart => exact ⟨0, List.replicate (m + n) 0, by go_num, Nat.zero_le _, H0.out.1, by simp, (fun x hx => by rw [(List.mem_replicate.1 hx).2]; decide), (fun j h1 h2 => by rw [List.getElem?_replicate, if_pos h2]), by rw [dval_zeros]; simp [dval], H0.out.2⟩
  case round =>
    clear H0 hmk
    obtain ⟨i, o, rfl, hi, hO, hol, hod, hoz, hov, hB⟩ := hrel
    obtain ⟨wo, hwo⟩ : ∃ wo, wo = wr := ⟨_, rfl⟩
    subst hwo
    by_cases hlt : i < m
    · obtain ⟨A, hA⟩ : ∃ A, la[i]? = some A := ⟨_, List.getElem?_eq_getElem (by rw [← HMN.out.1]; exact hlt)⟩
      have hA16 : A < 65536 := HD.out.1 A (List.mem_of_getElem? hA)
      have i1 : (i : Int) < (m : Int) := by omega
      have i2 : (0 : Int) ≤ (i : Int) := by omega
      have H := Lib.hid (And.intro hO (And.intro hol (And.intro hod (And.intro hoz (And.intro hov hB)))))
      have HA := Lib.hid hA
      clear hO hol hod hoz hov hB hA
      go_wp2_with fail
      go_loopw [7, 8] (fun cv kv wr => ∃ (c k : Nat) (o : List Nat), cv = .int .i64 c ∧ kv = .int .i64 k ∧ k ≤ n ∧ c < 65536 ∧ wr.ownsRow w.heap.size 3 1 (.slice (some ⟨w.heap.size, 0, none⟩) (m + n) (m + n)) (m + n) (iV o) ∧ o.length = m + n ∧ Dg o ∧ (∀ j, i + n ≤ j → j < m + n → o[j]? = some 0) ∧ dval o + c * 65536 ^ (i + k) = dval (la.take i) * dval lb + A * 65536 ^ i * dval (lb.take k) ∧ Below w.heap.size w wr) (fun _ kv _ => n - (intOf kv).toNat)
      case atStart => exact ⟨0, 0, _, by go_num, by go_num, Nat.zero_le _, by decide, H.out.1, H.out.2.1, H.out.2.2.1, H.out.2.2.2.1, by rw [H.out.2.2.2.2.1]; simp [dval], H.out.2.2.2.2.2⟩
      case round =>
        clear H
        obtain ⟨c, k, o, rfl, rfl, hk, hc, hO, hol, hod, hoz, hov, hB⟩ := hrel
        obtain ⟨gx, hgx, _, _, _, hco⟩ := own_cell hO (by omega)
        injection hgx with hgx
        injection hgx with hgx
        subst hgx
        by_cases hkn : k < n
        · obtain ⟨D, hD⟩ : ∃ D, lb[k]? = some D := ⟨_, List.getElem?_eq_getElem (by rw [← HMN.out.2]; exact hkn)⟩
          have hD16 : D < 65536 := HD.out.2 D (List.mem_of_getElem? hD)
          obtain ⟨q, hq⟩ : ∃ q, q = i + k := ⟨_, rfl⟩
          obtain ⟨X, hX⟩ : ∃ X, o[q]? = some X := ⟨_, List.getElem?_eq_getElem (by omega)⟩
          have hX16 : X < 65536 := hod X (List.mem_of_getElem? hX)
          obtain ⟨P, hP⟩ : ∃ P, P = A * D := ⟨_, rfl⟩
          have hPb : P ≤ 65535 * 65535 := by rw [hP]; exact Nat.mul_le_mul (by omega) (by omega)
          have cX := hco q X hX
          have cA := (hB.cell (p := ⟨ga, i, none⟩) HW.out.1).trans (HCA.out i A HA.out)
          have cD := (hB.cell (p := ⟨gb, k, none⟩) HW.out.2).trans (HCB.out k D hD)
          have fX := hO.frozenAt q
          have e1 : (i : Int) + (k : Int) = (q : Int) := by omega
          have e2 : (A : Int) * (D : Int) = (P : Int) := by rw [hP, Int.natCast_mul]
          have v1 : IntKind.i64.wrap (q : Int) = (q : Int) := IntWalk.i64_in _ (by omega)
          have v2 : IntKind.i64.wrap (P : Int) = (P : Int) := IntWalk.i64_in _ (by omega)
          have v3 : IntKind.i64.wrap ((c : Int) + (X : Int)) = (c : Int) + (X : Int) := IntWalk.i64_in _ (by omega)
          have v4 : IntKind.i64.wrap ((c : Int) + (X : Int) + (P : Int)) = (c : Int) + (X : Int) + (P : Int) := IntWalk.i64_in _ (by omega)
          have j1 : (0 : Int) ≤ (q : Int) := by omega
          have j2 : (q : Int) < (m : Int) + (n : Int) := by omega
          have j2' : (q : Int) < ((m + n : Nat) : Int) := by omega
          have j3 : (0 : Int) ≤ (k : Int) := by omega
          have j4 : (k : Int) < (n : Int) := by omega
          have HST := Lib.hid (hO.stored q (.int .i64 (((c + X + P) % 65536 : Nat) : Int)))
          have hnext : dval (o.set q ((c + X + P) % 65536)) + (c + X + P) / 65536 * 65536 ^ (i + (k + 1)) = dval (la.take i) * dval lb + A * 65536 ^ i * dval (lb.take (k + 1)) := by
            rw [← hq] at hov
            have hs := dval_set o q ((c + X + A * D) % 65536) X hX
            have hst := digit_step (dval o) _ (dval (la.take i) * dval lb) (A * 65536 ^ i * dval (lb.take k)) A D c X (65536 ^ q) hs hov
            rw [hP, show i + (k + 1) = q + 1 by omega, Nat.pow_succ, hst, dval_take lb k D hD, Nat.mul_add]
            have h2 : A * D * 65536 ^ q = A * 65536 ^ i * (D * 65536 ^ k) := by
              rw [hq, Nat.pow_add, Nat.mul_assoc, Nat.mul_assoc, Nat.mul_left_comm D]
            rw [h2]
          have HNX := Lib.hid (And.intro hnext (And.intro hol (And.intro hod (And.intro hoz hB))))
          have HQ := Lib.hid hq
          have HPB2 : Hid (c + X + P ≤ 65535 + 65535 + 65535 * 65535) := Lib.hid (by omega)
          have HO3 := Lib.hid hO
          clear hnext hov hO hol hod hoz hB hX hco hq hP hD hPb
          go_upto_region 9 with fail
          go_quiet (fail)
          obtain ⟨W3, hW3⟩ : ∃ W, W = wr.drewN nq := ⟨_, rfl⟩
          have HST3 : Hid ((W3.setCell ⟨w.heap.size, q, none⟩ (.int .i64 (((c + X + P) % 65536 : Nat) : Int))).ownsRow w.heap.size 3 1 (.slice (some ⟨w.heap.size, 0, none⟩) (m + n) (m + n)) (m + n) (iV (o.set q ((c + X + P) % 65536))) ∧ Below w.heap.size w (W3.setCell ⟨w.heap.size, q, none⟩ (.int .i64 (((c + X + P) % 65536 : Nat) : Int)))) := Lib.hid (by
            have h0 : W3.ownsRow w.heap.size 3 1 (.slice (some ⟨w.heap.size, 0, none⟩) (m + n) (m + n)) (m + n) (iV o) := by rw [hW3]; exact HO3.out
            have h1 := (h0.stored q (.int .i64 (((c + X + P) % 65536 : Nat) : Int)))
            have hb3 : Below w.heap.size w W3 := by rw [hW3]; exact below_drewN' HNX.out.2.2.2.2 nq
            rw [iV_set] at h1
            exact ⟨h1.1, hb3.setCell (Nat.le_refl _) _⟩)
          have cX3 : W3.cell? ⟨w.heap.size, q, none⟩ = some (.int .i64 (X : Nat)) := by rw [hW3]; exact cX
          have fX3 : W3.frozen? ⟨w.heap.size, q, none⟩ = false := by rw [hW3]; exact fX
          rw [← hW3]
          clear hW3 cX fX cA cD HST
          go_wp2
          have qm := carry_mod c X P
          have qd := carry_div c X P (Nat.le_trans HPB2.out (by decide))
          have hbnd := carry_lt c X P HPB2.out
          rw [qm, qd]
          refine ⟨⟨(c + X + P) / 65536, k + 1, o.set q ((c + X + P) % 65536), rfl, by go_num, by omega, hbnd, HST3.out.1, by rw [List.length_set]; exact HNX.out.2.1, HNX.out.2.2.1.set _ _ (Nat.mod_lt _ (by decide)), fun j h1 h2 => ?_, HNX.out.1, HST3.out.2⟩, by simp [intOf]; omega⟩
          have := HQ.out
          rw [List.getElem?_set_ne (by omega)]
          exact HNX.out.2.2.2.1 j h1 h2
        · have hkn2 : k = n := by omega
          subst hkn2
          obtain ⟨q, hq⟩ : ∃ q, q = i + k := ⟨_, rfl⟩
          have hX := hoz q (by omega) (by omega)
          have cX := hco q 0 hX
          have fX := hO.frozenAt q
          have e1 : (i : Int) + (k : Int) = (q : Int) := by omega
          have v1 : IntKind.i64.wrap (q : Int) = (q : Int) := IntWalk.i64_in _ (by omega)
          have j1 : (0 : Int) ≤ (q : Int) := by omega
          have j2 : (q : Int) < (m : Int) + (k : Int) := by omega
          have HST3 : Hid ((wr.setCell ⟨w.heap.size, q, none⟩ (.int .i64 (c : Nat))).ownsRow w.heap.size 3 1 (.slice (some ⟨w.heap.size, 0, none⟩) (m + k) (m + k)) (m + k) (iV (o.set q c)) ∧ Below w.heap.size w (wr.setCell ⟨w.heap.size, q, none⟩ (.int .i64 (c : Nat)))) := Lib.hid (by
            have h1 := (hO.stored q (.int .i64 (c : Nat)))
            rw [iV_set] at h1
            exact ⟨h1.1, hB.setCell (Nat.le_refl _) _⟩)
          have hnext : dval (o.set q c) = dval (la.take (i + 1)) * dval lb := by
            have hs := dval_set o q c 0 hX
            rw [Nat.zero_mul, Nat.add_zero] at hs
            have htk : lb.take k = lb := List.take_of_length_le (by rw [← HMN.out.2]; exact Nat.le_refl _)
            rw [htk, ← hq] at hov
            rw [hs, hov, dval_take la i A HA.out, Nat.add_mul]
          have HNX := Lib.hid (And.intro hnext (And.intro hol (And.intro hod hoz)))
          have HQ := Lib.hid hq
          clear hnext hov hO hol hod hoz hB hX hco hq
          go_wp2
          refine ⟨⟨i + 1, o.set q c, by go_num, by omega, HST3.out.1, by rw [List.length_set]; exact HNX.out.2.1, HNX.out.2.2.1.set _ _ hc, fun j h1 h2 => ?_, HNX.out.1, HST3.out.2⟩, by simp [intOf]; omega⟩
          have := HQ.out
          rw [List.getElem?_set_ne (by omega)]
          exact HNX.out.2.2.2 j (by omega) h2
    · have him : i = m := by omega
      have htk : la.take i = la := List.take_of_length_le (by rw [← HMN.out.1]; omega)
      rw [htk] at hov
      have H := Lib.hid (And.intro hO (And.intro hol (And.intro hod (And.intro hov hB))))
      clear hO hol hod hoz hov hB htk him
      go_wp2
      go_ret
      refine ⟨_, o, rfl, ?_, by rw [← HMN.out.1, ← HMN.out.2]; exact H.out.2.1, H.out.2.2.1, H.out.2.2.2.1, H.out.2.2.2.2⟩
      rw [← HMN.out.1, ← HMN.out.2]
      exact H.out.1
end Go.Proofs.Ytgemhgllifhckaa
namespace Go.Proofs.Ytgemhgllifhckaa
open Go.RowKit
set_option linter.unusedVariables false
set_option linter.unusedSimpArgs false
def MostP (C : Prop) (w : World) (e : Ending) (w' : World) : Prop := (∃ R : Bool, e = .returned (.bool R) ∧ (R = true ↔ C)) ∧ Below w.heap.size w w'
theorem MostP.yes {C : Prop} {w w' : World} (h : C) (hb : Below w.heap.size w w') : MostP C w (.returned (.bool true)) w' := ⟨⟨true, rfl, fun _ => h, fun _ => rfl⟩, hb⟩
theorem MostP.no {C : Prop} {w w' : World} (h : ¬ C) (hb : Below w.heap.size w w') : MostP C w (.returned (.bool false)) w' := ⟨⟨false, rfl, (fun h => by cases h), fun h2 => absurd h2 h⟩, hb⟩
theorem dval_split : ∀ (l : List Nat) (k : Nat), dval l = dval (l.take k) + 65536 ^ k * dval (l.drop k) := by
  intro l
  induction l with
  | nil => intro k; simp [dval]
  | cons a l ih =>
    intro k
    cases k with
    | zero => simp [dval]
    | succ k =>
      simp only [List.take_succ_cons, List.drop_succ_cons, dval, Nat.pow_succ]
      rw [ih k, Nat.mul_add]
      have : 65536 ^ k * 65536 * dval (l.drop k) = 65536 * (65536 ^ k * dval (l.drop k)) := by rw [Nat.mul_right_comm, Nat.mul_comm]
      rw [this]; omega
theorem dval_drop_one {l : List Nat} {i y : Nat} (h : l[i]? = some y) : dval (l.drop i) = y + 65536 * dval (l.drop (i + 1)) := by
  have hi := (List.getElem?_eq_some_iff.1 h).1
  have he := (List.getElem?_eq_some_iff.1 h).2
  rw [List.drop_eq_getElem_cons hi, he, dval]
theorem drop_bd (l : List Nat) (L j : Nat) (h : L ≤ j) (hv : dval l ≤ 4096 * 65536 ^ L) : dval (l.drop j) ≤ 4096 := by
  have h1 := dval_split l j
  have h2 : 65536 ^ L ≤ 65536 ^ j := Nat.pow_le_pow_right (by decide) h
  have h3 : 65536 ^ L * dval (l.drop j) ≤ 65536 ^ j * dval (l.drop j) := Nat.mul_le_mul_right _ h2
  have h4 : 65536 ^ L * dval (l.drop j) ≤ 65536 ^ L * 4096 := by rw [Nat.mul_comm _ 4096]; omega
  exact Nat.le_of_mul_le_mul_left h4 (Nat.pow_pos (by decide))
theorem take_lt : ∀ (l : List Nat) (k : Nat), Dg l → dval (l.take k) < 65536 ^ k := by
  intro l
  induction l with
  | nil => intro k _; simp [dval]; exact Nat.pow_pos (by decide)
  | cons a l ih =>
    intro k h
    cases k with
    | zero => simp [dval]
    | succ k =>
      have h1 := ih k (fun x hx => h x (by simp [hx]))
      have h2 := h a (by simp)
      simp only [List.take_succ_cons, dval, Nat.pow_succ]
      omega
theorem take_zero : ∀ (l : List Nat) (k : Nat), k ≤ l.length → (dval (l.take k) = 0 ↔ ¬ ∃ t, t < k ∧ l.getD t 0 ≠ 0) := by
  intro l
  induction l with
  | nil => intro k hk; simp at hk; subst hk; simp [dval]
  | cons a l ih =>
    intro k hk
    cases k with
    | zero => simp [dval]
    | succ k =>
      have h1 := ih k (by simpa using hk)
      simp only [List.take_succ_cons, dval]
      constructor
      · rintro h ⟨t, ht, hne⟩
        cases t with
        | zero => simp at hne; omega
        | succ t => exact h1.1 (by omega) ⟨t, by omega, by simpa using hne⟩
      · intro h
        have ha : a = 0 := by
          rcases Nat.eq_zero_or_pos a with h2 | h2
          · exact h2
          · exact absurd ⟨0, by omega, by simp; omega⟩ h
        have h3 := h1.2 (fun ⟨t, ht, hne⟩ => h ⟨t + 1, by omega, by simpa using hne⟩)
        omega
theorem most_end (l : List Nat) (L n : Nat) (hd : Dg l) (hL : L ≤ l.length) : dval l ≤ n * 65536 ^ L ↔ dval (l.drop L) < n ∨ (dval (l.drop L) = n ∧ ¬ ∃ t, t < L ∧ l.getD t 0 ≠ 0) := by
  have h1 := dval_split l L
  have h2 := take_lt l L hd
  have h3 := big_le (1 * 65536 ^ L) (65536 ^ L) 1 (dval (l.drop L)) 0 (dval (l.take L)) n rfl (by decide) h2
  rw [Nat.one_mul, Nat.zero_mul, Nat.add_zero] at h3
  rw [← take_zero l L hL, h1, Nat.add_comm, Nat.mul_comm (65536 ^ L), h3]
  constructor
  · rintro (h | ⟨h, _, h4⟩)
    · exact .inl h
    · exact .inr ⟨h, h4⟩
  · rintro (h | ⟨h, h4⟩)
    · exact .inl h
    · exact .inr ⟨h, rfl, h4⟩
theorem own_below {w w' : World} {base n : Nat} {e : TypeId} {size : Nat} {v : Value} {xs : List Value} (h : w.ownsRow base e size v n xs) (hb : Below w.heap.size w w') : w'.ownsRow base e size v n xs := World.ownsRow.kept h (below_grown hb none) (by cases v.ownBlock <;> simp)
set_option maxRecDepth 100000 in
set_option maxHeartbeats 2000000 in
theorem most_2 (x n : Nat) (hx : x ≤ 68719476736) (hx2 : x < 68719476736) (hn : n ≤ 4294967295) (w : World) :
    Calls Try.prog 122 #[.int .i64 x, .int .i64 2, .int .i64 n] w (MostP (x * x ≤ n * 65536 ^ 4) w) := by
  obtain ⟨d0, hd0⟩ : ∃ d, d = x % 65536 := ⟨_, rfl⟩
  obtain ⟨d1, hd1⟩ : ∃ d, d = x / 65536 % 65536 := ⟨_, rfl⟩
  obtain ⟨d2, hd2⟩ : ∃ d, d = x / 4294967296 := ⟨_, rfl⟩
  have hv : dval [d0, d1, d2] = x := by simp only [dval]; omega
  have hdg : Dg [d0, d1, d2] := by
    intro y hy
    simp only [List.mem_cons, List.not_mem_nil, or_false] at hy
    omega
  have e0 : (x : Int) % 65536 = (d0 : Int) := by omega
  have e1 : (x : Int) / 65536 % 65536 = (d1 : Int) := by omega
  have e2 : (x : Int) / 4294967296 = (d2 : Int) := by omega
  obtain ⟨V1, hV1⟩ : ∃ V, V = w.alloc (Obj.cells #[.int .i64 d0, .int .i64 d1, .int .i64 d2] 3) := ⟨_, rfl⟩
  obtain ⟨p1, hp1⟩ : ∃ p, p = w.heap.size := ⟨_, rfl⟩
  have hO1 : V1.ownsRow w.heap.size 3 1 (.slice (some ⟨p1, 0, none⟩) 3 3) 3 (iV [d0, d1, d2]) := by rw [hV1, hp1]; exact World.ownsRow_lit w #[.int .i64 d0, .int .i64 d1, .int .i64 d2] 3 (Nat.le_refl _) (by decide) rfl
  have hB1 : Below w.heap.size w V1 := by rw [hV1]; exact (Below.refl _ _).alloc (Nat.le_refl _) _
  have HPR := Lib.hid (product_any V1 w.heap.size w.heap.size _ _ [d0, d1, d2] [d0, d1, d2] hO1 hO1 (by simp) (by simp) (by simp) (by simp) hdg hdg)
  have hxx : x * x ≤ 68719476736 * 68719476736 := Nat.mul_le_mul hx hx
  have HXB : Hid (x * x ≤ 4096 * 65536 ^ 4) := Lib.hid (Nat.le_trans hxx (by decide))
  have H1 := Lib.hid (And.intro hO1 (And.intro hB1 (And.intro hv hdg)))
  have HV1 := Lib.hid hV1
  have HP1 := Lib.hid hp1
  clear hd0 hd1 hd2 hv hdg hV1 hp1 hO1 hB1 hxx
  go_enter Try.func122, Try.ntmps122
  go_wp2_with fail
  rw [← HP1.out, ← HV1.out]
  refine HPR.out.mono ?_
  rintro e w2 ⟨v2, lp, rfl, hO2, hl2, hd2, hv2, hb2⟩
  have hB2 : Below w.heap.size w w2 := H1.out.2.1.trans (hb2.mono H1.out.2.1.size)
  rw [H1.out.2.2.1] at hv2
  obtain ⟨ap, cp, rfl⟩ := slice_own hO2
  have HP := Lib.hid (And.intro (show w2.ownsRow V1.heap.size 3 1 (.slice ap 6 cp) 6 (iV lp) from hO2) (And.intro (show lp.length = 6 from hl2) (And.intro hd2 (And.intro hv2 hB2))))
  clear hO2 hl2 hd2 hv2 hb2 hB2 HPR
  obtain ⟨gp, rfl, hgp1, hgp2, _, hcp⟩ := own_cell HP.out.1 (by decide)
  have hall : ∀ j : Nat, j < 6 → ∃ y, lp[j]? = some y ∧ y < 65536 ∧ w2.cell? ⟨gp, j, none⟩ = some (.int .i64 (y : Nat)) := fun j hj => by
    have hj2 : j < lp.length := by rw [HP.out.2.1]; exact hj
    exact ⟨lp[j], List.getElem?_eq_getElem hj2, HP.out.2.2.1 _ (List.getElem_mem hj2), hcp j _ (List.getElem?_eq_getElem hj2)⟩
  have HALL := Lib.hid hall
  have HBD : Hid (∀ j, 4 ≤ j → dval (lp.drop j) ≤ 4096) := Lib.hid (fun j hj => drop_bd lp 4 j hj (by rw [HP.out.2.2.2.1]; exact HXB.out))
  clear hcp hall
  go_wp2_with fail
  go_loopw [9, 10, 11] (fun a b c wr => ∃ (j : Nat) (rb : Bool), c = .int .i64 ((j : Int) - 1) ∧ j ≤ 6 ∧ a = .int .i64 ((dval (lp.drop (max j 4)) : Nat) : Int) ∧ b = .bool rb ∧ (rb = true ↔ ∃ t, j ≤ t ∧ t < 4 ∧ lp.getD t 0 ≠ 0) ∧ wr = w2) (fun _ _ c _ => (intOf c + 1).toNat)
  case atStart => exact ⟨6, false, by simp, Nat.le_refl _, by rw [List.drop_of_length_le (by rw [HP.out.2.1]; decide)]; rfl, rfl, ⟨fun h => (by cases h), fun ⟨t, h1, h2, _⟩ => absurd h1 (by omega)⟩, rfl⟩
  case round =>
    obtain ⟨j, rb, rfl, hj, rfl, rfl, hrb, rfl⟩ := hrel
    by_cases hj0 : 0 < j
    · obtain ⟨i, rfl⟩ : ∃ i, j = i + 1 := ⟨j - 1, by omega⟩
      obtain ⟨y, hy, hy2, hcy⟩ := HALL.out i (by omega)
      have e1 : ((i + 1 : Nat) : Int) - 1 = (i : Int) := by omega
      have i1 : (0 : Int) ≤ (i : Int) := by omega
      have i2 : (i : Int) < 6 := by omega
      have hyd : lp.getD i 0 = y := by rw [List.getD_eq_getElem?_getD, hy]; rfl
      rw [e1]
      by_cases hL : 4 ≤ i
      · have i3 : (4 : Int) ≤ (i : Int) := by omega
        have hmax : max (i + 1) 4 = i + 1 := by omega
        rw [hmax]
        have hb1 := HBD.out (i + 1) (by omega)
        have hdv : dval (lp.drop i) = y + 65536 * dval (lp.drop (i + 1)) := dval_drop_one hy
        obtain ⟨WH, hWH⟩ : ∃ W, W = dval (lp.drop (i + 1)) := ⟨_, rfl⟩
        rw [← hWH] at hb1 hdv ⊢
        have v1 : IntKind.i64.wrap ((WH : Int) * 65536) = (WH : Int) * 65536 := IntWalk.i64_in _ (by omega)
        have v2 : IntKind.i64.wrap ((WH : Int) * 65536 + (y : Int)) = (WH : Int) * 65536 + (y : Int) := IntWalk.i64_in _ (by omega)
        have HN : Hid (max i 4 = i) := Lib.hid (by omega)
        have HDV := Lib.hid hdv
        have HRB : Hid (rb = true ↔ ∃ t, i ≤ t ∧ t < 4 ∧ lp.getD t 0 ≠ 0) := Lib.hid (hrb.trans ⟨fun ⟨t, h1, h2, h3⟩ => ⟨t, by omega, h2, h3⟩, fun ⟨t, h1, h2, h3⟩ => absurd h2 (by omega)⟩)
        clear hdv hWH hrb hmax hyd
        go_wp2
        exact ⟨⟨i, rb, rfl, by omega, by rw [HN.out, HDV.out]; congr 1; omega, rfl, HRB.out, trivial⟩, by simp [intOf]⟩
      · have i3 : ¬ (4 : Int) ≤ (i : Int) := by omega
        have hmax : max (i + 1) 4 = 4 := by omega
        have HN : Hid (max i 4 = 4) := Lib.hid (by omega)
        rw [hmax]
        obtain ⟨WH, hWH⟩ : ∃ W, W = dval (lp.drop 4) := ⟨_, rfl⟩
        rw [← hWH]
        have HWH := Lib.hid hWH
        have HRB : Hid (∀ b2 : Bool, (b2 = true ↔ (rb = true ∨ y ≠ 0)) → (b2 = true ↔ ∃ t, i ≤ t ∧ t < 4 ∧ lp.getD t 0 ≠ 0)) := Lib.hid (fun b2 h => h.trans ⟨fun h => h.elim (fun h => by obtain ⟨t, h1, h2, h3⟩ := hrb.1 h; exact ⟨t, by omega, h2, h3⟩) (fun h => ⟨i, Nat.le_refl _, by omega, by rw [hyd]; exact h⟩), fun ⟨t, h1, h2, h3⟩ => by
          by_cases ht : t = i
          · subst ht; rw [hyd] at h3; exact .inr h3
          · exact .inl (hrb.2 ⟨t, by omega, h2, h3⟩)⟩)
        clear hWH hrb hmax hyd
        cases rb with
        | true =>
          go_wp2
          exact ⟨⟨i, true, rfl, by omega, by rw [HN.out, HWH.out], rfl, HRB.out true (by simp), trivial⟩, by simp [intOf]⟩
        | false =>
          by_cases hy0 : y = 0
          · have hyb : ((y : Int) != 0) = false := by simp [hy0]
            go_wp2
            exact ⟨⟨i, false, rfl, by omega, by rw [HN.out, HWH.out], rfl, HRB.out false (by simp [hy0]), trivial⟩, by simp [intOf]⟩
          · have hyb : ((y : Int) != 0) = true := by simp [hy0]
            have HY0 := Lib.hid hy0
            clear hy0
            go_wp2
            exact ⟨⟨i, true, rfl, by omega, by rw [HN.out, HWH.out], rfl, HRB.out true (by simp [HY0.out]), trivial⟩, by simp [intOf]⟩
    · obtain rfl : j = 0 := by omega
      have hC := most_end lp 4 n HP.out.2.2.1 (by rw [HP.out.2.1]; decide)
      rw [show max 0 4 = 4 from rfl]
      obtain ⟨WH, hWH⟩ : ∃ W, W = dval (lp.drop 4) := ⟨_, rfl⟩
      have hbw := HBD.out 4 (Nat.le_refl _)
      rw [← hWH] at hC hbw ⊢
      have hrb2 : (∃ t, t < 4 ∧ lp.getD t 0 ≠ 0) ↔ rb = true := ⟨fun ⟨t, h1, h2⟩ => hrb.2 ⟨t, Nat.zero_le _, h1, h2⟩, fun h => by obtain ⟨t, _, h1, h2⟩ := hrb.1 h; exact ⟨t, h1, h2⟩⟩
      rw [hrb2, HP.out.2.2.2.1] at hC
      have HC := Lib.hid hC
      have HBF := HP.out.2.2.2.2
      have HBF := Lib.hid HBF
      clear hrb hrb2 hC hWH
      by_cases c1 : WH < n
      · have HY := Lib.hid (HC.out.2 (.inl c1))
        go_wp2
        go_ret
        exact MostP.yes HY.out HBF.out
      · by_cases c2 : WH = n
        · subst c2
          cases rb with
          | true =>
            have HNo := Lib.hid (fun h => by have := HC.out.1 h; simp at this : ¬ _)
            go_wp2
            go_ret
            exact MostP.no HNo.out HBF.out
          | false =>
            have HY := Lib.hid (HC.out.2 (.inr ⟨rfl, by simp⟩))
            go_wp2
            go_ret
            exact MostP.yes HY.out HBF.out
        · have HNo := Lib.hid (fun h => by have := HC.out.1 h; omega : ¬ _)
          have d2 : ((WH : Int) == (n : Int)) = false := by rw [beq_eq_false_iff_ne]; omega
          have HD : Hid (decide (WH < n) = false) := Lib.hid (decide_eq_false c1)
          clear c2 hbw HC HBD HXB HALL HP
          cases rb
          case true =>
            go_wp2
            go_ret
            exact MostP.no HNo.out HBF.out
          case false =>
            go_wp2
            go_ret
            exact MostP.no HNo.out HBF.out
set_option maxRecDepth 100000 in
set_option maxHeartbeats 2000000 in
theorem most_3 (x n : Nat) (hx : x ≤ 68719476736) (hx2 : x < 68719476736) (hn : n ≤ 4294967295) (w : World) :
    Calls Try.prog 122 #[.int .i64 x, .int .i64 3, .int .i64 n] w (MostP (x * x * x ≤ n * 65536 ^ 6) w) := by
  obtain ⟨d0, hd0⟩ : ∃ d, d = x % 65536 := ⟨_, rfl⟩
  obtain ⟨d1, hd1⟩ : ∃ d, d = x / 65536 % 65536 := ⟨_, rfl⟩
  obtain ⟨d2, hd2⟩ : ∃ d, d = x / 4294967296 := ⟨_, rfl⟩
  have hv : dval [d0, d1, d2] = x := by simp only [dval]; omega
  have hdg : Dg [d0, d1, d2] := by
    intro y hy
    simp only [List.mem_cons, List.not_mem_nil, or_false] at hy
    omega
  have e0 : (x : Int) % 65536 = (d0 : Int) := by omega
  have e1 : (x : Int) / 65536 % 65536 = (d1 : Int) := by omega
  have e2 : (x : Int) / 4294967296 = (d2 : Int) := by omega
  obtain ⟨V1, hV1⟩ : ∃ V, V = w.alloc (Obj.cells #[.int .i64 d0, .int .i64 d1, .int .i64 d2] 3) := ⟨_, rfl⟩
  obtain ⟨p1, hp1⟩ : ∃ p, p = w.heap.size := ⟨_, rfl⟩
  have hO1 : V1.ownsRow w.heap.size 3 1 (.slice (some ⟨p1, 0, none⟩) 3 3) 3 (iV [d0, d1, d2]) := by rw [hV1, hp1]; exact World.ownsRow_lit w #[.int .i64 d0, .int .i64 d1, .int .i64 d2] 3 (Nat.le_refl _) (by decide) rfl
  have hB1 : Below w.heap.size w V1 := by rw [hV1]; exact (Below.refl _ _).alloc (Nat.le_refl _) _
  have HPR := Lib.hid (product_any V1 w.heap.size w.heap.size _ _ [d0, d1, d2] [d0, d1, d2] hO1 hO1 (by simp) (by simp) (by simp) (by simp) hdg hdg)
  have hxx : x * x ≤ 68719476736 * 68719476736 := Nat.mul_le_mul hx hx
  have HXB : Hid (x * x * x ≤ 4096 * 65536 ^ 6) := Lib.hid (Nat.le_trans (Nat.mul_le_mul hxx hx) (by decide))
  have H1 := Lib.hid (And.intro hO1 (And.intro hB1 (And.intro hv hdg)))
  have HV1 := Lib.hid hV1
  have HP1 := Lib.hid hp1
  clear hd0 hd1 hd2 hv hdg hV1 hp1 hO1 hB1 hxx
  go_enter Try.func122, Try.ntmps122
  go_wp2_with fail
  rw [← HP1.out, ← HV1.out]
  refine HPR.out.mono ?_
  rintro e w2 ⟨v2, lp, rfl, hO2, hl2, hd2, hv2, hb2⟩
  have HO1 := Lib.hid (own_below H1.out.1 hb2)
  have HPR2 := Lib.hid (product_any w2 V1.heap.size w.heap.size _ _ lp [d0, d1, d2] (by rw [hl2]; exact hO2) HO1.out (by rw [hl2]; simp) (by simp) (by rw [hl2]; simp) (by simp) hd2 H1.out.2.2.2)
  have hB2 : Below w.heap.size w w2 := H1.out.2.1.trans (hb2.mono H1.out.2.1.size)
  have HB2 := Lib.hid hB2
  rw [H1.out.2.2.1] at hv2
  have HV2 := Lib.hid (And.intro hv2 hl2)
  clear hO2 hl2 hd2 hv2 hb2 hB2 HPR
  go_wp2_with fail
  refine HPR2.out.mono ?_
  rintro e w3 ⟨v3, lq, rfl, hO3, hl3, hd3, hv3, hb3⟩
  rw [HV2.out.2] at hO3 hl3
  rw [HV2.out.1, H1.out.2.2.1] at hv3
  have hB3 : Below w.heap.size w w3 := HB2.out.trans (hb3.mono HB2.out.size)
  obtain ⟨ap, cp, rfl⟩ := slice_own hO3
  have HP := Lib.hid (And.intro (show w3.ownsRow w2.heap.size 3 1 (.slice ap 9 cp) 9 (iV lq) from hO3) (And.intro (show lq.length = 9 from hl3) (And.intro hd3 (And.intro hv3 hB3))))
  clear hO3 hl3 hd3 hv3 hb3 hB3 HPR2 HV2
  obtain ⟨gp, rfl, hgp1, hgp2, _, hcp⟩ := own_cell HP.out.1 (by decide)
  have hall : ∀ j : Nat, j < 9 → ∃ y, lq[j]? = some y ∧ y < 65536 ∧ w3.cell? ⟨gp, j, none⟩ = some (.int .i64 (y : Nat)) := fun j hj => by
    have hj2 : j < lq.length := by rw [HP.out.2.1]; exact hj
    exact ⟨lq[j], List.getElem?_eq_getElem hj2, HP.out.2.2.1 _ (List.getElem_mem hj2), hcp j _ (List.getElem?_eq_getElem hj2)⟩
  have HALL := Lib.hid hall
  have HBD : Hid (∀ j, 6 ≤ j → dval (lq.drop j) ≤ 4096) := Lib.hid (fun j hj => drop_bd lq 6 j hj (by rw [HP.out.2.2.2.1]; exact HXB.out))
  clear hcp hall
  go_wp2_with fail
  go_loopw [9, 10, 11] (fun a b c wr => ∃ (j : Nat) (rb : Bool), c = .int .i64 ((j : Int) - 1) ∧ j ≤ 9 ∧ a = .int .i64 ((dval (lq.drop (max j 6)) : Nat) : Int) ∧ b = .bool rb ∧ (rb = true ↔ ∃ t, j ≤ t ∧ t < 6 ∧ lq.getD t 0 ≠ 0) ∧ wr = w3) (fun _ _ c _ => (intOf c + 1).toNat)
  case atStart => exact ⟨9, false, by simp, Nat.le_refl _, by rw [List.drop_of_length_le (by rw [HP.out.2.1]; decide)]; rfl, rfl, ⟨fun h => (by cases h), fun ⟨t, h1, h2, _⟩ => absurd h1 (by omega)⟩, rfl⟩
  case round =>
    obtain ⟨j, rb, rfl, hj, rfl, rfl, hrb, rfl⟩ := hrel
    by_cases hj0 : 0 < j
    · obtain ⟨i, rfl⟩ : ∃ i, j = i + 1 := ⟨j - 1, by omega⟩
      obtain ⟨y, hy, hy2, hcy⟩ := HALL.out i (by omega)
      have e1 : ((i + 1 : Nat) : Int) - 1 = (i : Int) := by omega
      have i1 : (0 : Int) ≤ (i : Int) := by omega
      have i2 : (i : Int) < 9 := by omega
      have hyd : lq.getD i 0 = y := by rw [List.getD_eq_getElem?_getD, hy]; rfl
      rw [e1]
      by_cases hL : 6 ≤ i
      · have i3 : (6 : Int) ≤ (i : Int) := by omega
        have hmax : max (i + 1) 6 = i + 1 := by omega
        rw [hmax]
        have hb1 := HBD.out (i + 1) (by omega)
        have hdv : dval (lq.drop i) = y + 65536 * dval (lq.drop (i + 1)) := dval_drop_one hy
        obtain ⟨WH, hWH⟩ : ∃ W, W = dval (lq.drop (i + 1)) := ⟨_, rfl⟩
        rw [← hWH] at hb1 hdv ⊢
        have v1 : IntKind.i64.wrap ((WH : Int) * 65536) = (WH : Int) * 65536 := IntWalk.i64_in _ (by omega)
        have v2 : IntKind.i64.wrap ((WH : Int) * 65536 + (y : Int)) = (WH : Int) * 65536 + (y : Int) := IntWalk.i64_in _ (by omega)
        have HN : Hid (max i 6 = i) := Lib.hid (by omega)
        have HDV := Lib.hid hdv
        have HRB : Hid (rb = true ↔ ∃ t, i ≤ t ∧ t < 6 ∧ lq.getD t 0 ≠ 0) := Lib.hid (hrb.trans ⟨fun ⟨t, h1, h2, h3⟩ => ⟨t, by omega, h2, h3⟩, fun ⟨t, h1, h2, h3⟩ => absurd h2 (by omega)⟩)
        clear hdv hWH hrb hmax hyd
        go_wp2
        exact ⟨⟨i, rb, rfl, by omega, by rw [HN.out, HDV.out]; congr 1; omega, rfl, HRB.out, trivial⟩, by simp [intOf]⟩
      · have i3 : ¬ (6 : Int) ≤ (i : Int) := by omega
        have hmax : max (i + 1) 6 = 6 := by omega
        have HN : Hid (max i 6 = 6) := Lib.hid (by omega)
        rw [hmax]
        obtain ⟨WH, hWH⟩ : ∃ W, W = dval (lq.drop 6) := ⟨_, rfl⟩
        rw [← hWH]
        have HWH := Lib.hid hWH
        have HRB : Hid (∀ b2 : Bool, (b2 = true ↔ (rb = true ∨ y ≠ 0)) → (b2 = true ↔ ∃ t, i ≤ t ∧ t < 6 ∧ lq.getD t 0 ≠ 0)) := Lib.hid (fun b2 h => h.trans ⟨fun h => h.elim (fun h => by obtain ⟨t, h1, h2, h3⟩ := hrb.1 h; exact ⟨t, by omega, h2, h3⟩) (fun h => ⟨i, Nat.le_refl _, by omega, by rw [hyd]; exact h⟩), fun ⟨t, h1, h2, h3⟩ => by
          by_cases ht : t = i
          · subst ht; rw [hyd] at h3; exact .inr h3
          · exact .inl (hrb.2 ⟨t, by omega, h2, h3⟩)⟩)
        clear hWH hrb hmax hyd
        cases rb with
        | true =>
          go_wp2
          exact ⟨⟨i, true, rfl, by omega, by rw [HN.out, HWH.out], rfl, HRB.out true (by simp), trivial⟩, by simp [intOf]⟩
        | false =>
          by_cases hy0 : y = 0
          · have hyb : ((y : Int) != 0) = false := by simp [hy0]
            go_wp2
            exact ⟨⟨i, false, rfl, by omega, by rw [HN.out, HWH.out], rfl, HRB.out false (by simp [hy0]), trivial⟩, by simp [intOf]⟩
          · have hyb : ((y : Int) != 0) = true := by simp [hy0]
            have HY0 := Lib.hid hy0
            clear hy0
            go_wp2
            exact ⟨⟨i, true, rfl, by omega, by rw [HN.out, HWH.out], rfl, HRB.out true (by simp [HY0.out]), trivial⟩, by simp [intOf]⟩
    · obtain rfl : j = 0 := by omega
      have hC := most_end lq 6 n HP.out.2.2.1 (by rw [HP.out.2.1]; decide)
      rw [show max 0 6 = 6 from rfl]
      obtain ⟨WH, hWH⟩ : ∃ W, W = dval (lq.drop 6) := ⟨_, rfl⟩
      have hbw := HBD.out 6 (Nat.le_refl _)
      rw [← hWH] at hC hbw ⊢
      have hrb2 : (∃ t, t < 6 ∧ lq.getD t 0 ≠ 0) ↔ rb = true := ⟨fun ⟨t, h1, h2⟩ => hrb.2 ⟨t, Nat.zero_le _, h1, h2⟩, fun h => by obtain ⟨t, _, h1, h2⟩ := hrb.1 h; exact ⟨t, h1, h2⟩⟩
      rw [hrb2, HP.out.2.2.2.1] at hC
      have HC := Lib.hid hC
      have HBF := HP.out.2.2.2.2
      have HBF := Lib.hid HBF
      clear hrb hrb2 hC hWH
      by_cases c1 : WH < n
      · have HY := Lib.hid (HC.out.2 (.inl c1))
        go_wp2
        go_ret
        exact MostP.yes HY.out HBF.out
      · by_cases c2 : WH = n
        · subst c2
          cases rb with
          | true =>
            have HNo := Lib.hid (fun h => by have := HC.out.1 h; simp at this : ¬ _)
            go_wp2
            go_ret
            exact MostP.no HNo.out HBF.out
          | false =>
            have HY := Lib.hid (HC.out.2 (.inr ⟨rfl, by simp⟩))
            go_wp2
            go_ret
            exact MostP.yes HY.out HBF.out
        · have HNo := Lib.hid (fun h => by have := HC.out.1 h; omega : ¬ _)
          have d2 : ((WH : Int) == (n : Int)) = false := by rw [beq_eq_false_iff_ne]; omega
          have HD : Hid (decide (WH < n) = false) := Lib.hid (decide_eq_false c1)
          clear c2 hbw HC HBD HXB HALL HP
          cases rb
          case true =>
            go_wp2
            go_ret
            exact MostP.no HNo.out HBF.out
          case false =>
            go_wp2
            go_ret
            exact MostP.no HNo.out HBF.out
end Go.Proofs.Ytgemhgllifhckaa
namespace Go.Proofs.Ytgemhgllifhckaa
open Go.RowKit
set_option linter.unusedVariables false
set_option linter.unusedSimpArgs false
def RRootR (C : Nat → Prop) (w : World) (e : Ending) (w' : World) : Prop := (∃ r : Nat, e = .returned (.int .i64 ((r % 4294967296 : Nat) : Int)) ∧ C r ∧ ¬ C (r + 1)) ∧ Below w.heap.size w w'
theorem le_3 (x n : Nat) : (x * x * x ≤ n * 65536 ^ 6) ↔ CubeLe x n := by
  unfold CubeLe
  rw [show (65536 : Nat) ^ 6 = 4294967296 * 18446744073709551616 by decide]
set_option maxRecDepth 100000 in
set_option maxHeartbeats 1000000 in
theorem rroot_3 (n : Nat) (hn : n ≤ 4294967295) (htop : ¬ CubeLe 68719476736 n) (w : World) :
    Calls Try.prog 112 #[.int .i64 n, .int .i64 3] w (RRootR (fun r => CubeLe r n) w) := by
  have hz : CubeLe 0 n := Nat.le_trans (Nat.le_of_eq (by simp)) (Nat.zero_le _)
  have HT := Lib.hid htop
  have HZ := Lib.hid hz
  clear htop hz
  go_enter Try.func112, Try.ntmps112
  go_wp2_with fail
  go_loopw [5, 6] (fun a b wr => ∃ (X j : Nat), a = .int .i64 X ∧ b = .int .i64 ((j : Int) - 1) ∧ j ≤ 36 ∧ X + 2 ^ j ≤ 68719476736 ∧ CubeLe X n ∧ ¬ CubeLe (X + 2 ^ j) n ∧ Below w.heap.size w wr) (fun _ b _ => (intOf b + 1).toNat)
  case atStart => exact ⟨0, 36, by simp, by simp, Nat.le_refl _, by decide, HZ.out, HT.out, Below.refl _ _⟩
  case round =>
    clear HT HZ
    obtain ⟨X, j, rfl, rfl, hj, hbd, hl, hh, hB⟩ := hrel
    have HL := Lib.hid hl
    have HH := Lib.hid hh
    clear hl hh
    by_cases hj0 : 0 < j
    · obtain ⟨i, rfl⟩ : ∃ i, j = i + 1 := ⟨j - 1, by omega⟩
      have e1 : ((i + 1 : Nat) : Int) - 1 = (i : Int) := by omega
      obtain ⟨P, hP⟩ : ∃ P, P = 2 ^ i := ⟨_, rfl⟩
      have hP2 : 2 ^ (i + 1) = P + P := by rw [Nat.pow_succ, ← hP]; omega
      have hP1 : 0 < P := by rw [hP]; exact Nat.pow_pos (by decide)
      rw [hP2] at hbd
      have e2 : (2 : Int) ^ i = (P : Int) := by rw [hP]; simp
      have e3 : ((X + P : Nat) : Int) = (X : Int) + (P : Int) := by omega
      have i1 : (0 : Int) ≤ (i : Int) := by omega
      have i2 : (i : Int) ≤ 64 := by omega
      have v1 : IntKind.i64.wrap (P : Int) = (P : Int) := IntWalk.i64_in _ (by omega)
      have v2 : IntKind.i64.wrap ((X : Int) + (P : Int)) = (X : Int) + (P : Int) := IntWalk.i64_in _ (by omega)
      have hbd2 : X + P < 68719476736 := by omega
      have HM := Lib.hid (most_3 (X + P) n (Nat.le_of_lt hbd2) hbd2 hn wr)
      rw [e3] at HM
      have HP := Lib.hid (And.intro hP2 (And.intro e3 (And.intro hbd hP)))
      have HB := Lib.hid hB
      rw [e1]
      clear hP2 hP e3 hbd hbd2 hB
      go_wp2_with fail
      refine HM.out.mono ?_
      rintro e w' ⟨⟨R, rfl, hR⟩, hb⟩
      rw [le_3] at hR
      have hB2 : Below w.heap.size w w' := HB.out.trans (hb.mono HB.out.size)
      cases R with
      | true =>
        have HN := Lib.hid (hR.1 rfl)
        have HB2 := Lib.hid hB2
        clear hR HM hB2 hb
        go_wp2
        exact ⟨⟨X + P, i, by rw [HP.out.2.1], rfl, by omega, by rw [← HP.out.2.2.2]; have := HP.out.2.2.1; omega, HN.out, by rw [← HP.out.2.2.2, Nat.add_assoc, ← HP.out.1]; exact HH.out, HB2.out⟩, by simp [intOf]⟩
      | false =>
        have HN : Hid (¬ CubeLe (X + P) n) := Lib.hid (fun h => by have := hR.2 h; cases this)
        have HB2 := Lib.hid hB2
        clear hR HM hB2 hb
        go_wp2
        exact ⟨⟨X, i, rfl, rfl, by omega, by rw [← HP.out.2.2.2]; have := HP.out.2.2.1; omega, HL.out, by rw [← HP.out.2.2.2]; exact HN.out, HB2.out⟩, by simp [intOf]⟩
    · obtain rfl : j = 0 := by omega
      have hmod : (X : Int) % 4294967296 = ((X % 4294967296 : Nat) : Int) := by omega
      have HMD := Lib.hid hmod
      have HB := Lib.hid hB
      clear hmod hB
      go_wp2
      go_ret
      exact ⟨⟨X, by simp, HL.out, HH.out⟩, HB.out⟩
theorem rroot3_any (n : Nat) (hn : n ≤ 4000) (w : World) : Calls Try.prog 112 #[.int .i64 n, .int .i64 3] w fun e w' => e = .returned (.int .i64 (k3 n : Nat)) ∧ Below w.heap.size w w' := by
  refine (rroot_3 n (by omega) (cube_top hn) w).mono ?_
  rintro e w' ⟨⟨r, rfl, h1, h2⟩, hb⟩
  exact ⟨by rw [cub_k3 h1 h2], hb⟩
theorem le_2 (x n : Nat) : (x * x ≤ n * 65536 ^ 4) ↔ SqLe x n := by
  unfold SqLe
  rw [show (65536 : Nat) ^ 4 = 18446744073709551616 by decide]
set_option maxRecDepth 100000 in
set_option maxHeartbeats 1000000 in
theorem rroot_2 (n : Nat) (hn : n ≤ 4294967295) (htop : ¬ SqLe 68719476736 n) (w : World) :
    Calls Try.prog 112 #[.int .i64 n, .int .i64 2] w (RRootR (fun r => SqLe r n) w) := by
  have hz : SqLe 0 n := Nat.le_trans (Nat.le_of_eq (by simp)) (Nat.zero_le _)
  have HT := Lib.hid htop
  have HZ := Lib.hid hz
  clear htop hz
  go_enter Try.func112, Try.ntmps112
  go_wp2_with fail
  go_loopw [5, 6] (fun a b wr => ∃ (X j : Nat), a = .int .i64 X ∧ b = .int .i64 ((j : Int) - 1) ∧ j ≤ 36 ∧ X + 2 ^ j ≤ 68719476736 ∧ SqLe X n ∧ ¬ SqLe (X + 2 ^ j) n ∧ Below w.heap.size w wr) (fun _ b _ => (intOf b + 1).toNat)
  case atStart => exact ⟨0, 36, by simp, by simp, Nat.le_refl _, by decide, HZ.out, HT.out, Below.refl _ _⟩
  case round =>
    clear HT HZ
    obtain ⟨X, j, rfl, rfl, hj, hbd, hl, hh, hB⟩ := hrel
    have HL := Lib.hid hl
    have HH := Lib.hid hh
    clear hl hh
    by_cases hj0 : 0 < j
    · obtain ⟨i, rfl⟩ : ∃ i, j = i + 1 := ⟨j - 1, by omega⟩
      have e1 : ((i + 1 : Nat) : Int) - 1 = (i : Int) := by omega
      obtain ⟨P, hP⟩ : ∃ P, P = 2 ^ i := ⟨_, rfl⟩
      have hP2 : 2 ^ (i + 1) = P + P := by rw [Nat.pow_succ, ← hP]; omega
      have hP1 : 0 < P := by rw [hP]; exact Nat.pow_pos (by decide)
      rw [hP2] at hbd
      have e2 : (2 : Int) ^ i = (P : Int) := by rw [hP]; simp
      have e3 : ((X + P : Nat) : Int) = (X : Int) + (P : Int) := by omega
      have i1 : (0 : Int) ≤ (i : Int) := by omega
      have i2 : (i : Int) ≤ 64 := by omega
      have v1 : IntKind.i64.wrap (P : Int) = (P : Int) := IntWalk.i64_in _ (by omega)
      have v2 : IntKind.i64.wrap ((X : Int) + (P : Int)) = (X : Int) + (P : Int) := IntWalk.i64_in _ (by omega)
      have hbd2 : X + P < 68719476736 := by omega
      have HM := Lib.hid (most_2 (X + P) n (Nat.le_of_lt hbd2) hbd2 hn wr)
      rw [e3] at HM
      have HP := Lib.hid (And.intro hP2 (And.intro e3 (And.intro hbd hP)))
      have HB := Lib.hid hB
      rw [e1]
      clear hP2 hP e3 hbd hbd2 hB
      go_wp2_with fail
      refine HM.out.mono ?_
      rintro e w' ⟨⟨R, rfl, hR⟩, hb⟩
      rw [le_2] at hR
      have hB2 : Below w.heap.size w w' := HB.out.trans (hb.mono HB.out.size)
      cases R with
      | true =>
        have HN := Lib.hid (hR.1 rfl)
        have HB2 := Lib.hid hB2
        clear hR HM hB2 hb
        go_wp2
        exact ⟨⟨X + P, i, by rw [HP.out.2.1], rfl, by omega, by rw [← HP.out.2.2.2]; have := HP.out.2.2.1; omega, HN.out, by rw [← HP.out.2.2.2, Nat.add_assoc, ← HP.out.1]; exact HH.out, HB2.out⟩, by simp [intOf]⟩
      | false =>
        have HN : Hid (¬ SqLe (X + P) n) := Lib.hid (fun h => by have := hR.2 h; cases this)
        have HB2 := Lib.hid hB2
        clear hR HM hB2 hb
        go_wp2
        exact ⟨⟨X, i, rfl, rfl, by omega, by rw [← HP.out.2.2.2]; have := HP.out.2.2.1; omega, HL.out, by rw [← HP.out.2.2.2]; exact HN.out, HB2.out⟩, by simp [intOf]⟩
    · obtain rfl : j = 0 := by omega
      have hmod : (X : Int) % 4294967296 = ((X % 4294967296 : Nat) : Int) := by omega
      have HMD := Lib.hid hmod
      have HB := Lib.hid hB
      clear hmod hB
      go_wp2
      go_ret
      exact ⟨⟨X, by simp, HL.out, HH.out⟩, HB.out⟩
theorem rroot2_any (n : Nat) (hn : n ≤ 200) (w : World) : Calls Try.prog 112 #[.int .i64 n, .int .i64 2] w fun e w' => e = .returned (.int .i64 (k2 n : Nat)) ∧ Below w.heap.size w w' := by
  refine (rroot_2 n (by omega) (sq_top hn) w).mono ?_
  rintro e w' ⟨⟨r, rfl, h1, h2⟩, hb⟩
  exact ⟨by rw [sq_k2 h1 h2], hb⟩
end Go.Proofs.Ytgemhgllifhckaa
namespace Go.Proofs.Ytgemhgllifhckaa
open Go.RowKit
set_option linter.unusedVariables false
set_option linter.unusedSimpArgs false
def isP (n : Nat) : Bool := decide (2 ≤ n) && (List.range 20).all (fun k => decide (n < (k + 2) * (k + 2)) || decide (n % (k + 2) ≠ 0))
theorem isP_no {n k : Nat} (hk : k < 20) (h1 : (k + 2) * (k + 2) ≤ n) (h2 : n % (k + 2) = 0) : isP n = false := by
  unfold isP
  rw [Bool.and_eq_false_iff]
  refine .inr ?_
  rw [List.all_eq_false]
  refine ⟨k, List.mem_range.2 hk, ?_⟩
  have : ¬ n < (k + 2) * (k + 2) := by omega
  simp [this, h2]
theorem isP_yes {n : Nat} (h : ∀ e, e < 20 → (e + 2) * (e + 2) ≤ n → n % (e + 2) ≠ 0) : isP n = decide (2 ≤ n) := by
  unfold isP
  have : (List.range 20).all (fun k => decide (n < (k + 2) * (k + 2)) || decide (n % (k + 2) ≠ 0)) = true := by
    rw [List.all_eq_true]
    intro k hk
    by_cases h1 : n < (k + 2) * (k + 2)
    · rw [decide_eq_true h1]; rfl
    · rw [decide_eq_true (h k (List.mem_range.1 hk) (by omega)), Bool.or_true]
  rw [this, Bool.and_true]
theorem isP_table0 : ∀ x : Fin 312, 2 ≤ x.val → (isP x.val = true ∧ P64[cntP x.val]? = some x.val ∧ cntP (x.val + 1) = cntP x.val + 1) ∨ (isP x.val = false ∧ cntP (x.val + 1) = cntP x.val) := by decide +kernel
theorem isP_table (n : Nat) (h : 2 ≤ n) (h2 : n < 312) : (isP n = true ∧ P64[cntP n]? = some n ∧ cntP (n + 1) = cntP n + 1) ∨ (isP n = false ∧ cntP (n + 1) = cntP n) := isP_table0 ⟨n, h2⟩ h
theorem P64_19a : ∀ c : Fin 8, P64.getD c.val 0 ≤ 19 := by decide
theorem P64_19 (c : Nat) (h : c < 8) (n : Nat) (hn : P64[c]? = some n) : n ≤ 19 := by
  have := P64_19a ⟨c, h⟩
  rw [List.getD_eq_getElem?_getD] at this
  simp only at this
  rw [hn] at this
  exact this
theorem sh_take_snoc {l : List Nat} {c n : Nat} (h : l[c]? = some n) : l.take (c + 1) = l.take c ++ [n] := by
  rw [List.take_add_one, h]; rfl
theorem iV_app (l : List Nat) (x : Nat) : iV (l ++ [x]) = iV l ++ [.int .i64 (x : Nat)] := by simp [iV]
def RootsP (xs : List Value) (n : Nat) (w : World) (e : Ending) (w' : World) : Prop := ∃ v, e = .returned v ∧ w'.ownsRow w.heap.size 3 1 v n xs ∧ Below w.heap.size w w'
set_option maxRecDepth 100000 in
set_option maxHeartbeats 1000000 in
theorem prime_any (n : Nat) (hn : n ≤ 400) (w : World) : Calls Try.prog 111 #[.int .i64 n] w fun e w' => e = .returned (.bool (isP n)) ∧ w' = w := by
  go_enter Try.func111, Try.ntmps111
  go_wp2_with fail
  go_loopw [3] (fun dv wr => ∃ k : Nat, dv = .int .i64 ((k + 2 : Nat) : Int) ∧ k ≤ 20 ∧ (∀ e, e < k → (e + 2) * (e + 2) ≤ n → n % (e + 2) ≠ 0) ∧ wr = w) (fun dv _ => 30 - (intOf dv).toNat)
  case atStart => exact ⟨0, by go_num, by omega, fun e h => absurd h (by omega), rfl⟩
  case round =>
    obtain ⟨k, rfl, hk, hinv, rfl⟩ := hrel
    obtain ⟨d, hd⟩ : ∃ d, d = k + 2 := ⟨_, rfl⟩
    obtain ⟨q, hq⟩ : ∃ q, q = d * d := ⟨_, rfl⟩
    have hq2 : q ≤ 22 * 22 := by rw [hq]; exact Nat.mul_le_mul (by omega) (by omega)
    have hdk : k = d - 2 := by omega
    have hd2 : 2 ≤ d := by omega
    have hd22 : d ≤ 22 := by omega
    have e1 : (d : Int) * (d : Int) = (q : Int) := by rw [hq]; simp
    have v1 : IntKind.i64.wrap (q : Int) = (q : Int) := IntWalk.i64_in _ (by omega)
    have HI := Lib.hid hinv
    have HQ := Lib.hid (And.intro hd hq)
    rw [← hd]
    clear hinv
    by_cases hle : q ≤ n
    · have hk20 : k < 20 := by
        rcases Nat.lt_or_ge k 20 with h | h
        · exact h
        · have : 22 * 22 ≤ q := by rw [hq]; exact Nat.mul_le_mul (by omega) (by omega)
          omega
      have i1 : (q : Int) ≤ (n : Int) := by omega
      obtain ⟨M, hM⟩ : ∃ M, M = n % d := ⟨_, rfl⟩
      have e2 : (n : Int).tmod (d : Int) = (M : Int) := by rw [hM, Int.tmod_eq_emod_of_nonneg (by omega)]; simp
      have e3 : (n : Int) % (d : Int) = (M : Int) := by rw [hM]; simp
      have v2 : IntKind.i64.wrap (M : Int) = (M : Int) := IntWalk.i64_in _ (by have := Nat.mod_lt n (show 0 < d by omega); omega)
      have nd : ¬ (d : Int) = 0 := by omega
      have nd2 : ((d : Int) == 0) = false := by rw [beq_eq_false_iff_ne]; omega
      by_cases hM0 : M = 0
      · subst hM0
        have e4 : (n : Int).tmod (d : Int) = 0 := e2
        have e5 : (n : Int) % (d : Int) = 0 := e3
        clear e2 e3 v2
        have HR : Hid (isP n = false) := Lib.hid (isP_no hk20 (by rw [← hd, ← hq]; exact hle) (by rw [← hd, ← hM]))
        clear hk20 hM hq hd hdk
        go_wp2
        go_ret
        exact ⟨by rw [HR.out]; rfl, rfl⟩
      · have hb : ((M : Int) == 0) = false := by rw [beq_eq_false_iff_ne]; omega
        have HN : Hid (∀ e, e < k + 1 → (e + 2) * (e + 2) ≤ n → n % (e + 2) ≠ 0) := Lib.hid (fun e h1 h2 h3 => by
          by_cases he : e < k
          · exact HI.out e he h2 h3
          · have : e = k := by omega
            subst this
            rw [← hd, ← hM] at h3; exact hM0 h3)
        have HK := Lib.hid (And.intro hd hk20)
        clear hk20 hM hq hd hdk
        go_wp2
        exact ⟨⟨k + 1, by rw [HK.out.1]; go_num, by have := HK.out.2; omega, HN.out, trivial⟩, by simp [intOf]; omega⟩
    · have i1 : ¬ (q : Int) ≤ (n : Int) := by omega
      have HR : Hid (isP n = decide (2 ≤ n)) := Lib.hid (isP_yes (fun e h1 h2 => by
        by_cases he : e < k
        · exact HI.out e he h2
        · have : d * d ≤ (e + 2) * (e + 2) := Nat.mul_le_mul (by omega) (by omega)
          omega))
      have e4 : decide ((2 : Int) ≤ (n : Int)) = decide (2 ≤ n) := by rw [decide_eq_decide]; omega
      have HE := Lib.hid e4
      clear hq hd hdk e4
      go_wp2
      go_ret
      exact ⟨by rw [HR.out, ← HE.out]; first | rfl | simp, rfl⟩
set_option maxRecDepth 100000 in
set_option maxHeartbeats 1000000 in
theorem roots_3 (count : Nat) (hc : count ≤ 64) (w : World) :
    Calls Try.prog 80 #[.int .i64 count, .int .i64 3] w (RootsP (iV ((P64.map k3).take count)) count w) := by
  obtain ⟨i0, hi, hz0, hz1, hz2⟩ := info_parts infoIntH
  go_enter Try.func80, Try.ntmps80
  go_wp2_with fail
  go_loopw [5, 6] (fun v nv wr => ∃ n c : Nat, nv = .int .i64 n ∧ 2 ≤ n ∧ n ≤ 312 ∧ c = cntP n ∧ c ≤ count ∧ wr.ownsRow w.heap.size 3 1 v c (iV ((P64.map k3).take c)) ∧ Below w.heap.size w wr) (fun _ nv _ => 320 - (intOf nv).toNat)
  case atStart => exact ⟨2, 0, rfl, by omega, by omega, P64_cnt.1.symm, Nat.zero_le _, World.ownsRow_nil _ _ _ _, Below.refl _ _⟩
  case round =>
    obtain ⟨n, c, rfl, h2, h312, hcn, hcc, hO, hB⟩ := hrel
    obtain ⟨av, cv, rfl⟩ := slice_own hO
    have hS := hB.size
    by_cases hlt : c < count
    · have hn : n < 312 := by
        rcases Nat.lt_or_ge n 312 with h | h
        · exact h
        · have : n = 312 := by omega
          subst this
          rw [P64_cnt.2] at hcn; omega
      have i1 : (c : Int) < (count : Int) := by omega
      have HO := Lib.hid hO
      have HB := Lib.hid hB
      have HPR := Lib.hid (prime_any n (by omega) wr)
      have htab := isP_table n h2 hn
      rw [← hcn] at htab
      have HCN := Lib.hid hcn
      clear hO hB hcn
      rcases htab with ⟨t0, t1, t2⟩ | ⟨t0, t2⟩
      · rw [t0] at HPR
        have HT := Lib.hid (And.intro t1 t2)
        clear t0 t1 t2
        have hnb : n ≤ 4000 := by omega
        have HRT := Lib.hid (fun w2 => rroot3_any n hnb w2)
        go_wp2_with fail
        refine HPR.out.mono ?_
        rintro e w' ⟨rfl, rfl⟩
        go_wp2_with fail
        refine (HRT.out _).mono ?_
        rintro e w2 ⟨rfl, hb⟩
        have hB2 : Below w.heap.size w w2 := HB.out.trans (hb.mono hS)
        have hO2 := own_below HO.out hb
        have hS2 := hB2.size
        have HO2 := Lib.hid hO2
        have HB2 := Lib.hid hB2
        clear hO2 hB2 HO HB hb HPR HRT
        go_wp2_with (at_builtin; refine wpList_append_own _ rfl _ _ 50 rfl w.heap.size 3 i0 (.int .i64 0) 1 8 Try.underlying50 hi hz0 hz1 hz2 rfl (by decide) _ _ _ rfl (World.ownsRow.alloc HO2.out _) ⟨w2.heap.size, 0, none⟩ 1 1 [.int .i64 (k3 n : Nat)] rfl rfl (cell1_new _ _ _) (one1 _ rfl) (by unfold maxLen; omega) (by omega) (by simp; omega) ?_)
        intro v' w3 hO3 hg3 _
        have hO4 : w3.ownsRow w.heap.size 3 1 v' (c + 1) (iV ((P64.map k3).take (c + 1))) := by
          rw [sh_take_snoc (show (P64.map k3)[c]? = some (k3 n) by rw [List.getElem?_map, HT.out.1]; rfl), iV_app]; exact hO3
        have hB4 : Below w.heap.size w w3 := (HB2.out.alloc (by omega) _).grown hg3 (by simp; omega) (fun j hj => by have := World.ownsRow.lt HO2.out j hj; omega)
        have HF := Lib.hid (And.intro hO4 hB4)
        clear hO3 hg3 hO4 hB4 HO2 HB2
        go_wp2
        exact ⟨⟨n + 1, c + 1, by go_num, by omega, by omega, HT.out.2.symm, by omega, HF.out⟩, by simp [intOf]; omega⟩
      · rw [t0] at HPR
        have HT := Lib.hid t2
        clear t0 t2
        go_wp2_with fail
        refine HPR.out.mono ?_
        rintro e w' ⟨rfl, rfl⟩
        clear HPR
        go_wp2
        exact ⟨⟨n + 1, c, by go_num, by omega, by omega, HT.out.symm, by omega, HO.out, HB.out⟩, by simp [intOf]; omega⟩
    · have hce : c = count := by omega
      subst hce
      have i1 : ¬ (c : Int) < (c : Int) := by omega
      have HF := Lib.hid (And.intro hO hB)
      clear hO hB hcn
      go_wp2
      go_ret
      exact ⟨_, rfl, HF.out.1, HF.out.2⟩
set_option maxRecDepth 100000 in
set_option maxHeartbeats 1000000 in
theorem roots_2 (count : Nat) (hc : count ≤ 8) (w : World) :
    Calls Try.prog 80 #[.int .i64 count, .int .i64 2] w (RootsP (iV ((P64.map k2).take count)) count w) := by
  obtain ⟨i0, hi, hz0, hz1, hz2⟩ := info_parts infoIntH
  go_enter Try.func80, Try.ntmps80
  go_wp2_with fail
  go_loopw [5, 6] (fun v nv wr => ∃ n c : Nat, nv = .int .i64 n ∧ 2 ≤ n ∧ n ≤ 312 ∧ c = cntP n ∧ c ≤ count ∧ wr.ownsRow w.heap.size 3 1 v c (iV ((P64.map k2).take c)) ∧ Below w.heap.size w wr) (fun _ nv _ => 320 - (intOf nv).toNat)
  case atStart => exact ⟨2, 0, rfl, by omega, by omega, P64_cnt.1.symm, Nat.zero_le _, World.ownsRow_nil _ _ _ _, Below.refl _ _⟩
  case round =>
    obtain ⟨n, c, rfl, h2, h312, hcn, hcc, hO, hB⟩ := hrel
    obtain ⟨av, cv, rfl⟩ := slice_own hO
    have hS := hB.size
    by_cases hlt : c < count
    · have hn : n < 312 := by
        rcases Nat.lt_or_ge n 312 with h | h
        · exact h
        · have : n = 312 := by omega
          subst this
          rw [P64_cnt.2] at hcn; omega
      have i1 : (c : Int) < (count : Int) := by omega
      have HO := Lib.hid hO
      have HB := Lib.hid hB
      have HPR := Lib.hid (prime_any n (by omega) wr)
      have htab := isP_table n h2 hn
      rw [← hcn] at htab
      have HCN := Lib.hid hcn
      clear hO hB hcn
      rcases htab with ⟨t0, t1, t2⟩ | ⟨t0, t2⟩
      · rw [t0] at HPR
        have HT := Lib.hid (And.intro t1 t2)
        clear t0 t1 t2
        have hnb : n ≤ 200 := by have := P64_19 c (by omega) n HT.out.1; omega
        have HRT := Lib.hid (fun w2 => rroot2_any n hnb w2)
        go_wp2_with fail
        refine HPR.out.mono ?_
        rintro e w' ⟨rfl, rfl⟩
        go_wp2_with fail
        refine (HRT.out _).mono ?_
        rintro e w2 ⟨rfl, hb⟩
        have hB2 : Below w.heap.size w w2 := HB.out.trans (hb.mono hS)
        have hO2 := own_below HO.out hb
        have hS2 := hB2.size
        have HO2 := Lib.hid hO2
        have HB2 := Lib.hid hB2
        clear hO2 hB2 HO HB hb HPR HRT
        go_wp2_with (at_builtin; refine wpList_append_own _ rfl _ _ 50 rfl w.heap.size 3 i0 (.int .i64 0) 1 8 Try.underlying50 hi hz0 hz1 hz2 rfl (by decide) _ _ _ rfl (World.ownsRow.alloc HO2.out _) ⟨w2.heap.size, 0, none⟩ 1 1 [.int .i64 (k2 n : Nat)] rfl rfl (cell1_new _ _ _) (one1 _ rfl) (by unfold maxLen; omega) (by omega) (by simp; omega) ?_)
        intro v' w3 hO3 hg3 _
        have hO4 : w3.ownsRow w.heap.size 3 1 v' (c + 1) (iV ((P64.map k2).take (c + 1))) := by
          rw [sh_take_snoc (show (P64.map k2)[c]? = some (k2 n) by rw [List.getElem?_map, HT.out.1]; rfl), iV_app]; exact hO3
        have hB4 : Below w.heap.size w w3 := (HB2.out.alloc (by omega) _).grown hg3 (by simp; omega) (fun j hj => by have := World.ownsRow.lt HO2.out j hj; omega)
        have HF := Lib.hid (And.intro hO4 hB4)
        clear hO3 hg3 hO4 hB4 HO2 HB2
        go_wp2
        exact ⟨⟨n + 1, c + 1, by go_num, by omega, by omega, HT.out.2.symm, by omega, HF.out⟩, by simp [intOf]; omega⟩
      · rw [t0] at HPR
        have HT := Lib.hid t2
        clear t0 t2
        go_wp2_with fail
        refine HPR.out.mono ?_
        rintro e w' ⟨rfl, rfl⟩
        clear HPR
        go_wp2
        exact ⟨⟨n + 1, c, by go_num, by omega, by omega, HT.out.symm, by omega, HO.out, HB.out⟩, by simp [intOf]; omega⟩
    · have hce : c = count := by omega
      subst hce
      have i1 : ¬ (c : Int) < (c : Int) := by omega
      have HF := Lib.hid (And.intro hO hB)
      clear hO hB hcn
      go_wp2
      go_ret
      exact ⟨_, rfl, HF.out.1, HF.out.2⟩
end Go.Proofs.Ytgemhgllifhckaa
namespace Go.Proofs.Ytgemhgllifhckaa
open Go.RowKit
set_option linter.unusedVariables false
set_option linter.unusedSimpArgs false
theorem and32 (x : Nat) (hx : x < 4611686018427387904) : bits .and .i64 (x : Int) 4294967295 = ((x % 4294967296 : Nat) : Int) := by
  have h := i64_and x 4294967295 (by omega) (by decide)
  rw [show x &&& 4294967295 = x % 4294967296 from Nat.and_two_pow_sub_one_eq_mod x 32] at h
  exact h
theorem low_any (x : Nat) (hx : x < 4611686018427387904) (w : World) : Calls Try.prog 113 #[.int .i64 x] w fun e w' => e = .returned (.int .i64 (x % 4294967296 : Nat)) ∧ w' = w := by
  have h := and32 x hx
  go_enter Try.func113, Try.ntmps113
  go_wp2
  go_ret
  exact ⟨rfl, rfl⟩
theorem rrot (x n : Nat) (hn : n ≤ 32) (hx : x < 4294967296) : (x / 2 ^ n ||| x * 2 ^ (32 - n)) % 4294967296 = rotW x n := by
  unfold rotW
  rw [show (4294967296 : Nat) = 2 ^ 32 by decide, Nat.or_mod_two_pow, Nat.or_comm]
  congr 1
  exact Nat.mod_eq_of_lt (Nat.lt_of_le_of_lt (Nat.div_le_self _ _) hx)
set_option maxRecDepth 100000 in
theorem right_7 (x : Nat) (hx : x < 4294967296) (w : World) : Calls Try.prog 114 #[.int .i64 x, .int .i64 7] w fun e w' => e = .returned (.int .i64 (rotW x 7 : Nat)) ∧ w' = w.drew := by
  have hor : bits .or .i64 ((x : Int) / 128) ((x : Int) * 33554432) = (((x / 128 ||| x * 33554432) : Nat) : Int) := by
    have h := i64_or (x / 128) (x * 33554432) (by omega) (by omega)
    rw [show ((x / 128 : Nat) : Int) = (x : Int) / 128 by omega, show ((x * 33554432 : Nat) : Int) = (x : Int) * 33554432 by omega] at h
    exact h
  have v1 : IntKind.i64.wrap ((x : Int) * 33554432) = (x : Int) * 33554432 := IntWalk.i64_in _ (by omega)
  have v0 : IntKind.i64.wrap 25 = 25 := by decide
  have v3 : (Op.shift .shl .i64 (x : Int) .i64 25 : Sem Value) = pure (.int .i64 (IntKind.i64.wrap ((x : Int) * 33554432))) := by
    have h := shift_shl .i64 .i64 (x : Int) 25 (by decide) (by decide)
    exact h
  have HR := Lib.hid (rrot x 7 (by decide) hx)
  have hlt : (x / 128 ||| x * 33554432) < 4611686018427387904 := Nat.or_lt_two_pow (n := 62) (by omega) (by omega)
  obtain ⟨Y, hY⟩ : ∃ Y, Y = (x / 128 ||| x * 33554432) := ⟨_, rfl⟩
  rw [← hY] at hor hlt
  have HY := Lib.hid hY
  have HL := Lib.hid (fun w2 => low_any Y hlt w2)
  clear hY hlt
  go_enter Try.func114, Try.ntmps114
  go_upto_region 1 with fail
  refine wp_region_still_tail 9 (by kernel_rfl) (by kernel_rfl) ?_
  simp only [List.take_succ_cons, List.take_zero, List.drop_succ_cons, List.drop_zero]
  rw [World.drew_eq]
  have t0 := HL.out w.drew
  repeat still_step
  still_call t0
  repeat still_step
  refine wpStill_nil ?_
  go_wp2
  go_ret
  exact ⟨by rw [HY.out]; rw [show (x / 128 ||| x * 33554432) % 4294967296 = rotW x 7 from HR.out]; rfl, rfl⟩
set_option maxRecDepth 100000 in
theorem right_18 (x : Nat) (hx : x < 4294967296) (w : World) : Calls Try.prog 114 #[.int .i64 x, .int .i64 18] w fun e w' => e = .returned (.int .i64 (rotW x 18 : Nat)) ∧ w' = w.drew := by
  have hor : bits .or .i64 ((x : Int) / 262144) ((x : Int) * 16384) = (((x / 262144 ||| x * 16384) : Nat) : Int) := by
    have h := i64_or (x / 262144) (x * 16384) (by omega) (by omega)
    rw [show ((x / 262144 : Nat) : Int) = (x : Int) / 262144 by omega, show ((x * 16384 : Nat) : Int) = (x : Int) * 16384 by omega] at h
    exact h
  have v1 : IntKind.i64.wrap ((x : Int) * 16384) = (x : Int) * 16384 := IntWalk.i64_in _ (by omega)
  have v0 : IntKind.i64.wrap 14 = 14 := by decide
  have v3 : (Op.shift .shl .i64 (x : Int) .i64 14 : Sem Value) = pure (.int .i64 (IntKind.i64.wrap ((x : Int) * 16384))) := by
    have h := shift_shl .i64 .i64 (x : Int) 14 (by decide) (by decide)
    exact h
  have HR := Lib.hid (rrot x 18 (by decide) hx)
  have hlt : (x / 262144 ||| x * 16384) < 4611686018427387904 := Nat.or_lt_two_pow (n := 62) (by omega) (by omega)
  obtain ⟨Y, hY⟩ : ∃ Y, Y = (x / 262144 ||| x * 16384) := ⟨_, rfl⟩
  rw [← hY] at hor hlt
  have HY := Lib.hid hY
  have HL := Lib.hid (fun w2 => low_any Y hlt w2)
  clear hY hlt
  go_enter Try.func114, Try.ntmps114
  go_upto_region 1 with fail
  refine wp_region_still_tail 9 (by kernel_rfl) (by kernel_rfl) ?_
  simp only [List.take_succ_cons, List.take_zero, List.drop_succ_cons, List.drop_zero]
  rw [World.drew_eq]
  have t0 := HL.out w.drew
  repeat still_step
  still_call t0
  repeat still_step
  refine wpStill_nil ?_
  go_wp2
  go_ret
  exact ⟨by rw [HY.out]; rw [show (x / 262144 ||| x * 16384) % 4294967296 = rotW x 18 from HR.out]; rfl, rfl⟩
set_option maxRecDepth 100000 in
theorem right_17 (x : Nat) (hx : x < 4294967296) (w : World) : Calls Try.prog 114 #[.int .i64 x, .int .i64 17] w fun e w' => e = .returned (.int .i64 (rotW x 17 : Nat)) ∧ w' = w.drew := by
  have hor : bits .or .i64 ((x : Int) / 131072) ((x : Int) * 32768) = (((x / 131072 ||| x * 32768) : Nat) : Int) := by
    have h := i64_or (x / 131072) (x * 32768) (by omega) (by omega)
    rw [show ((x / 131072 : Nat) : Int) = (x : Int) / 131072 by omega, show ((x * 32768 : Nat) : Int) = (x : Int) * 32768 by omega] at h
    exact h
  have v1 : IntKind.i64.wrap ((x : Int) * 32768) = (x : Int) * 32768 := IntWalk.i64_in _ (by omega)
  have v0 : IntKind.i64.wrap 15 = 15 := by decide
  have v3 : (Op.shift .shl .i64 (x : Int) .i64 15 : Sem Value) = pure (.int .i64 (IntKind.i64.wrap ((x : Int) * 32768))) := by
    have h := shift_shl .i64 .i64 (x : Int) 15 (by decide) (by decide)
    exact h
  have HR := Lib.hid (rrot x 17 (by decide) hx)
  have hlt : (x / 131072 ||| x * 32768) < 4611686018427387904 := Nat.or_lt_two_pow (n := 62) (by omega) (by omega)
  obtain ⟨Y, hY⟩ : ∃ Y, Y = (x / 131072 ||| x * 32768) := ⟨_, rfl⟩
  rw [← hY] at hor hlt
  have HY := Lib.hid hY
  have HL := Lib.hid (fun w2 => low_any Y hlt w2)
  clear hY hlt
  go_enter Try.func114, Try.ntmps114
  go_upto_region 1 with fail
  refine wp_region_still_tail 9 (by kernel_rfl) (by kernel_rfl) ?_
  simp only [List.take_succ_cons, List.take_zero, List.drop_succ_cons, List.drop_zero]
  rw [World.drew_eq]
  have t0 := HL.out w.drew
  repeat still_step
  still_call t0
  repeat still_step
  refine wpStill_nil ?_
  go_wp2
  go_ret
  exact ⟨by rw [HY.out]; rw [show (x / 131072 ||| x * 32768) % 4294967296 = rotW x 17 from HR.out]; rfl, rfl⟩
set_option maxRecDepth 100000 in
theorem right_19 (x : Nat) (hx : x < 4294967296) (w : World) : Calls Try.prog 114 #[.int .i64 x, .int .i64 19] w fun e w' => e = .returned (.int .i64 (rotW x 19 : Nat)) ∧ w' = w.drew := by
  have hor : bits .or .i64 ((x : Int) / 524288) ((x : Int) * 8192) = (((x / 524288 ||| x * 8192) : Nat) : Int) := by
    have h := i64_or (x / 524288) (x * 8192) (by omega) (by omega)
    rw [show ((x / 524288 : Nat) : Int) = (x : Int) / 524288 by omega, show ((x * 8192 : Nat) : Int) = (x : Int) * 8192 by omega] at h
    exact h
  have v1 : IntKind.i64.wrap ((x : Int) * 8192) = (x : Int) * 8192 := IntWalk.i64_in _ (by omega)
  have v0 : IntKind.i64.wrap 13 = 13 := by decide
  have v3 : (Op.shift .shl .i64 (x : Int) .i64 13 : Sem Value) = pure (.int .i64 (IntKind.i64.wrap ((x : Int) * 8192))) := by
    have h := shift_shl .i64 .i64 (x : Int) 13 (by decide) (by decide)
    exact h
  have HR := Lib.hid (rrot x 19 (by decide) hx)
  have hlt : (x / 524288 ||| x * 8192) < 4611686018427387904 := Nat.or_lt_two_pow (n := 62) (by omega) (by omega)
  obtain ⟨Y, hY⟩ : ∃ Y, Y = (x / 524288 ||| x * 8192) := ⟨_, rfl⟩
  rw [← hY] at hor hlt
  have HY := Lib.hid hY
  have HL := Lib.hid (fun w2 => low_any Y hlt w2)
  clear hY hlt
  go_enter Try.func114, Try.ntmps114
  go_upto_region 1 with fail
  refine wp_region_still_tail 9 (by kernel_rfl) (by kernel_rfl) ?_
  simp only [List.take_succ_cons, List.take_zero, List.drop_succ_cons, List.drop_zero]
  rw [World.drew_eq]
  have t0 := HL.out w.drew
  repeat still_step
  still_call t0
  repeat still_step
  refine wpStill_nil ?_
  go_wp2
  go_ret
  exact ⟨by rw [HY.out]; rw [show (x / 524288 ||| x * 8192) % 4294967296 = rotW x 19 from HR.out]; rfl, rfl⟩
set_option maxRecDepth 100000 in
theorem right_6 (x : Nat) (hx : x < 4294967296) (w : World) : Calls Try.prog 114 #[.int .i64 x, .int .i64 6] w fun e w' => e = .returned (.int .i64 (rotW x 6 : Nat)) ∧ w' = w.drew := by
  have hor : bits .or .i64 ((x : Int) / 64) ((x : Int) * 67108864) = (((x / 64 ||| x * 67108864) : Nat) : Int) := by
    have h := i64_or (x / 64) (x * 67108864) (by omega) (by omega)
    rw [show ((x / 64 : Nat) : Int) = (x : Int) / 64 by omega, show ((x * 67108864 : Nat) : Int) = (x : Int) * 67108864 by omega] at h
    exact h
  have v1 : IntKind.i64.wrap ((x : Int) * 67108864) = (x : Int) * 67108864 := IntWalk.i64_in _ (by omega)
  have v0 : IntKind.i64.wrap 26 = 26 := by decide
  have v3 : (Op.shift .shl .i64 (x : Int) .i64 26 : Sem Value) = pure (.int .i64 (IntKind.i64.wrap ((x : Int) * 67108864))) := by
    have h := shift_shl .i64 .i64 (x : Int) 26 (by decide) (by decide)
    exact h
  have HR := Lib.hid (rrot x 6 (by decide) hx)
  have hlt : (x / 64 ||| x * 67108864) < 4611686018427387904 := Nat.or_lt_two_pow (n := 62) (by omega) (by omega)
  obtain ⟨Y, hY⟩ : ∃ Y, Y = (x / 64 ||| x * 67108864) := ⟨_, rfl⟩
  rw [← hY] at hor hlt
  have HY := Lib.hid hY
  have HL := Lib.hid (fun w2 => low_any Y hlt w2)
  clear hY hlt
  go_enter Try.func114, Try.ntmps114
  go_upto_region 1 with fail
  refine wp_region_still_tail 9 (by kernel_rfl) (by kernel_rfl) ?_
  simp only [List.take_succ_cons, List.take_zero, List.drop_succ_cons, List.drop_zero]
  rw [World.drew_eq]
  have t0 := HL.out w.drew
  repeat still_step
  still_call t0
  repeat still_step
  refine wpStill_nil ?_
  go_wp2
  go_ret
  exact ⟨by rw [HY.out]; rw [show (x / 64 ||| x * 67108864) % 4294967296 = rotW x 6 from HR.out]; rfl, rfl⟩
set_option maxRecDepth 100000 in
theorem right_11 (x : Nat) (hx : x < 4294967296) (w : World) : Calls Try.prog 114 #[.int .i64 x, .int .i64 11] w fun e w' => e = .returned (.int .i64 (rotW x 11 : Nat)) ∧ w' = w.drew := by
  have hor : bits .or .i64 ((x : Int) / 2048) ((x : Int) * 2097152) = (((x / 2048 ||| x * 2097152) : Nat) : Int) := by
    have h := i64_or (x / 2048) (x * 2097152) (by omega) (by omega)
    rw [show ((x / 2048 : Nat) : Int) = (x : Int) / 2048 by omega, show ((x * 2097152 : Nat) : Int) = (x : Int) * 2097152 by omega] at h
    exact h
  have v1 : IntKind.i64.wrap ((x : Int) * 2097152) = (x : Int) * 2097152 := IntWalk.i64_in _ (by omega)
  have v0 : IntKind.i64.wrap 21 = 21 := by decide
  have v3 : (Op.shift .shl .i64 (x : Int) .i64 21 : Sem Value) = pure (.int .i64 (IntKind.i64.wrap ((x : Int) * 2097152))) := by
    have h := shift_shl .i64 .i64 (x : Int) 21 (by decide) (by decide)
    exact h
  have HR := Lib.hid (rrot x 11 (by decide) hx)
  have hlt : (x / 2048 ||| x * 2097152) < 4611686018427387904 := Nat.or_lt_two_pow (n := 62) (by omega) (by omega)
  obtain ⟨Y, hY⟩ : ∃ Y, Y = (x / 2048 ||| x * 2097152) := ⟨_, rfl⟩
  rw [← hY] at hor hlt
  have HY := Lib.hid hY
  have HL := Lib.hid (fun w2 => low_any Y hlt w2)
  clear hY hlt
  go_enter Try.func114, Try.ntmps114
  go_upto_region 1 with fail
  refine wp_region_still_tail 9 (by kernel_rfl) (by kernel_rfl) ?_
  simp only [List.take_succ_cons, List.take_zero, List.drop_succ_cons, List.drop_zero]
  rw [World.drew_eq]
  have t0 := HL.out w.drew
  repeat still_step
  still_call t0
  repeat still_step
  refine wpStill_nil ?_
  go_wp2
  go_ret
  exact ⟨by rw [HY.out]; rw [show (x / 2048 ||| x * 2097152) % 4294967296 = rotW x 11 from HR.out]; rfl, rfl⟩
set_option maxRecDepth 100000 in
theorem right_25 (x : Nat) (hx : x < 4294967296) (w : World) : Calls Try.prog 114 #[.int .i64 x, .int .i64 25] w fun e w' => e = .returned (.int .i64 (rotW x 25 : Nat)) ∧ w' = w.drew := by
  have hor : bits .or .i64 ((x : Int) / 33554432) ((x : Int) * 128) = (((x / 33554432 ||| x * 128) : Nat) : Int) := by
    have h := i64_or (x / 33554432) (x * 128) (by omega) (by omega)
    rw [show ((x / 33554432 : Nat) : Int) = (x : Int) / 33554432 by omega, show ((x * 128 : Nat) : Int) = (x : Int) * 128 by omega] at h
    exact h
  have v1 : IntKind.i64.wrap ((x : Int) * 128) = (x : Int) * 128 := IntWalk.i64_in _ (by omega)
  have v0 : IntKind.i64.wrap 7 = 7 := by decide
  have v3 : (Op.shift .shl .i64 (x : Int) .i64 7 : Sem Value) = pure (.int .i64 (IntKind.i64.wrap ((x : Int) * 128))) := by
    have h := shift_shl .i64 .i64 (x : Int) 7 (by decide) (by decide)
    exact h
  have HR := Lib.hid (rrot x 25 (by decide) hx)
  have hlt : (x / 33554432 ||| x * 128) < 4611686018427387904 := Nat.or_lt_two_pow (n := 62) (by omega) (by omega)
  obtain ⟨Y, hY⟩ : ∃ Y, Y = (x / 33554432 ||| x * 128) := ⟨_, rfl⟩
  rw [← hY] at hor hlt
  have HY := Lib.hid hY
  have HL := Lib.hid (fun w2 => low_any Y hlt w2)
  clear hY hlt
  go_enter Try.func114, Try.ntmps114
  go_upto_region 1 with fail
  refine wp_region_still_tail 9 (by kernel_rfl) (by kernel_rfl) ?_
  simp only [List.take_succ_cons, List.take_zero, List.drop_succ_cons, List.drop_zero]
  rw [World.drew_eq]
  have t0 := HL.out w.drew
  repeat still_step
  still_call t0
  repeat still_step
  refine wpStill_nil ?_
  go_wp2
  go_ret
  exact ⟨by rw [HY.out]; rw [show (x / 33554432 ||| x * 128) % 4294967296 = rotW x 25 from HR.out]; rfl, rfl⟩
set_option maxRecDepth 100000 in
theorem right_2 (x : Nat) (hx : x < 4294967296) (w : World) : Calls Try.prog 114 #[.int .i64 x, .int .i64 2] w fun e w' => e = .returned (.int .i64 (rotW x 2 : Nat)) ∧ w' = w.drew := by
  have hor : bits .or .i64 ((x : Int) / 4) ((x : Int) * 1073741824) = (((x / 4 ||| x * 1073741824) : Nat) : Int) := by
    have h := i64_or (x / 4) (x * 1073741824) (by omega) (by omega)
    rw [show ((x / 4 : Nat) : Int) = (x : Int) / 4 by omega, show ((x * 1073741824 : Nat) : Int) = (x : Int) * 1073741824 by omega] at h
    exact h
  have v1 : IntKind.i64.wrap ((x : Int) * 1073741824) = (x : Int) * 1073741824 := IntWalk.i64_in _ (by omega)
  have v0 : IntKind.i64.wrap 30 = 30 := by decide
  have v3 : (Op.shift .shl .i64 (x : Int) .i64 30 : Sem Value) = pure (.int .i64 (IntKind.i64.wrap ((x : Int) * 1073741824))) := by
    have h := shift_shl .i64 .i64 (x : Int) 30 (by decide) (by decide)
    exact h
  have HR := Lib.hid (rrot x 2 (by decide) hx)
  have hlt : (x / 4 ||| x * 1073741824) < 4611686018427387904 := Nat.or_lt_two_pow (n := 62) (by omega) (by omega)
  obtain ⟨Y, hY⟩ : ∃ Y, Y = (x / 4 ||| x * 1073741824) := ⟨_, rfl⟩
  rw [← hY] at hor hlt
  have HY := Lib.hid hY
  have HL := Lib.hid (fun w2 => low_any Y hlt w2)
  clear hY hlt
  go_enter Try.func114, Try.ntmps114
  go_upto_region 1 with fail
  refine wp_region_still_tail 9 (by kernel_rfl) (by kernel_rfl) ?_
  simp only [List.take_succ_cons, List.take_zero, List.drop_succ_cons, List.drop_zero]
  rw [World.drew_eq]
  have t0 := HL.out w.drew
  repeat still_step
  still_call t0
  repeat still_step
  refine wpStill_nil ?_
  go_wp2
  go_ret
  exact ⟨by rw [HY.out]; rw [show (x / 4 ||| x * 1073741824) % 4294967296 = rotW x 2 from HR.out]; rfl, rfl⟩
set_option maxRecDepth 100000 in
theorem right_13 (x : Nat) (hx : x < 4294967296) (w : World) : Calls Try.prog 114 #[.int .i64 x, .int .i64 13] w fun e w' => e = .returned (.int .i64 (rotW x 13 : Nat)) ∧ w' = w.drew := by
  have hor : bits .or .i64 ((x : Int) / 8192) ((x : Int) * 524288) = (((x / 8192 ||| x * 524288) : Nat) : Int) := by
    have h := i64_or (x / 8192) (x * 524288) (by omega) (by omega)
    rw [show ((x / 8192 : Nat) : Int) = (x : Int) / 8192 by omega, show ((x * 524288 : Nat) : Int) = (x : Int) * 524288 by omega] at h
    exact h
  have v1 : IntKind.i64.wrap ((x : Int) * 524288) = (x : Int) * 524288 := IntWalk.i64_in _ (by omega)
  have v0 : IntKind.i64.wrap 19 = 19 := by decide
  have v3 : (Op.shift .shl .i64 (x : Int) .i64 19 : Sem Value) = pure (.int .i64 (IntKind.i64.wrap ((x : Int) * 524288))) := by
    have h := shift_shl .i64 .i64 (x : Int) 19 (by decide) (by decide)
    exact h
  have HR := Lib.hid (rrot x 13 (by decide) hx)
  have hlt : (x / 8192 ||| x * 524288) < 4611686018427387904 := Nat.or_lt_two_pow (n := 62) (by omega) (by omega)
  obtain ⟨Y, hY⟩ : ∃ Y, Y = (x / 8192 ||| x * 524288) := ⟨_, rfl⟩
  rw [← hY] at hor hlt
  have HY := Lib.hid hY
  have HL := Lib.hid (fun w2 => low_any Y hlt w2)
  clear hY hlt
  go_enter Try.func114, Try.ntmps114
  go_upto_region 1 with fail
  refine wp_region_still_tail 9 (by kernel_rfl) (by kernel_rfl) ?_
  simp only [List.take_succ_cons, List.take_zero, List.drop_succ_cons, List.drop_zero]
  rw [World.drew_eq]
  have t0 := HL.out w.drew
  repeat still_step
  still_call t0
  repeat still_step
  refine wpStill_nil ?_
  go_wp2
  go_ret
  exact ⟨by rw [HY.out]; rw [show (x / 8192 ||| x * 524288) % 4294967296 = rotW x 13 from HR.out]; rfl, rfl⟩
set_option maxRecDepth 100000 in
theorem right_22 (x : Nat) (hx : x < 4294967296) (w : World) : Calls Try.prog 114 #[.int .i64 x, .int .i64 22] w fun e w' => e = .returned (.int .i64 (rotW x 22 : Nat)) ∧ w' = w.drew := by
  have hor : bits .or .i64 ((x : Int) / 4194304) ((x : Int) * 1024) = (((x / 4194304 ||| x * 1024) : Nat) : Int) := by
    have h := i64_or (x / 4194304) (x * 1024) (by omega) (by omega)
    rw [show ((x / 4194304 : Nat) : Int) = (x : Int) / 4194304 by omega, show ((x * 1024 : Nat) : Int) = (x : Int) * 1024 by omega] at h
    exact h
  have v1 : IntKind.i64.wrap ((x : Int) * 1024) = (x : Int) * 1024 := IntWalk.i64_in _ (by omega)
  have v0 : IntKind.i64.wrap 10 = 10 := by decide
  have v3 : (Op.shift .shl .i64 (x : Int) .i64 10 : Sem Value) = pure (.int .i64 (IntKind.i64.wrap ((x : Int) * 1024))) := by
    have h := shift_shl .i64 .i64 (x : Int) 10 (by decide) (by decide)
    exact h
  have HR := Lib.hid (rrot x 22 (by decide) hx)
  have hlt : (x / 4194304 ||| x * 1024) < 4611686018427387904 := Nat.or_lt_two_pow (n := 62) (by omega) (by omega)
  obtain ⟨Y, hY⟩ : ∃ Y, Y = (x / 4194304 ||| x * 1024) := ⟨_, rfl⟩
  rw [← hY] at hor hlt
  have HY := Lib.hid hY
  have HL := Lib.hid (fun w2 => low_any Y hlt w2)
  clear hY hlt
  go_enter Try.func114, Try.ntmps114
  go_upto_region 1 with fail
  refine wp_region_still_tail 9 (by kernel_rfl) (by kernel_rfl) ?_
  simp only [List.take_succ_cons, List.take_zero, List.drop_succ_cons, List.drop_zero]
  rw [World.drew_eq]
  have t0 := HL.out w.drew
  repeat still_step
  still_call t0
  repeat still_step
  refine wpStill_nil ?_
  go_wp2
  go_ret
  exact ⟨by rw [HY.out]; rw [show (x / 4194304 ||| x * 1024) % 4294967296 = rotW x 22 from HR.out]; rfl, rfl⟩
theorem ch_eq {e f g : Nat} (he : e < 4294967296) (hf : f < 4294967296) (hg : g < 4294967296) : (e &&& f) ^^^ ((4294967295 - e) &&& g) = chN e f g := by
  have hn : 4294967295 - e = 2 ^ 32 - (e + 1) := by omega
  rw [hn]
  unfold chN
  apply Nat.eq_of_testBit_eq
  intro i
  simp only [Nat.testBit_xor, Nat.testBit_and, Nat.testBit_two_pow_sub_succ (show e < 2 ^ 32 from he)]
  by_cases hi : i < 32
  · simp only [hi, decide_true, Bool.true_and]
    cases e.testBit i <;> cases f.testBit i <;> cases g.testBit i <;> rfl
  · have h1 : g.testBit i = false := Nat.testBit_lt_two_pow (Nat.lt_of_lt_of_le hg (Nat.pow_le_pow_right (n := 2) (by decide) (show 32 ≤ i by omega)))
    have h2 : e.testBit i = false := Nat.testBit_lt_two_pow (Nat.lt_of_lt_of_le he (Nat.pow_le_pow_right (n := 2) (by decide) (show 32 ≤ i by omega)))
    rw [h1, h2]; simp
theorem maj_eq (a b c : Nat) : (a &&& b) ^^^ (a &&& c) ^^^ (b &&& c) = majN a b c := by
  unfold majN
  apply Nat.eq_of_testBit_eq
  intro i
  simp only [Nat.testBit_xor, Nat.testBit_and, Nat.testBit_or]
  cases a.testBit i <;> cases b.testBit i <;> cases c.testBit i <;> rfl
end Go.Proofs.Ytgemhgllifhckaa
