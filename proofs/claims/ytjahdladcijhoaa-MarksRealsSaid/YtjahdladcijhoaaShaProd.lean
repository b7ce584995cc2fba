/- The reference's product of numbers in digits. Conditions: as named in each theorem. -/
import Derived.Test.YtjahdladcijhoaaShaBook
import Derived.Laws.OwnMore
import Derived.Deep.QuietTactic
import Derived.BigQuiet
namespace Go.Proofs.Ytjahdladcijhoaa
open Go.RowKit
set_option linter.unusedVariables false
set_option linter.unusedSimpArgs false

def iV (l : List Nat) : List Value := l.map fun x : Nat => Value.int .i64 (x : Nat)
/-- the number of digits to the base 65536, the lowest first -/
def dval : List Nat → Nat
  | [] => 0
  | x :: l => x + 65536 * dval l
theorem dval_set : ∀ (l : List Nat) (j x y : Nat), l[j]? = some y → dval (l.set j x) + y * 65536 ^ j = dval l + x * 65536 ^ j := by
  intro l
  induction l with
  | nil => intro j x y h; simp at h
  | cons a l ih =>
    intro j x y h
    cases j with
    | zero =>
      have : a = y := by simpa using h
      subst this
      simp only [List.set_cons_zero, dval, Nat.pow_zero, Nat.mul_one]; omega
    | succ j =>
      have h2 := ih j x y (by simpa using h)
      simp only [List.set_cons_succ, dval, Nat.pow_succ]
      have e1 : y * (65536 ^ j * 65536) = 65536 * (y * 65536 ^ j) := by rw [← Nat.mul_assoc, Nat.mul_comm]
      have e2 : x * (65536 ^ j * 65536) = 65536 * (x * 65536 ^ j) := by rw [← Nat.mul_assoc, Nat.mul_comm]
      rw [e1, e2]; omega
theorem dval_take : ∀ (l : List Nat) (k x : Nat), l[k]? = some x → dval (l.take (k + 1)) = dval (l.take k) + x * 65536 ^ k := by
  intro l
  induction l with
  | nil => intro k x h; simp at h
  | cons a l ih =>
    intro k x h
    cases k with
    | zero =>
      have : a = x := by simpa using h
      subst this
      simp [dval]
    | succ k =>
      have h2 := ih k x (by simpa using h)
      simp only [List.take_succ_cons, dval, Nat.pow_succ]
      rw [h2, Nat.mul_add]
      have e1 : x * (65536 ^ k * 65536) = 65536 * (x * 65536 ^ k) := by rw [← Nat.mul_assoc, Nat.mul_comm]
      rw [e1]; omega
theorem dval_zeros (n : Nat) : dval (List.replicate n 0) = 0 := by
  induction n with
  | zero => rfl
  | succ n ih => rw [List.replicate_succ, dval, ih]
theorem digit_step (V V2 M N a b c x Pw : Nat) (hset : V2 + x * Pw = V + (c + x + a * b) % 65536 * Pw) (hinv : V + c * Pw = M + N) : V2 + (c + x + a * b) / 65536 * (Pw * 65536) = M + (N + a * b * Pw) := by
  obtain ⟨t, ht⟩ : ∃ t, t = c + x + a * b := ⟨_, rfl⟩
  have e1 : t / 65536 * (Pw * 65536) + t % 65536 * Pw = t * Pw := by
    have := Nat.div_add_mod' t 65536
    rw [Nat.mul_comm Pw 65536, ← Nat.mul_assoc, ← Nat.add_mul, this]
  have e2 : t * Pw = c * Pw + x * Pw + a * b * Pw := by rw [ht, Nat.add_mul, Nat.add_mul]
  rw [← ht] at hset ⊢
  omega
theorem own_cell {w : World} {base : Nat} {ao : Option Addr} {n cap : Nat} {l : List Nat} (h : w.ownsRow base 3 1 (.slice ao n cap) n (iV l)) (h0 : 0 < n) : ∃ g, ao = some ⟨g, 0, none⟩ ∧ base ≤ g ∧ g < w.heap.size ∧ n ≤ cap ∧ ∀ j x, l[j]? = some x → w.cell? ⟨g, j, none⟩ = some (.int .i64 (x : Nat)) := by
  have h' := h
  obtain ⟨hl, ⟨h1, _⟩ | ⟨g, c2, cur, h1, h2, h3, h4, _⟩⟩ := h'
  · injection h1 with h1 h2; omega
  · injection h1 with h1 h5 h6
    subst h1 h6
    have hlt := World.ownsRow.lt h g rfl
    refine ⟨g, rfl, hlt.1, hlt.2, h4, fun j x hx => ?_⟩
    have hj := (List.getElem?_eq_some_iff.1 hx).1
    have hl2 : (iV l).length = n * 1 := hl
    unfold iV at hl2
    rw [List.length_map] at hl2
    rw [h.cellAt j (by omega)]
    unfold iV
    rw [List.getElem?_map, hx]; rfl
theorem iV_set (l : List Nat) (j x : Nat) : (iV l).set j (.int .i64 (x : Nat)) = iV (l.set j x) := by unfold iV; rw [List.map_set]
def Dg (l : List Nat) : Prop := ∀ x ∈ l, x < 65536
theorem Dg.set {l : List Nat} (h : Dg l) (j x : Nat) (hx : x < 65536) : Dg (l.set j x) := by
  intro y hy
  rcases List.mem_or_eq_of_mem_set hy with h1 | h1
  · exact h y h1
  · rw [h1]; exact hx
theorem carry_div (c X P : Nat) (h : c + X + P ≤ 6442450944) : wrap64 (((c : Int) + (X : Int) + (P : Int)).tdiv 65536) = (((c + X + P) / 65536 : Nat) : Int) := by
  rw [Int.tdiv_eq_ediv_of_nonneg (by omega)]
  unfold wrap64
  omega
theorem carry_mod (c X P : Nat) : ((c : Int) + (X : Int) + (P : Int)) % 65536 = (((c + X + P) % 65536 : Nat) : Int) := by omega
theorem carry_lt (c X P : Nat) (h : c + X + P ≤ 65535 + 65535 + 65535 * 65535) : (c + X + P) / 65536 < 65536 := by omega
theorem infoIntH : (Try.prog.info? 3).map (fun i => (i.zero, i.size, i.bytes)) = some (some (.int .i64 0), 1, 8) := by kernel_rfl
/-- what product answers -/
def ProdP (la lb : List Nat) (w : World) (e : Ending) (w' : World) : Prop := ∃ v lp, e = .returned v ∧ w'.ownsRow w.heap.size 3 1 v (la.length + lb.length) (iV lp) ∧ lp.length = la.length + lb.length ∧ Dg lp ∧ dval lp = dval la * dval lb ∧ Below w.heap.size w w'

set_option maxRecDepth 100000 in
set_option maxHeartbeats 4000000 in
theorem product_any (w : World) (B1 B2 : Nat) (va vb : Value) (la lb : List Nat) (ha : w.ownsRow B1 3 1 va la.length (iV la)) (hb : w.ownsRow B2 3 1 vb lb.length (iV lb)) (hla : 0 < la.length) (hlb : 0 < lb.length) (hla2 : la.length ≤ 100) (hlb2 : lb.length ≤ 100) (hda : Dg la) (hdb : Dg lb) :
    Calls Try.prog 47 #[va, vb] w (ProdP la lb w) := by
  obtain ⟨i0, hi, hz0, hz1, hz2⟩ := info_parts infoIntH
  obtain ⟨m, hm⟩ : ∃ m, m = la.length := ⟨_, rfl⟩
  obtain ⟨n, hn⟩ : ∃ n, n = lb.length := ⟨_, rfl⟩
  rw [← hm] at ha hla hla2
  rw [← hn] at hb hlb hlb2
  obtain ⟨ao, ca, rfl⟩ := slice_own ha
  obtain ⟨bo, cb, rfl⟩ := slice_own hb
  obtain ⟨ga, rfl, _, hga, hca, hcella⟩ := own_cell ha hla
  obtain ⟨gb, rfl, _, hgb, hcb, hcellb⟩ := own_cell hb hlb
  obtain ⟨W2, hmk, hOw, hGr⟩ := run_make_full (P := Try.prog) w w.heap.size 53 3 i0 (.int .i64 0) 1 Try.underlying53 hi hz0 hz1 .i64 .i64 (m + n) (by rw [hz2]; omega) (by unfold maxLen; omega) (Nat.le_refl _)
  have hf0 : W2.ownsRow w.heap.size 3 1 (.slice (some ⟨w.heap.size, 0, none⟩) (m + n) (m + n)) (m + n) (iV (List.replicate (m + n) 0)) := by
    have := hOw
    rw [Nat.mul_one, show (Value.int .i64 0).cells = #[Value.int .i64 0] from rfl, toList_madeCells_one] at this
    simpa [iV] using this
  have hb0 : Below w.heap.size w W2 := (Below.refl _ _).grown hGr (Nat.le_refl _) (by simp)
  have H0 := Lib.hid (And.intro hf0 hb0)
  have hmn : IntKind.i64.wrap ((m : Int) + (n : Int)) = (m : Int) + (n : Int) := IntWalk.i64_in _ (by omega)
  have hcast : ((m + n : Nat) : Int) = (m : Int) + (n : Int) := by omega
  rw [hcast] at hmk
  have HCA := Lib.hid hcella
  have HCB := Lib.hid hcellb
  have HMN := Lib.hid (And.intro hm hn)
  have HD := Lib.hid (And.intro hda hdb)
  have HW := Lib.hid (And.intro hga hgb)
  clear hf0 hb0 hOw hGr hcella hcellb hda hdb hga hgb ha hb hm hn hcast
  go_enter Try.func47, Try.ntmps47
  go_wp2_with fail
  go_loopw [6] (fun iv wr => ∃ (i : Nat) (o : List Nat), iv = .int .i64 i ∧ i ≤ m ∧ wr.ownsRow w.heap.size 3 1 (.slice (some ⟨w.heap.size, 0, none⟩) (m + n) (m + n)) (m + n) (iV o) ∧ o.length = m + n ∧ Dg o ∧ (∀ j, i + n ≤ j → j < m + n → o[j]? = some 0) ∧ dval o = dval (la.take i) * dval lb ∧ Below w.heap.size w wr) (fun iv _ => m - (intOf iv).toNat)
  case atStart => exact ⟨0, List.replicate (m + n) 0, by go_num, Nat.zero_le _, H0.out.1, by simp, (fun x hx => by rw [(List.mem_replicate.1 hx).2]; decide), (fun j h1 h2 => by rw [List.getElem?_replicate, if_pos h2]), by rw [dval_zeros]; simp [dval], H0.out.2⟩
  case round =>
    clear H0 hmk
    obtain ⟨i, o, rfl, hi, hO, hol, hod, hoz, hov, hB⟩ := hrel
    obtain ⟨wo, hwo⟩ : ∃ wo, wo = wr := ⟨_, rfl⟩
    subst hwo
    by_cases hlt : i < m
    · obtain ⟨A, hA⟩ : ∃ A, la[i]? = some A := ⟨_, List.getElem?_eq_getElem (by rw [← HMN.out.1]; exact hlt)⟩
      have hA16 : A < 65536 := HD.out.1 A (List.mem_of_getElem? hA)
      have i1 : (i : Int) < (m : Int) := by omega
      have i2 : (0 : Int) ≤ (i : Int) := by omega
      have H := Lib.hid (And.intro hO (And.intro hol (And.intro hod (And.intro hoz (And.intro hov hB)))))
      have HA := Lib.hid hA
      clear hO hol hod hoz hov hB hA
      go_wp2_with fail
      go_loopw [7, 8] (fun cv kv wr => ∃ (c k : Nat) (o : List Nat), cv = .int .i64 c ∧ kv = .int .i64 k ∧ k ≤ n ∧ c < 65536 ∧ wr.ownsRow w.heap.size 3 1 (.slice (some ⟨w.heap.size, 0, none⟩) (m + n) (m + n)) (m + n) (iV o) ∧ o.length = m + n ∧ Dg o ∧ (∀ j, i + n ≤ j → j < m + n → o[j]? = some 0) ∧ dval o + c * 65536 ^ (i + k) = dval (la.take i) * dval lb + A * 65536 ^ i * dval (lb.take k) ∧ Below w.heap.size w wr) (fun _ kv _ => n - (intOf kv).toNat)
      case atStart => exact ⟨0, 0, _, by go_num, by go_num, Nat.zero_le _, by decide, H.out.1, H.out.2.1, H.out.2.2.1, H.out.2.2.2.1, by rw [H.out.2.2.2.2.1]; simp [dval], H.out.2.2.2.2.2⟩
      case round =>
        clear H
        obtain ⟨c, k, o, rfl, rfl, hk, hc, hO, hol, hod, hoz, hov, hB⟩ := hrel
        obtain ⟨gx, hgx, _, _, _, hco⟩ := own_cell hO (by omega)
        injection hgx with hgx
        injection hgx with hgx
        subst hgx
        by_cases hkn : k < n
        · obtain ⟨D, hD⟩ : ∃ D, lb[k]? = some D := ⟨_, List.getElem?_eq_getElem (by rw [← HMN.out.2]; exact hkn)⟩
          have hD16 : D < 65536 := HD.out.2 D (List.mem_of_getElem? hD)
          obtain ⟨q, hq⟩ : ∃ q, q = i + k := ⟨_, rfl⟩
          obtain ⟨X, hX⟩ : ∃ X, o[q]? = some X := ⟨_, List.getElem?_eq_getElem (by omega)⟩
          have hX16 : X < 65536 := hod X (List.mem_of_getElem? hX)
          obtain ⟨P, hP⟩ : ∃ P, P = A * D := ⟨_, rfl⟩
          have hPb : P ≤ 65535 * 65535 := by rw [hP]; exact Nat.mul_le_mul (by omega) (by omega)
          have cX := hco q X hX
          have cA := (hB.cell (p := ⟨ga, i, none⟩) HW.out.1).trans (HCA.out i A HA.out)
          have cD := (hB.cell (p := ⟨gb, k, none⟩) HW.out.2).trans (HCB.out k D hD)
          have fX := hO.frozenAt q
          have e1 : (i : Int) + (k : Int) = (q : Int) := by omega
          have e2 : (A : Int) * (D : Int) = (P : Int) := by rw [hP, Int.natCast_mul]
          have v1 : IntKind.i64.wrap (q : Int) = (q : Int) := IntWalk.i64_in _ (by omega)
          have v2 : IntKind.i64.wrap (P : Int) = (P : Int) := IntWalk.i64_in _ (by omega)
          have v3 : IntKind.i64.wrap ((c : Int) + (X : Int)) = (c : Int) + (X : Int) := IntWalk.i64_in _ (by omega)
          have v4 : IntKind.i64.wrap ((c : Int) + (X : Int) + (P : Int)) = (c : Int) + (X : Int) + (P : Int) := IntWalk.i64_in _ (by omega)
          have j1 : (0 : Int) ≤ (q : Int) := by omega
          have j2 : (q : Int) < (m : Int) + (n : Int) := by omega
          have j2' : (q : Int) < ((m + n : Nat) : Int) := by omega
          have j3 : (0 : Int) ≤ (k : Int) := by omega
          have j4 : (k : Int) < (n : Int) := by omega
          have HST := Lib.hid (hO.stored q (.int .i64 (((c + X + P) % 65536 : Nat) : Int)))
          have hnext : dval (o.set q ((c + X + P) % 65536)) + (c + X + P) / 65536 * 65536 ^ (i + (k + 1)) = dval (la.take i) * dval lb + A * 65536 ^ i * dval (lb.take (k + 1)) := by
            rw [← hq] at hov
            have hs := dval_set o q ((c + X + A * D) % 65536) X hX
            have hst := digit_step (dval o) _ (dval (la.take i) * dval lb) (A * 65536 ^ i * dval (lb.take k)) A D c X (65536 ^ q) hs hov
            rw [hP, show i + (k + 1) = q + 1 by omega, Nat.pow_succ, hst, dval_take lb k D hD, Nat.mul_add]
            have h2 : A * D * 65536 ^ q = A * 65536 ^ i * (D * 65536 ^ k) := by
              rw [hq, Nat.pow_add, Nat.mul_assoc, Nat.mul_assoc, Nat.mul_left_comm D]
            rw [h2]
          have HNX := Lib.hid (And.intro hnext (And.intro hol (And.intro hod (And.intro hoz hB))))
          have HQ := Lib.hid hq
          have HPB2 : Hid (c + X + P ≤ 65535 + 65535 + 65535 * 65535) := Lib.hid (by omega)
          have HO3 := Lib.hid hO
          clear hnext hov hO hol hod hoz hB hX hco hq hP hD hPb
          go_upto_region 9 with fail
          go_quiet (fail)
          obtain ⟨W3, hW3⟩ : ∃ W, W = wr.drewN nq := ⟨_, rfl⟩
          have HST3 : Hid ((W3.setCell ⟨w.heap.size, q, none⟩ (.int .i64 (((c + X + P) % 65536 : Nat) : Int))).ownsRow w.heap.size 3 1 (.slice (some ⟨w.heap.size, 0, none⟩) (m + n) (m + n)) (m + n) (iV (o.set q ((c + X + P) % 65536))) ∧ Below w.heap.size w (W3.setCell ⟨w.heap.size, q, none⟩ (.int .i64 (((c + X + P) % 65536 : Nat) : Int)))) := Lib.hid (by
            have h0 : W3.ownsRow w.heap.size 3 1 (.slice (some ⟨w.heap.size, 0, none⟩) (m + n) (m + n)) (m + n) (iV o) := by rw [hW3]; exact HO3.out
            have h1 := (h0.stored q (.int .i64 (((c + X + P) % 65536 : Nat) : Int)))
            have hb3 : Below w.heap.size w W3 := by rw [hW3]; exact below_drewN' HNX.out.2.2.2.2 nq
            rw [iV_set] at h1
            exact ⟨h1.1, hb3.setCell (Nat.le_refl _) _⟩)
          have cX3 : W3.cell? ⟨w.heap.size, q, none⟩ = some (.int .i64 (X : Nat)) := by rw [hW3]; exact cX
          have fX3 : W3.frozen? ⟨w.heap.size, q, none⟩ = false := by rw [hW3]; exact fX
          rw [← hW3]
          clear hW3 cX fX cA cD HST
          go_wp2
          have qm := carry_mod c X P
          have qd := carry_div c X P (Nat.le_trans HPB2.out (by decide))
          have hbnd := carry_lt c X P HPB2.out
          rw [qm, qd]
          refine ⟨⟨(c + X + P) / 65536, k + 1, o.set q ((c + X + P) % 65536), rfl, by go_num, by omega, hbnd, HST3.out.1, by rw [List.length_set]; exact HNX.out.2.1, HNX.out.2.2.1.set _ _ (Nat.mod_lt _ (by decide)), fun j h1 h2 => ?_, HNX.out.1, HST3.out.2⟩, by simp [intOf]; omega⟩
          have := HQ.out
          rw [List.getElem?_set_ne (by omega)]
          exact HNX.out.2.2.2.1 j h1 h2
        · have hkn2 : k = n := by omega
          subst hkn2
          obtain ⟨q, hq⟩ : ∃ q, q = i + k := ⟨_, rfl⟩
          have hX := hoz q (by omega) (by omega)
          have cX := hco q 0 hX
          have fX := hO.frozenAt q
          have e1 : (i : Int) + (k : Int) = (q : Int) := by omega
          have v1 : IntKind.i64.wrap (q : Int) = (q : Int) := IntWalk.i64_in _ (by omega)
          have j1 : (0 : Int) ≤ (q : Int) := by omega
          have j2 : (q : Int) < (m : Int) + (k : Int) := by omega
          have HST3 : Hid ((wr.setCell ⟨w.heap.size, q, none⟩ (.int .i64 (c : Nat))).ownsRow w.heap.size 3 1 (.slice (some ⟨w.heap.size, 0, none⟩) (m + k) (m + k)) (m + k) (iV (o.set q c)) ∧ Below w.heap.size w (wr.setCell ⟨w.heap.size, q, none⟩ (.int .i64 (c : Nat)))) := Lib.hid (by
            have h1 := (hO.stored q (.int .i64 (c : Nat)))
            rw [iV_set] at h1
            exact ⟨h1.1, hB.setCell (Nat.le_refl _) _⟩)
          have hnext : dval (o.set q c) = dval (la.take (i + 1)) * dval lb := by
            have hs := dval_set o q c 0 hX
            rw [Nat.zero_mul, Nat.add_zero] at hs
            have htk : lb.take k = lb := List.take_of_length_le (by rw [← HMN.out.2]; exact Nat.le_refl _)
            rw [htk, ← hq] at hov
            rw [hs, hov, dval_take la i A HA.out, Nat.add_mul]
          have HNX := Lib.hid (And.intro hnext (And.intro hol (And.intro hod hoz)))
          have HQ := Lib.hid hq
          clear hnext hov hO hol hod hoz hB hX hco hq
          go_wp2
          refine ⟨⟨i + 1, o.set q c, by go_num, by omega, HST3.out.1, by rw [List.length_set]; exact HNX.out.2.1, HNX.out.2.2.1.set _ _ hc, fun j h1 h2 => ?_, HNX.out.1, HST3.out.2⟩, by simp [intOf]; omega⟩
          have := HQ.out
          rw [List.getElem?_set_ne (by omega)]
          exact HNX.out.2.2.2 j (by omega) h2
    · have him : i = m := by omega
      have htk : la.take i = la := List.take_of_length_le (by rw [← HMN.out.1]; omega)
      rw [htk] at hov
      have H := Lib.hid (And.intro hO (And.intro hol (And.intro hod (And.intro hov hB))))
      clear hO hol hod hoz hov hB htk him
      go_wp2
      go_ret
      refine ⟨_, o, rfl, ?_, by rw [← HMN.out.1, ← HMN.out.2]; exact H.out.2.1, H.out.2.2.1, H.out.2.2.2.1, H.out.2.2.2.2⟩
      rw [← HMN.out.1, ← HMN.out.2]
      exact H.out.1
end Go.Proofs.Ytjahdladcijhoaa
