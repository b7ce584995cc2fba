/- Steps alike; small; awake. Conditions: as named in each theorem. -/
import Derived.Test.YtabdmcgfiabaoaaChainTidy
namespace Go.Proofs.Ytabdmcgfiabaoaa
open Go.RowKit
set_option linter.unusedVariables false

theorem dn2 (w : World) (a b : Nat) : ∃ m, (w.drewN a).drewN b = w.drewN m := ⟨a + b, by simp⟩
theorem Rs.next {α : Type} {w w' : World} {ao : Option Addr} {len cap size : Nat} {rs : List α} {f : α → List Value} (h : Rs w ao len cap size rs f) (hb : Below w.heap.size w w') : Rs w' ao len cap size rs f := h.below hb (Nat.le_refl _)
theorem below_then {a w w' : World} (h : Below a.heap.size a w) (h2 : Below w.heap.size w w') : Below a.heap.size a w' := h.trans (h2.mono h.size)
theorem below_alloc (w : World) (o : Obj) : Below w.heap.size w (w.alloc o) := (Below.refl _ _).alloc (Nat.le_refl _) _
theorem Own.below {w w' : World} {base : Nat} {v : Value} {l : List St} (h : Own w base v l) (hb : Below w.heap.size w w') : Own w' base v l := World.ownsRow.kept h (below_grown hb none) (by cases v.ownBlock <;> simp)
theorem OwnB.below {w w' : World} {base : Nat} {v : Value} {l : List By} (h : OwnB w base v l) (hb : Below w.heap.size w w') : OwnB w' base v l := World.ownsRow.kept h (below_grown hb none) (by cases v.ownBlock <;> simp)
theorem Own.rs {w : World} {base n cap : Nat} {ao : Option Addr} {l : List St} (hn : l.length = n) (h : Own w base (.slice ao n cap) l) : Rs w ao n cap 3 l St.c := by
  subst hn; exact Rs.of_owns st_len rfl h
theorem OwnB.rs {w : World} {base n cap : Nat} {ao : Option Addr} {l : List By} (hn : l.length = n) (h : OwnB w base (.slice ao n cap) l) : Rs w ao n cap 3 l By.c := by
  subst hn; exact Rs.of_owns bc_len rfl h
def stK : Kd := .agg [.int .i64, .int .i64, .str]
theorem steps_of {w : World} {ao : Option Addr} {len cap : Nat} (h : (Kd.sl stK).ok w [.slice ao len cap]) : ∃ l : List St, Rs w ao len cap 3 l St.c ∧ ∀ x ∈ l, x.ok :=
  Kd.rows (k := stK) St.c St.ok (fun es h => by
    simp only [stK, Kd.ok, Kd.okL, Kd.cells] at h
    obtain ⟨a, b, rfl, _, ⟨k, rfl, hk⟩, a2, b2, rfl, _, ⟨n, rfl, hn⟩, a4, b4, rfl, _, ⟨t, rfl, ht⟩, rfl⟩ := h
    exact ⟨⟨k, n, t⟩, rfl, hk, hn, ht⟩) h
theorem rs_s {w : World} {ao : Option Addr} {len cap : Nat} {l : List St} (h : Rs w ao len cap 3 l St.c) (h0 : 0 < len) :
    ∃ b off, ao = some ⟨b, off, none⟩ ∧ b < w.heap.size ∧ ∀ k, (hk : k < l.length) → w.cell? ⟨b, off + k * 3, none⟩ = some (.int .i64 l[k].pos) ∧ w.cell? ⟨b, off + k * 3 + 1, none⟩ = some (.int .i64 l[k].len) ∧ w.cell? ⟨b, off + k * 3 + 2, none⟩ = some (.string l[k].text) := by
  obtain ⟨_, _, _, h4⟩ := h
  obtain ⟨b, off, e, hb, hc⟩ := h4 h0
  exact ⟨b, off, e, hb, fun k hk => ⟨by simpa using hc k hk 0 _ rfl, by simpa [Nat.add_assoc] using hc k hk 1 _ rfl, by simpa [Nat.add_assoc] using hc k hk 2 _ rfl⟩⟩

set_option maxHeartbeats 1000000 in
theorem steps_eq (w : World) (ao bo : Option Addr) (n cap cap2 : Nat) (l : List St) (hn : n ≤ 1000000000) (ha : Rs w ao n cap 3 l St.c) (hb : Rs w bo n cap2 3 l St.c) :
    Calls Try.prog 16 #[.slice ao n cap, .slice bo n cap2] w fun e w' => e = .returned (.bool true) ∧ Below w.heap.size w w' := by
  have HL := Lib.hid ha.2.2.1
  go_enter Try.func16, Try.ntmps16
  go_wp2
  go_loopw [5] (fun i wr => ∃ k : Nat, k ≤ n ∧ i = .int .i64 k ∧ ∃ m, wr = w.drewN m) (fun i _ => n - (intOf i).toNat)
  case atStart => exact ⟨0, by omega, rfl, 0, rfl⟩
  case round =>
    obtain ⟨k, hk, rfl, m, rfl⟩ := hrel
    by_cases hlt : k < n
    · obtain ⟨b1, o1, rfl, -, h1⟩ := rs_s ha (by omega)
      obtain ⟨b2, o2, rfl, -, h2⟩ := rs_s hb (by omega)
      have hks : k < l.length := by rw [HL.out]; exact hlt
      obtain ⟨c0, c1, c2⟩ := h1 k hks
      obtain ⟨d0, d1, d2⟩ := h2 k hks
      obtain ⟨x, hx⟩ : ∃ x, x = l[k] := ⟨_, rfl⟩
      rw [← hx] at c0 c1 c2 d0 d1 d2
      have i1 : (k : Int) < (n : Int) := by omega
      clear h1 h2 hx ha hb hks
      go_wp2
      go_quiet (fail)
      go_wp2
      go_roundw
      case rel => exact ⟨k + 1, by omega, by go_num, by first | exact ⟨_, rfl⟩ | exact dn2 _ _ _⟩
      case measure => simp [intOf]; omega
    · go_wp2
      go_ret
      exact ⟨rfl, below_drewN' (Below.refl _ _) _⟩
theorem steps_true (w : World) (l : List St) (a b : Value) {base base2 : Nat} (hl : l.length ≤ 1000000000) (ha : Own w base a l) (hb : Own w base2 b l) :
    Calls Try.prog 16 #[a, b] w fun e w' => e = .returned (.bool true) ∧ Below w.heap.size w w' := by
  obtain ⟨ao, ca, rfl⟩ := owns_slice ha
  obtain ⟨bo, cb, rfl⟩ := owns_slice hb
  exact steps_eq w ao bo l.length ca cb l hl (ha.rs rfl) (hb.rs rfl)

/-- texts and lengths, all told -/
def sum1 (x : St) : Nat := x.text.size + x.len.toNat
def sum2 (l : List St) : Nat := (l.map sum1).sum
theorem sum2_succ (l : List St) (k : Nat) (hk : k < l.length) : sum2 (l.take (k + 1)) = sum2 (l.take k) + sum1 l[k] := by
  rw [List.take_succ_eq_append_getElem hk]; unfold sum2; rw [List.map_append, List.sum_append]; simp
theorem weight_sum2 (l : List St) : weight l ≤ sum2 l := by
  induction l with
  | nil => exact Nat.le_refl _
  | cons x l ih =>
    unfold weight sum2 at *
    rw [List.map_cons, List.map_cons, List.sum_cons, List.sum_cons]
    have : weight1 x ≤ sum1 x := by unfold weight1 sum1; split <;> omega
    omega
def SmallR (P : Prop) (e : Ending) : Prop := ∃ r : Bool, e = .returned (.bool r) ∧ (r = true → P)
def Tiny (l : List St) : Prop := l.length ≤ 100 ∧ sum2 l ≤ 6000 ∧ ∀ x ∈ l, x.len ≤ 3000 ∧ x.text.size ≤ 4096

set_option maxRecDepth 100000 in
set_option maxHeartbeats 1000000 in
theorem small_any (w : World) (x0 x1 x2 : Value) (o0 : x0.oneCell' = true) (o1 : x1.oneCell' = true) (o2 : x2.oneCell' = true) (ao : Option Addr) (len cap : Nat) (l : List St) (hR : Rs w ao len cap 3 l St.c) (hok : ∀ x ∈ l, x.ok) (hm : len ≤ maxLen) :
    Calls Try.prog 11 #[.agg #[x0, x1, x2, .slice ao len cap]] w fun e w' => SmallR (Tiny l) e ∧ Below w.heap.size w w' := by
  have HLEN := Lib.hid hR.2.2.1
  obtain ⟨V, hV⟩ : ∃ V, V = w.alloc (Obj.cells #[x0, x1, x2, .slice ao len cap] 25) := ⟨_, rfl⟩
  have hBV : Below w.heap.size w V := by rw [hV]; exact below_alloc _ _
  have h3 : V.cell? ⟨w.heap.size, 3, none⟩ = some (.slice ao len cap) := by rw [hV]; exact (Blk.new w [x0, x1, x2, .slice ao len cap] 25).cell (i := 3) rfl
  have HV := Lib.hid hV
  clear hV
  go_enter Try.func11, Try.ntmps11
  go_wp2
  rw [← HV.out]
  obtain ⟨pd, hpd⟩ : ∃ pd, pd = w.heap.size := ⟨_, rfl⟩
  rw [← hpd] at h3
  rw [← hpd]
  clear hpd
  go_loopw [3, 4] (fun v i wr => ∃ k : Nat, k ≤ len ∧ i = .int .i64 k ∧ v = .int .i64 (sum2 (l.take k) : Nat) ∧ sum2 (l.take k) ≤ 6000 ∧ k ≤ 100 ∧ (∀ x ∈ l.take k, x.len ≤ 3000 ∧ x.text.size ≤ 4096) ∧ wr = V) (fun _ i _ => len - (intOf i).toNat)
  case atStart => exact ⟨0, by omega, rfl, rfl, by simp [sum2], by omega, by simp, rfl⟩
  case round =>
    obtain ⟨k, hk, rfl, rfl, hs, hk1, ha, rfl⟩ := hrel
    by_cases hlt : k < len
    · obtain ⟨b, off, rfl, hbw, hc⟩ := rs_s hR (by omega)
      have hks : k < l.length := by rw [HLEN.out]; exact hlt
      obtain ⟨c0, c1, c2⟩ := hc k hks
      have hsu := sum2_succ l k hks
      have hxo := hok _ (List.getElem_mem hks)
      have htk := List.take_succ_eq_append_getElem hks
      obtain ⟨x, hx⟩ : ∃ x, x = l[k] := ⟨_, rfl⟩
      rw [← hx] at c0 c1 c2 hsu hxo htk
      obtain ⟨S, hS⟩ : ∃ S, S = sum2 (l.take k) := ⟨_, rfl⟩
      rw [← hS] at hs hsu
      rw [← hS]
      obtain ⟨p, n, t⟩ := x
      have d1 := (hBV.cell (p := ⟨b, off + k * 3 + 1, none⟩) hbw).trans c1
      have d2 := (hBV.cell (p := ⟨b, off + k * 3 + 2, none⟩) hbw).trans c2
      simp only at d1 d2
      have hs1 : sum1 ⟨p, n, t⟩ = t.size + n.toNat := rfl
      rw [hs1] at hsu
      have hnw := hxo.2.1
      simp only at hnw
      have hts := hxo.2.2
      simp only at hts
      have HA := Lib.hid ha
      have HTK := Lib.hid htk
      have HSU := Lib.hid hsu
      have i1 : (k : Int) < (len : Int) := by omega
      clear c0 c1 c2 hc hx htk hsu hxo hS hs1 ha hnw hks
      by_cases h100 : 100 ≤ k
      · go_wp2
        go_ret
        exact ⟨⟨false, rfl, by simp⟩, hBV⟩
      · by_cases hn3 : 3000 < n
        · go_wp2
          go_ret
          exact ⟨⟨false, rfl, by simp⟩, hBV⟩
        · by_cases ht4 : 4096 < t.size
          · go_wp2
            go_ret
            exact ⟨⟨false, rfl, by simp⟩, hBV⟩
          · have hall : ∀ x ∈ l.take (k + 1), x.len ≤ 3000 ∧ x.text.size ≤ 4096 := by
              intro x hx
              rw [HTK.out] at hx
              rcases List.mem_append.1 hx with h1 | h1
              · exact HA.out x h1
              · rw [List.mem_singleton.1 h1]; exact ⟨by simp only; omega, by simp only; omega⟩
            have HALL := Lib.hid hall
            clear hall HTK HA hts
            by_cases hn0 : 0 < n
            · by_cases h6 : 6000 < (S : Int) + t.size + n
              · go_wp2
                go_ret
                exact ⟨⟨false, rfl, by simp⟩, hBV⟩
              · have hsum : ((sum2 (l.take (k + 1)) : Nat) : Int) = (S : Int) + t.size + n := by rw [HSU.out]; omega
                have HS := Lib.hid hsum
                clear hsum HSU
                go_wp2
                go_roundw
                case rel => exact ⟨k + 1, by omega, by go_num, by rw [HS.out], by have := HS.out; omega, by omega, HALL.out, by first | rfl | trivial⟩
                case measure => simp [intOf]; omega
            · by_cases h6 : 6000 < (S : Int) + t.size
              · go_wp2
                go_ret
                exact ⟨⟨false, rfl, by simp⟩, hBV⟩
              · have hsum : ((sum2 (l.take (k + 1)) : Nat) : Int) = (S : Int) + t.size := by rw [HSU.out]; omega
                have HS := Lib.hid hsum
                clear hsum HSU
                go_wp2
                go_roundw
                case rel => exact ⟨k + 1, by omega, by go_num, by rw [HS.out], by have := HS.out; omega, by omega, HALL.out, by first | rfl | trivial⟩
                case measure => simp [intOf]; omega
    · have hkk : l.take k = l := List.take_of_length_le (by rw [HLEN.out]; omega)
      rw [hkk] at hs ha
      have hT : Tiny l := ⟨by rw [HLEN.out]; omega, hs, ha⟩
      have HT := Lib.hid hT
      clear hT hkk hs ha
      go_wp2
      go_ret
      exact ⟨⟨true, rfl, fun _ => HT.out⟩, hBV⟩

def sA : ByteArray := ⟨#[97]⟩
def sB : ByteArray := ⟨#[98]⟩
def exS : List St := [⟨0, 0, ⟨#[97]⟩⟩, ⟨0, 0, ⟨#[98]⟩⟩, ⟨0, 4, ByteArray.empty⟩, ⟨4, 2, ByteArray.empty⟩]
theorem ex_tidy : tidyL exS = [⟨0, 0, ⟨#[97, 98]⟩⟩, ⟨0, 6, ByteArray.empty⟩] := by rfl
theorem ex_weight : weight exS = 8 := by rfl

set_option maxRecDepth 100000 in
set_option maxHeartbeats 1000000 in
theorem awake_any (w : World) : Calls Try.prog 12 #[] w fun e w' => e = .returned (.bool true) ∧ Below w.heap.size w w' := by
  have hgz := stepZ_run
  have hO0 : Own (w.alloc (.cells (exS.flatMap St.c).toArray 55)) w.heap.size (.slice (some ⟨w.heap.size, 0, none⟩) 4 4) exS := by
    have := World.ownsRow_lit (base := w.heap.size) (e := 55) (size := 3) w (exS.flatMap St.c).toArray 4 (Nat.le_refl _) (by decide) rfl
    exact this
  have hR0 := hO0.rs rfl
  have hB0 := below_alloc w (.cells (exS.flatMap St.c).toArray 55)
  obtain ⟨W, hW⟩ : ∃ W, W = w.alloc (.cells (exS.flatMap St.c).toArray 55) := ⟨_, rfl⟩
  have hWx : W = w.alloc (Obj.cells #[.int .i64 0, .int .i64 0, .string ⟨#[97]⟩, .int .i64 0, .int .i64 0, .string ⟨#[98]⟩, .int .i64 0, .int .i64 4, .string ByteArray.empty, .int .i64 4, .int .i64 2, .string ByteArray.empty] 55) := hW
  rw [← hW] at hR0 hB0
  have HWX := Lib.hid hWx
  clear hO0 hW hWx
  go_enter Try.func12, Try.ntmps12
  go_wp2_with fail
  rw [← HWX.out]
  refine (tidy_any _ _ _ _ exS hR0 (by decide) (by rw [ex_weight]; decide)).mono ?_
  rintro e w1 ⟨v, rfl, hO1, hB1⟩
  rw [ex_tidy] at hO1
  obtain ⟨ao, cp, rfl⟩ := owns_slice hO1
  obtain ⟨b, off, rfl, hbw, hc⟩ := rs_s (hO1.rs rfl) (by decide)
  obtain ⟨c0, c1, c2⟩ := hc 0 (by decide)
  obtain ⟨d0, d1, d2⟩ := hc 1 (by decide)
  have hB := below_then hB0 hB1
  simp only [List.getElem_cons_zero, List.getElem_cons_succ] at c0 c1 c2 d0 d1 d2
  clear hc hO1 hB0 hB1 hR0
  go_wp2
  go_ret
  exact ⟨rfl, hB⟩
end Go.Proofs.Ytabdmcgfiabaoaa
