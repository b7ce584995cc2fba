/- step: a call of both books. Conditions: as named. -/
import Derived.Test.YtjahdladcijhoaaMarksRef
import Derived.Test.YtjahdladcijhoaaMarksNumR
import Derived.OpenShut
namespace Go.Proofs.Ytjahdladcijhoaa
open Go.RowKit
set_option linter.unusedVariables false

structure OpV where
  kind : Int
  n : Int
  text : ByteArray
  mark : ByteArray
  deriving Inhabited
def OpV.c (o : OpV) : List Value := [.int .i64 o.kind, .int .i64 o.n, .string o.text, .string o.mark]
def OpV.ok (o : OpV) : Prop := (Lit.int .i64 o.kind).wf = true ∧ (Lit.int .i64 o.n).wf = true ∧ o.text.size ≤ maxLen ∧ o.mark.size ≤ maxLen
def opK : Kd := .agg [.int .i64, .int .i64, .str, .str]

theorem ops_of {w : World} {ao : Option Addr} {len cap : Nat} (h : (Kd.sl opK).ok w [.slice ao len cap]) : ∃ os : List OpV, Rs w ao len cap 4 os OpV.c ∧ ∀ o ∈ os, o.ok :=
  Kd.rows (k := opK) OpV.c OpV.ok (fun es h => by
    simp only [opK, Kd.ok, Kd.okL, Kd.cells] at h
    obtain ⟨a, b, rfl, _, ⟨k, rfl, hk⟩, a2, b2, rfl, _, ⟨n, rfl, hn⟩, a3, b3, rfl, _, ⟨s, rfl, hs⟩, a4, b4, rfl, _, ⟨t, rfl, ht⟩, rfl⟩ := h
    exact ⟨⟨k, n, s, t⟩, rfl, hk, hn, hs, ht⟩) h

def Two (w : World) (p m q : Nat) (v : Value) (seen : List (List UInt8)) : Prop :=
  BookI w p m seen ∧ RefB w q v seen ∧ p ≠ q ∧ m ≠ q ∧ v.ownBlock ≠ some p ∧ v.ownBlock ≠ some m
theorem Two.next {w w' : World} {p m q : Nat} {v : Value} {seen : List (List UInt8)} (h : Two w p m q v seen) (hb : Below w.heap.size w w') : Two w' p m q v seen :=
  ⟨h.1.next hb, h.2.1.next hb, h.2.2⟩
def TwoT (m q : Nat) (v : Value) : Nat → Prop := fun k => k = m ∨ k = q ∨ v.ownBlock = some k
theorem Two.kept {w w' : World} {p m q : Nat} {v : Value} {seen : List (List UInt8)} (h : Two w p m q v seen) {T : Nat → Prop} (hk : Kept T w w') (h1 : ¬ T p) (h2 : ¬ T m) (h3 : ¬ T q) (h4 : ∀ k, v.ownBlock = some k → ¬ T k) : Two w' p m q v seen :=
  ⟨h.1.kept hk h1 h2, h.2.1.kept hk h3 h4, h.2.2⟩

theorem below_alloc (w : World) (o : Obj) : Below w.heap.size w (w.alloc o) := (Below.refl _ _).alloc (Nat.le_refl _) _

set_option maxHeartbeats 1000000 in
theorem step_any (w : World) (p m q : Nat) (v : Value) (seen : List (List UInt8)) (kd n : Int) (t mk : ByteArray) (hT : Two w p m q v seen) (hl : seen.length ≤ 1000000)
    (wk : (Lit.int .i64 kd).wf = true) (wn : (Lit.int .i64 n).wf = true) (ht : t.size ≤ maxLen) (hmk : mk.size ≤ maxLen) :
    Calls Try.prog 15 #[.pointer (some ⟨p, 0, none⟩), .pointer (some ⟨q, 0, none⟩), .agg #[.int .i64 kd, .int .i64 n, .string t, .string mk]] w fun e w' =>
      ∃ seen' v', e = .returned (.bool true) ∧ Two w' p m q v' seen' ∧ seen'.length ≤ seen.length + 1 ∧ Kept (TwoT m q v) w w' ∧ (∀ k, v'.ownBlock = some k → v.ownBlock = some k ∨ w.heap.size ≤ k) := by
  have hB1 : Blk (w.alloc (.cells #[.int .i64 kd, .int .i64 n, .string t, .string mk] 36)) w.heap.size [.int .i64 kd, .int .i64 n, .string t, .string mk] 36 := Blk.new w _ _
  have hT1 := hT.next (below_alloc w (.cells #[.int .i64 kd, .int .i64 n, .string t, .string mk] 36))
  have hK1 : Kept (TwoT m q v) w (w.alloc (.cells #[.int .i64 kd, .int .i64 n, .string t, .string mk] 36)) := Kept.of_below _ (below_alloc w _)
  have c2 := hB1.cell (i := 2) rfl
  have HT1 := Lib.hid hT1
  have HK1 := Lib.hid hK1
  have HB1 := Lib.hid hB1
  have HM := Lib.hid hmk
  clear hT1 hK1 hB1 hT hmk
  have HT := Lib.hid ht
  have hsz := w.size_alloc (.cells #[.int .i64 kd, .int .i64 n, .string t, .string mk] 36)
  have HSZ := Lib.hid hsz
  clear hsz ht
  go_enter Try.func15, Try.ntmps15
  go_wp2_with fail
  refine (cut_any _ _ _ HT.out (by decide)).mono ?_
  rintro e w1 ⟨s, rfl, hs, rfl⟩
  obtain ⟨W, hW⟩ : ∃ W, W = w.alloc (.cells #[.int .i64 kd, .int .i64 n, .string t, .string mk] 36) := ⟨_, rfl⟩
  rw [← hW] at HT1 HK1 HB1 c2 HSZ
  rw [← hW]
  clear hW
  have hs' : s.size ≤ maxLen := Nat.le_trans hs (by decide)
  have HS := Lib.hid hs'
  clear hs hs'
  have c0 := HB1.out.cell (i := 0) rfl
  by_cases h0 : kd = 0
  · subst h0
    clear c2
    go_wp2_with fail
    refine (mark_ideal _ _ _ _ s HT1.out.1 HS.out (by omega)).mono ?_
    rintro e w2 ⟨rfl, hI2, hg2⟩
    have hR2 : RefB w2 q v seen := HT1.out.2.1.kept (Kept.of_grown hg2) (by intro e; injection e with e; exact HT1.out.2.2.2.1 e) (by intro k hk e; injection e with e; exact HT1.out.2.2.2.2.2 (by rw [hk, ← e]))
    have hK2 : Kept (TwoT m q v) W w2 := (Kept.of_grown hg2).mono (fun k _ e => .inl (by injection e with e; exact e.symm))
    clear hg2 c0
    go_wp2_with fail
    refine (refMark_any _ _ _ _ s hR2 (by omega)).mono ?_
    rintro e w3 ⟨v', rfl, hR3, hK3, hv3⟩
    have hw2 : w.heap.size ≤ w2.heap.size := Nat.le_trans (by rw [HSZ.out]; omega) hK2.size
    have hT3 : Two w3 p m q v' (addS seen s.data.toList) := by
      refine ⟨hI2.kept hK3 ?_ ?_, hR3, HT1.out.2.2.1, HT1.out.2.2.2.1, fun e' => ?_, fun e' => ?_⟩
      · rintro (e | e)
        · exact HT1.out.2.2.1 e
        · exact HT1.out.2.2.2.2.1 e
      · rintro (e | e)
        · exact HT1.out.2.2.2.1 e
        · exact HT1.out.2.2.2.2.2 e
      · rcases hv3 _ e' with e | e
        · exact HT1.out.2.2.2.2.1 e
        · have := hI2.2.2.2.2.1.1; omega
      · rcases hv3 _ e' with e | e
        · exact HT1.out.2.2.2.2.2 e
        · have := hI2.2.2.2.2.1.2; omega
    have hK4 : Kept (TwoT m q v) w w3 := (HK1.out.trans hK2 (fun _ _ h => h)).trans hK3 (fun _ _ h => .inr h)
    have hle := addS_len seen s.data.toList
    clear hI2 hR2 hK2 hR3 hK3
    go_wp2
    go_ret
    exact ⟨_, v', rfl, hT3, hle, hK4, fun k hk => (hv3 k hk).imp id (fun h => Nat.le_trans hw2 h)⟩
  · by_cases h1 : kd = 1
    · subst h1
      clear c2 h0
      have c3 := HB1.out.cell (i := 3) rfl
      have hw2 : w.heap.size < W.heap.size := HB1.out.lt
      obtain ⟨R, hR⟩ : ∃ R, R = takes seen s.data.toList mk.data.toList := ⟨_, rfl⟩
      have HR := Lib.hid hR
      clear hR
      have H : ∀ w1 w2 : World, Below w1.heap.size w1 w2 → (w1.cell? ⟨w.heap.size, 3, none⟩ = some (.string mk) ∧ Below W.heap.size W w1) → (w2.cell? ⟨w.heap.size, 3, none⟩ = some (.string mk) ∧ Below W.heap.size W w2) :=
        fun w1 w2 hb h => ⟨(hb.cell (p := ⟨w.heap.size, 3, none⟩) (Nat.lt_of_lt_of_le hw2 h.2.size)).trans h.1, h.2.trans (hb.mono h.2.size)⟩
      have hS0 : W.drew.cell? ⟨w.heap.size, 3, none⟩ = some (.string mk) ∧ Below W.heap.size W W.drew := ⟨c3, (Below.refl _ _).drew⟩
      cases R
      all_goals
        go_wp2
        go_region_held3 (fun w' => w'.cell? ⟨w.heap.size, 3, none⟩ = some (.string mk) ∧ Below W.heap.size W w')
          (first | assumption | go_keep)
          (first | (go_at_call 13; refine (is_takes (HT1.out.next (And.right (by assumption : _ ∧ Below W.heap.size W _))).1 HS.out (by omega) _ HR.out).mono ?_; rintro e w4 ⟨rfl, hb4⟩; have hS2 := H _ _ hb4 (by assumption)) | (go_at_call 26; refine (refIs_any _ _ _ _ _ _ (HT1.out.next (And.right (by assumption : _ ∧ Below W.heap.size W _))).2.1 (by omega) _ HR.out).mono ?_; rintro e w4 ⟨rfl, hb4⟩; have hS2 := H _ _ hb4 (by assumption)))
        all_goals
          obtain ⟨_, hBW⟩ := hS2
          go_wp2
          go_ret
          exact ⟨seen, v, rfl, HT1.out.next hBW, by omega, HK1.out.trans (Kept.of_below _ hBW) (fun _ _ h => h), fun k hk => .inl hk⟩
    · have c1 := HB1.out.cell (i := 1) rfl
      have c3 := HB1.out.cell (i := 3) rfl
      have hw2 : w.heap.size < W.heap.size := HB1.out.lt
      clear c2
      have wn' := bounds_i64 wn
      by_cases hneg : n < 0
      · go_wp2_with fail
        refine (refNumber_neg n _ hneg).mono ?_
        rintro e w2 ⟨s0, rfl, _, hb2⟩
        have hT2 := HT1.out.next hb2
        have hK2 := HK1.out.trans (Kept.of_below (TwoT m q v) hb2) (fun _ _ h => h)
        have d1 := (hb2.cell (p := ⟨w.heap.size, 1, none⟩) hw2).trans c1
        have d3 := (hb2.cell (p := ⟨w.heap.size, 3, none⟩) hw2).trans c3
        clear c0 c1 c3 hb2
        obtain ⟨R, hR⟩ : ∃ R, R = takes seen s.data.toList mk.data.toList := ⟨_, rfl⟩
        have HR := Lib.hid hR
        clear hR
        cases R
        all_goals
          go_wp2_with fail
          refine (is_takes hT2.1 HS.out (by omega) _ HR.out).mono ?_
          rintro e w3 ⟨rfl, hb3⟩
          have hT3 := hT2.next hb3
          have hK3 := hK2.trans (Kept.of_below (TwoT m q v) hb3) (fun _ _ h => h)
          clear d1 d3 hb3
          go_wp2_with fail
          refine (refIs_any _ _ _ _ _ _ hT3.2.1 (by omega) _ HR.out).mono ?_
          rintro e w4 ⟨rfl, hb4⟩
          go_wp2
          go_ret
          exact ⟨seen, v, rfl, hT3.next hb4, by omega, hK3.trans (Kept.of_below _ hb4) (fun _ _ h => h), fun k hk => .inl hk⟩
      · obtain ⟨a, rfl⟩ : ∃ a : Nat, n = (a : Int) := ⟨n.toNat, by omega⟩
        go_wp2_with fail
        refine (refNumber_any a _ (by omega)).mono ?_
        rintro e w2 ⟨rfl, hb2⟩
        have hT2 := HT1.out.next hb2
        have hK2 := HK1.out.trans (Kept.of_below (TwoT m q v) hb2) (fun _ _ h => h)
        have d1 := (hb2.cell (p := ⟨w.heap.size, 1, none⟩) hw2).trans c1
        clear c0 c1 c3 hb2 wn'
        obtain ⟨R, hR⟩ : ∃ R, R = takes seen s.data.toList (numS a).data.toList := ⟨_, rfl⟩
        have HR := Lib.hid hR
        clear hR
        cases R
        all_goals
          go_wp2_with fail
          refine (is_takes hT2.1 HS.out (by omega) _ HR.out).mono ?_
          rintro e w3 ⟨rfl, hb3⟩
          have hT3 := hT2.next hb3
          have hK3 := hK2.trans (Kept.of_below (TwoT m q v) hb3) (fun _ _ h => h)
          clear d1 hb3
          go_wp2_with fail
          refine (refIs_any _ _ _ _ _ _ hT3.2.1 (by omega) _ HR.out).mono ?_
          rintro e w4 ⟨rfl, hb4⟩
          go_wp2
          go_ret
          exact ⟨seen, v, rfl, hT3.next hb4, by omega, hK3.trans (Kept.of_below _ hb4) (fun _ _ h => h), fun k hk => .inl hk⟩
end Go.Proofs.Ytjahdladcijhoaa
