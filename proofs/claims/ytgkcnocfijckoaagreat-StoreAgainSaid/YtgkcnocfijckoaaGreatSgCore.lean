/- What a signature under an ideal book is: plain facts; a block size that is refused. Conditions: as named in each theorem. -/
import Derived.Test.YtgkcnocfijckoaaGreatSgSign
import Derived.Test.YtgkcnocfijckoaaGreatQC
import Derived.BigQuiet
import Derived.Test.YtgkcnocfijckoaaGreatQR
import Derived.Deep.Cut
import Derived.Laws.OwnMore
namespace Go.Proofs.YtgkcnocfijckoaaGreat.Sg
open Go.RowKit
set_option linter.unusedVariables false
set_option linter.unusedSimpArgs false
def okTo (W : List Int) (T : List ByteArray) (k : Nat) : Prop := ∀ j, j < k → ∀ x t, W[j]? = some x → T[j]? = some t → 0 ≤ x ∧ x ≤ 4294967295 ∧ t.size = 32
/-- a signature that may be -/
def sigOk (b z : Int) (W : List Int) (T : List ByteArray) : Prop := 16 ≤ b ∧ b ≤ 1024 ∧ 0 ≤ z ∧ z ≤ 524288 ∧ W.length = cnt z.toNat b.toNat ∧ T.length = W.length ∧ okTo W T W.length
theorem okTo.zero (W : List Int) (T : List ByteArray) : okTo W T 0 := fun j h => by omega
theorem okTo.succ {W : List Int} {T : List ByteArray} {k : Nat} {x : Int} {t : ByteArray} (h : okTo W T k) (hx : W[k]? = some x) (ht : T[k]? = some t) (h1 : 0 ≤ x) (h2 : x ≤ 4294967295) (h3 : t.size = 32) : okTo W T (k + 1) := by
  intro j hj x' t' hx' ht'
  by_cases e : j = k
  · subst e
    rw [hx] at hx'; rw [ht] at ht'
    cases hx'; cases ht'
    exact ⟨h1, h2, h3⟩
  · exact h j (by omega) x' t' hx' ht'
def RightR (P : Prop) (e : Ending) : Prop := ∃ r : Bool, e = .returned (.bool r) ∧ (r = true ↔ P)
theorem RightR.yes {P : Prop} (h : P) : RightR P (.returned (.bool true)) := ⟨true, rfl, (fun _ => h), fun _ => rfl⟩
theorem RightR.no {P : Prop} (h : ¬ P) : RightR P (.returned (.bool false)) := ⟨false, rfl, (fun h => by cases h), fun h2 => absurd h2 h⟩
theorem bel_alloc (w : World) (o : Obj) : Below w.heap.size w (w.alloc o) := (Below.refl _ _).alloc (Nat.le_refl _) _
/-- the element k of a row of single cells -/
theorem _root_.Go.Proofs.YtgkcnocfijckoaaGreat.Rs.one {α : Type} {w : World} {ao : Option Addr} {len cap : Nat} {rs : List α} {g : α → Value} (h : Rs w ao len cap 1 rs (fun x => [g x])) {k : Nat} (hk : k < len) :
    ∃ b off x, ao = some ⟨b, off, none⟩ ∧ rs[k]? = some x ∧ w.cell? ⟨b, off + k, none⟩ = some (g x) := by
  have hl := h.2.2.1
  obtain ⟨b, off, e, _, hc⟩ := h.cell1 (by omega)
  exact ⟨b, off, rs[k]'(by omega), e, List.getElem?_eq_getElem _, hc k (by omega) _ rfl⟩
theorem rightW {b z : Int} {W : List Int} {T : List ByteArray} : (¬ (16 ≤ b ∧ b ≤ 1024) → ¬ sigOk b z W T) ∧ (¬ 0 ≤ z → ¬ sigOk b z W T) ∧ (¬ z ≤ 524288 → ¬ sigOk b z W T) ∧ (W.length ≠ cnt z.toNat b.toNat → ¬ sigOk b z W T) ∧ (T.length ≠ W.length → ¬ sigOk b z W T) := by
  refine ⟨fun h k => h ⟨k.1, k.2.1⟩, fun h k => h k.2.2.1, fun h k => h k.2.2.2.1, fun h k => h k.2.2.2.2.1, fun h k => h k.2.2.2.2.2.1⟩
set_option maxRecDepth 100000 in
set_option maxHeartbeats 1000000 in
theorem sgRight_any (w : World) (b z : Int) (ao : Option Addr) (n cap : Nat) (bo : Option Addr) (m cap2 : Nat) (W : List Int) (T : List ByteArray) (wb : (Lit.int .i64 b).wf = true) (wz : (Lit.int .i64 z).wf = true)
    (hW : Rs w ao n cap 1 W (fun x => [.int .i64 x])) (hT : Rs w bo m cap2 1 T (fun x => [.string x])) (hw : ∀ x ∈ W, (Lit.int .i64 x).wf = true) (ht : ∀ x ∈ T, x.size ≤ maxLen) (hn : n ≤ 1000000) (hm : m ≤ 1000000) :
    Calls Tryz.prog 122 #[.agg #[.int .i64 b, .int .i64 z, .slice ao n cap, .slice bo m cap2]] w fun e w' => RightR (sigOk b z W T) e ∧ Below w.heap.size w w' := by
  have hB : Below w.heap.size w (w.alloc (Obj.cells #[.int .i64 b, .int .i64 z, .slice ao n cap, .slice bo m cap2] 136)) := bel_alloc _ _
  have hBk := Blk.new w [.int .i64 b, .int .i64 z, .slice ao n cap, .slice bo m cap2] 136
  have c0 := hBk.cell (i := 0) rfl
  have c1 := hBk.cell (i := 1) rfl
  have c2 := hBk.cell (i := 2) rfl
  have c3 := hBk.cell (i := 3) rfl
  have hW1 := hW.next hB
  have hT1 := hT.next hB
  have lW : W.length = n := hW.2.2.1
  have lT : T.length = m := hT.2.2.1
  obtain ⟨n1, n2, n3, n4, n5⟩ := rightW (b := b) (z := z) (W := W) (T := T)
  clear hBk hW hT
  have hB2 := fun q => below_drewN' hB q
  have HB2 := Lib.hid hB2
  clear hB2 hB
  go_enter Tryz.func122, Tryz.ntmps122
  go_wp2_with fail
  by_cases h1 : 16 ≤ b ∧ b ≤ 1024
  · obtain ⟨B, rfl⟩ : ∃ B : Nat, b = B := ⟨b.toNat, by omega⟩
    have hb1 : 16 ≤ B := by omega
    have hb2 : B ≤ 1024 := by omega
    have hf : decide (16 ≤ (B : Int) ∧ (B : Int) ≤ 1024) = true := by simp; omega
    have HF := Lib.hid hf
    clear n1 hf h1
    by_cases h2 : 0 ≤ z
    · by_cases h3 : z ≤ 524288
      · obtain ⟨Z, rfl⟩ : ∃ Z : Nat, z = Z := ⟨z.toNat, by omega⟩
        have hZ : Z ≤ 524288 := by omega
        have e3 : decide ((524288 : Int) < (Z : Int)) = false := by simp; omega
        have e2 : decide ((Z : Int) < 0) = false := by simp
        simp only [Int.toNat_natCast] at n4
        have hcn : cnt Z B ≤ 524288 := Nat.le_trans (cnt_le (by omega)) hZ
        clear h2 h3 n2 n3
        obtain ⟨C, hC⟩ : ∃ C, C = cnt Z B := ⟨_, rfl⟩
        rw [← hC] at n4 hcn
        have HC : Hid (∀ w, Calls Tryz.prog 103 #[.int .i64 Z, .int .i64 B] w fun e w' => e = .returned (.int .i64 (C : Nat)) ∧ w = w') := Lib.hid (fun w => by rw [hC]; exact sgCount_any w Z B hZ hb1 hb2)
        by_cases h4 : n = C
        · subst h4
          have e4 : ((n : Int) != (n : Int)) = false := by simp
          by_cases h5 : m = n
          · subst h5
            have HS : Hid (∀ k, k = m → okTo W T k → sigOk B Z W T) := Lib.hid (fun k hk h => ⟨by omega, by omega, by omega, by omega, by simpa [lW] using hC, by omega, by rw [lW, ← hk]; exact h⟩)
            have HN : Hid (∀ j x t, j < m → W[j]? = some x → T[j]? = some t → ¬ (0 ≤ x ∧ x ≤ 4294967295 ∧ t.size = 32) → ¬ sigOk B Z W T) := Lib.hid (fun j x t hj hx ht h k => h (k.2.2.2.2.2.2 j (by omega) x t hx ht))
            clear n4 n5 lW lT hC
            go_quiet ((first
              | (go_at_call 102; exact quiet_eq (sgFits_any _ B true HF.out))
              | (go_at_call 103; exact quiet_eq (HC.out _))))
            go_wp2_with fail
            go_loopw [42] (fun i wr => ∃ k : Nat, k ≤ m ∧ i = .int .i64 k ∧ okTo W T k ∧ ∃ q, wr = (w.alloc (Obj.cells #[.int .i64 B, .int .i64 Z, .slice ao m cap, .slice bo m cap2] 136)).drewN q) (fun i _ => m - (intOf i).toNat)
            case atStart => exact ⟨0, by omega, rfl, okTo.zero _ _, _, rfl⟩
            case round =>
              obtain ⟨k, hk, rfl, hO, q, rfl⟩ := hrel
              have HO := Lib.hid hO
              clear hO
              by_cases hlt : k < m
              · obtain ⟨b1, o1, x, rfl, hx, d1⟩ := hW1.one hlt
                obtain ⟨b2, o2, t, rfl, ht2, d2⟩ := hT1.one hlt
                have hxw := hw x (List.mem_of_getElem? hx)
                have htw := ht t (List.mem_of_getElem? ht2)
                have HX := Lib.hid hx
                have HT := Lib.hid ht2
                clear hx ht2 hw ht hW1 hT1
                by_cases g1 : 0 ≤ x
                · have e5 : decide (x < 0) = false := by simp; omega
                  by_cases g2 : x ≤ 4294967295
                  · have e6 : decide ((4294967295 : Int) < x) = false := by simp; omega
                    by_cases g3 : t.size = 32
                    · have HO2 := Lib.hid (okTo.succ HO.out HX.out HT.out g1 g2 g3)
                      have e7 : ((t.size : Int) != 32) = false := by simp [g3]
                      clear g3
                      go_wp2
                      go_roundw
                      case rel => exact ⟨k + 1, by omega, by go_num, HO2.out, q, rfl⟩
                      case measure => simp [intOf]; omega
                    · have e7 : ((t.size : Int) != 32) = true := by simp; omega
                      have HPF := Lib.hid (HN.out k x t hlt HX.out HT.out (fun h => g3 h.2.2))
                      clear g3
                      go_wp2
                      go_ret
                      exact ⟨RightR.no HPF.out, HB2.out _⟩
                  · have e6 : decide ((4294967295 : Int) < x) = true := by simp; omega
                    have HPF := Lib.hid (HN.out k x t hlt HX.out HT.out (fun h => g2 h.2.1))
                    go_wp2
                    go_ret
                    exact ⟨RightR.no HPF.out, HB2.out _⟩
                · have e5 : decide (x < 0) = true := by simp; omega
                  have HPF := Lib.hid (HN.out k x t hlt HX.out HT.out (fun h => g1 h.1))
                  go_wp2
                  go_ret
                  exact ⟨RightR.no HPF.out, HB2.out _⟩
              · have HPF := Lib.hid (HS.out k (by omega) HO.out)
                go_wp2
                go_ret
                exact ⟨RightR.yes HPF.out, HB2.out _⟩
          · have e5 : ((m : Int) != (n : Int)) = true := by simp; omega
            have HPF := Lib.hid (n5 (by rw [lW, lT]; exact h5))
            clear n4 n5 lW lT h5 hC
            go_quiet ((first
              | (go_at_call 102; exact quiet_eq (sgFits_any _ B true HF.out))
              | (go_at_call 103; exact quiet_eq (HC.out _))))
            go_wp2
            go_ret
            exact ⟨RightR.no HPF.out, HB2.out _⟩
        · have e4 : ((n : Int) != (C : Int)) = true := by simp; omega
          have HPF := Lib.hid (n4 (by rw [lW]; exact h4))
          clear n4 n5 lW lT h4 hC
          go_quiet ((first
            | (go_at_call 102; exact quiet_eq (sgFits_any _ B true HF.out))
            | (go_at_call 103; exact quiet_eq (HC.out _))))
          go_wp2
          go_ret
          exact ⟨RightR.no HPF.out, HB2.out _⟩
      · have e3 : decide ((524288 : Int) < z) = true := by simp; omega
        have e2 : decide (z < 0) = false := by simp; omega
        have HPF := Lib.hid (n3 (by omega))
        clear n2 n3 n4 n5 lW lT
        go_quiet ((first
          | (go_at_call 102; exact quiet_eq (sgFits_any _ B true HF.out))))
        go_wp2
        go_ret
        exact ⟨RightR.no HPF.out, HB2.out _⟩
    · have e2 : decide (z < 0) = true := by simp; omega
      have HPF := Lib.hid (n2 (by omega))
      clear n2 n3 n4 n5 lW lT
      go_quiet ((first
        | (go_at_call 102; exact quiet_eq (sgFits_any _ B true HF.out))))
      go_wp2
      go_ret
      exact ⟨RightR.no HPF.out, HB2.out _⟩
  · have HPF := Lib.hid (n1 h1)
    have hf : decide (16 ≤ b ∧ b ≤ 1024) = false := by simpa using h1
    have HF := Lib.hid hf
    clear n1 n2 n3 n4 n5 hf h1
    go_quiet ((first
      | (go_at_call 102; exact quiet_eq (sgFits_any _ b false HF.out))))
    go_wp2
    go_ret
    exact ⟨RightR.no HPF.out, HB2.out _⟩
end Go.Proofs.YtgkcnocfijckoaaGreat.Sg
namespace Go.Proofs.YtgkcnocfijckoaaGreat.Sg
open Go.RowKit
set_option linter.unusedVariables false
set_option linter.unusedSimpArgs false
end Go.Proofs.YtgkcnocfijckoaaGreat.Sg
namespace Go.Proofs.YtgkcnocfijckoaaGreat.Sg
open Go.RowKit
set_option linter.unusedVariables false
set_option linter.unusedSimpArgs false
theorem _root_.Go.Proofs.YtgkcnocfijckoaaGreat.BookI.alloc {w : World} {p m : Nat} {seen : List (List UInt8)} (h : BookI w p m seen) (o : Obj) : BookI (w.alloc o) p m seen := h.grown (World.grownBy_alloc w o none) (by simp) (by simp)
theorem _root_.Go.Proofs.YtgkcnocfijckoaaGreat.BookI.drew {w : World} {p m : Nat} {seen : List (List UInt8)} (h : BookI w p m seen) : BookI w.drew p m seen := h.grown (grown_drew (grown_refl w none)) (by simp) (by simp)
theorem _root_.Go.Proofs.YtgkcnocfijckoaaGreat.Blk.newAt (W : World) (cs : List Value) (t : TypeId) (q : Nat) (h : q = W.heap.size) : Blk (W.alloc (.cells cs.toArray t)) q cs t := by subst h; exact Blk.new W cs t
theorem drew_size (W : World) : W.drew.heap.size = W.heap.size := rfl
theorem _root_.Go.Proofs.YtgkcnocfijckoaaGreat.Blk.drew1 {W : World} {q : Nat} {cs : List Value} {t : TypeId} (h : Blk W q cs t) : Blk W.drew q cs t := h
theorem _root_.Go.Proofs.YtgkcnocfijckoaaGreat.Blk.belowW {W w1 : World} {q : Nat} {cs : List Value} {t : TypeId} (h : Blk W q cs t) (hb : Below W.heap.size W w1) : Blk w1 q cs t := by
  have hl := h.lt
  unfold Blk at h ⊢
  rw [hb.block q hl]; exact h
theorem sig_blk {W w2 : World} {m : Nat} (hg : W.grownBy w2 (some m)) (q : Nat) (h : Blk W q sigZ 136) (hne : q ≠ m) : Blk w2 q sigZ 136 := h.grown hg (by simpa using hne)
theorem book_m {w1 : World} {p m : Nat} (hI : BookI w1 p m []) : m < w1.heap.size := hI.2.2.2.2.1.2
theorem blk_q {W : World} {q : Nat} {cs : List Value} {t : TypeId} (h : Blk W q cs t) (n : Nat) (hn : n ≤ q) : n ≤ q := hn
theorem bl_alloc {w W : World} (h : Below w.heap.size w W) (o : Obj) : Below w.heap.size w (W.alloc o) := h.alloc h.size o
theorem bl_drew {w W : World} (h : Below w.heap.size w W) : Below w.heap.size w W.drew := ⟨h.os, h.tape, h.output, h.size, h.block⟩
theorem bl_set {w W : World} (h : Below w.heap.size w W) (q i : Nat) (v : Value) (hq : w.heap.size ≤ q) : Below w.heap.size w (W.setCell ⟨q, i, none⟩ v) := h.grown (grown_set (grown_refl _ (some q)) i v) h.size (by simp; omega)
theorem bl_next {w W X : World} (h : Below w.heap.size w W) (k : Below W.heap.size W X) : Below w.heap.size w X := ⟨k.os.trans h.os, k.tape.trans h.tape, k.output.trans h.output, Nat.le_trans h.size k.size, fun i hi => (k.block i (Nat.lt_of_lt_of_le hi h.size)).trans (h.block i hi)⟩
theorem bl_grow {w W X : World} {m : Nat} (h : Below w.heap.size w W) (k : W.grownBy X (some m)) (hm : w.heap.size ≤ m) : Below w.heap.size w X := h.grown k h.size (by simp; omega)
theorem sigOk_32 {b z : Int} {W : List Int} {T : List ByteArray} (h : sigOk b z W T) : ∀ t ∈ T, t.size = 32 := by
  intro t ht
  obtain ⟨i, hi, rfl⟩ := List.getElem_of_mem ht
  have hW : i < W.length := by have := h.2.2.2.2.2.1; omega
  exact (h.2.2.2.2.2.2 i hW _ _ (List.getElem?_eq_getElem hW) (List.getElem?_eq_getElem hi)).2.2
theorem wfI (n : Int) (h0 : -9223372036854775808 ≤ n) (h : n ≤ 9223372036854775807) : (Lit.int .i64 n).wf = true := Go.WalkArith.wf_i64 ⟨h0, h⟩
theorem sigOk_wfW {b z : Int} {W : List Int} {T : List ByteArray} (h : sigOk b z W T) : ∀ x ∈ W, (Lit.int .i64 x).wf = true := by
  intro x hx
  obtain ⟨i, hi, rfl⟩ := List.getElem_of_mem hx
  have hT : i < T.length := by have := h.2.2.2.2.2.1; omega
  have := h.2.2.2.2.2.2 i hi _ _ (List.getElem?_eq_getElem hi) (List.getElem?_eq_getElem hT)
  exact wfI _ (by omega) (by omega)
theorem intsFlat (L : List Int) : L.flatMap (fun x => [Value.int .i64 x]) = L.map (Value.int .i64) := by
  induction L with
  | nil => rfl
  | cons x l ih => rw [List.flatMap_cons, ih]; rfl
theorem bl_alloc' {w W : World} (h : Below w.heap.size w W) (o : Obj) : Below w.heap.size w (W.alloc o) := h.alloc h.size o
theorem bl_nx {w W X : World} (h : Below w.heap.size w W) (k : Below W.heap.size W X) : Below w.heap.size w X := h.trans (k.mono h.size)
theorem _root_.Go.Proofs.YtgkcnocfijckoaaGreat.Blk.belowB {W w1 : World} {q : Nat} {cs : List Value} {t : TypeId} (h : Blk W q cs t) (hb : Below W.heap.size W w1) : Blk w1 q cs t := h.below hb h.lt
theorem owns_newL (w : World) (xs : List Value) (e : TypeId) (n : Nat) (hn : xs.length = n) (hm : n ≤ maxLen) : (w.alloc (.cells xs.toArray e)).ownsRow w.heap.size e 1 (.slice (some ⟨w.heap.size, 0, none⟩) n n) n xs := by
  subst hn
  refine ⟨by simp, .inr ⟨w.heap.size, xs.length, xs.toArray, rfl, Nat.le_refl _, heap_alloc_new w _, Nat.le_refl _, hm, by simp, by simp⟩⟩
theorem one_ints (L : List Int) : ∀ u ∈ L.flatMap (fun x => [Value.int .i64 x]), u.oneCell' = true := by
  intro u hu
  simp only [List.mem_flatMap, List.mem_singleton] at hu
  obtain ⟨x, _, rfl⟩ := hu
  rfl
theorem slice_of5 {w : World} {base : Nat} {e : TypeId} {size n : Nat} {v : Value} {xs : List Value} (h : w.ownsRow base e size v n xs) : ∃ ao cap, v = .slice ao n cap := owns_slice h
theorem RowI.rs' {w : World} {base n cap : Nat} {ao : Option Addr} {l : List Int} (h : RowI w base (.slice ao n cap) l) (hn : l.length = n) : Rs w ao n cap 1 l (fun x => [.int .i64 x]) := by
  refine Rs.of_owns (f := fun x : Int => [Value.int .i64 x]) (size := 1) (base := base) (e := 3) (fun _ => rfl) hn ?_
  rw [intsFlat]; subst hn; exact h
theorem snoc_ind {α : Type} {P : List α → Prop} (h0 : P []) (h1 : ∀ l x, P l → P (l ++ [x])) : ∀ l, P l := by
  intro l
  rw [← List.reverse_reverse l]
  induction l.reverse with
  | nil => exact h0
  | cons x l ih => rw [List.reverse_cons]; exact h1 _ _ ih
theorem marks_take (seen : Bk) : ∀ (L : List ByteArray) (k : Nat) (p mk : ByteArray), L[k]? = some p → (marksOf seen L).2[k]? = some mk → bytesOf p ∈ (marksOf seen L).1 ∧ mk = numS ((marksOf seen L).1.idxOf (bytesOf p) + 1) := by
  refine snoc_ind (by intro k p mk h; simp at h) ?_
  · intro L x ih k p mk h1 h2
    rw [marksOf_snoc] at h2 ⊢
    have hl := marksOf_len seen L
    simp only [markS] at h2 ⊢
    by_cases hk : k < L.length
    · rw [List.getElem?_append_left hk] at h1
      rw [List.getElem?_append_left (by omega)] at h2
      obtain ⟨a, b⟩ := ih k p mk h1 h2
      exact ⟨(mem_addS _ _ _).2 (.inl a), by rw [idx_addS a]; exact b⟩
    · rw [List.getElem?_append_right (by omega)] at h1
      rw [List.getElem?_append_right (by omega)] at h2
      have e : k - L.length = 0 := by
        have := (List.getElem?_eq_some_iff.1 h1).1
        simp at this; omega
      rw [e] at h1
      rw [hl, e] at h2
      simp only [List.getElem?_cons_zero, Option.some.injEq] at h1 h2
      subst h1; subst h2
      exact ⟨(mem_addS _ _ _).2 (.inr rfl), by rw [idx_self]⟩
theorem marks_size (seen : Bk) : ∀ (L : List ByteArray) (t : ByteArray), t ∈ (marksOf seen L).2 → t.size = 32 := by
  refine snoc_ind (by intro t h; simp [marksOf] at h) ?_
  · intro L x ih t h
    rw [marksOf_snoc] at h
    simp only [markS, List.mem_append, List.mem_singleton] at h
    rcases h with h | h
    · exact ih t h
    · rw [h]; exact numS_size _
theorem weakI_bd (s : ByteArray) : 0 ≤ weakI s ∧ weakI s ≤ 4294967295 := by
  unfold weakI
  have := weak_lt (bytesOf s)
  omega
theorem piece_size (s : ByteArray) (block k : Nat) : (piece s block k).size ≤ s.size := by unfold piece; rw [ByteArray.size_extract]; omega
theorem sign_ok (s : ByteArray) (block : Nat) (T : List ByteArray) (hb : 16 ≤ block) (hb2 : block ≤ 1024) (hs : s.size ≤ 524288) (hT : T.length = cnt s.size block) (h32 : ∀ t ∈ T, t.size = 32) : sigOk block s.size ((pieces s block (cnt s.size block)).map weakI) T := by
  have hl : ((pieces s block (cnt s.size block)).map weakI).length = cnt s.size block := by rw [List.length_map, pieces_len]
  refine ⟨by omega, by omega, by omega, by omega, by simpa using hl, by omega, ?_⟩
  intro j hj x t hx ht
  have hx2 := List.mem_of_getElem? hx
  simp only [List.mem_map] at hx2
  obtain ⟨p, _, rfl⟩ := hx2
  have := weakI_bd p
  exact ⟨this.1, this.2, h32 t (List.mem_of_getElem? ht)⟩
theorem flat1 {α : Type} (g : α → Value) (l : List α) : l.flatMap (fun x => [g x]) = l.map g := by
  induction l with
  | nil => rfl
  | cons x l ih => rw [List.flatMap_cons, ih]; rfl
theorem RowI.rs {w : World} {base n cap : Nat} {ao : Option Addr} {l : List Int} (h : RowI w base (.slice ao n cap) l) (hn : l.length = n) : Rs w ao n cap 1 l (fun x => [.int .i64 x]) := by
  refine Rs.of_owns (f := fun x : Int => [Value.int .i64 x]) (size := 1) (base := base) (e := 3) (fun _ => rfl) hn ?_
  rw [flat1]; subst hn; exact h
theorem RowS.rs {w : World} {base n cap : Nat} {ao : Option Addr} {l : List ByteArray} (h : RowS w base (.slice ao n cap) l) (hn : l.length = n) : Rs w ao n cap 1 l (fun x => [.string x]) := by
  refine Rs.of_owns (f := fun x : ByteArray => [Value.string x]) (size := 1) (base := base) (e := 9) (fun _ => rfl) hn ?_
  rw [flat1]; subst hn; exact h
theorem rs_nil {α : Type} (w : World) (f : α → List Value) : Rs w none 0 0 1 ([] : List α) f := ⟨by omega, by decide, rfl, fun h => by omega⟩
/-- a text, or its first bytes -/
def cutS (s : ByteArray) (n : Nat) : ByteArray := if n < s.size then s.extract 0 n else s
theorem cutS_size (s : ByteArray) (n : Nat) : (cutS s n).size ≤ n := by
  unfold cutS
  split
  · rw [ByteArray.size_extract]; omega
  · omega
set_option maxHeartbeats 1000000 in
theorem sign_bad (w : World) (v : Value) (s : ByteArray) (block : Int) (wb : (Lit.int .i64 block).wf = true) (hb : ¬ (16 ≤ block ∧ block ≤ 1024)) :
    Calls Tryz.prog 82 #[v, .string s, .int .i64 block] w fun e w' => e = .returned (.tuple #[.agg #[.int .i64 0, .int .i64 0, .slice none 0 0, .slice none 0 0], .int .i64 1]) ∧ Below w.heap.size w w' := by
  have hsz := sigZ_run
  obtain ⟨V, hV⟩ : ∃ V, V = w.alloc (Obj.cells #[.int .i64 0, .int .i64 0, .slice none 0 0, .slice none 0 0] 136) := ⟨_, rfl⟩
  obtain ⟨p6, hp6⟩ : ∃ q, q = w.heap.size := ⟨_, rfl⟩
  have hZ : Blk V p6 [.int .i64 0, .int .i64 0, .slice none 0 0, .slice none 0 0] 136 := by rw [hV, hp6]; exact Blk.new w _ _
  have hkz : Below w.heap.size w ((((V.setCell ⟨p6, 0, none⟩ (.int .i64 0)).setCell ⟨p6, 1, none⟩ (.int .i64 0)).setCell ⟨p6, 2, none⟩ (.slice none 0 0)).setCell ⟨p6, 3, none⟩ (.slice none 0 0)) := by
    rw [hV, hp6]
    exact (((((bel_alloc w _).setCell (Nat.le_refl _) _).setCell (Nat.le_refl _) _).setCell (Nat.le_refl _) _).setCell (Nat.le_refl _) _)
  have HV := Lib.hid hV
  have HP6 := Lib.hid hp6
  have z0 := hZ.cell (i := 0) rfl
  have z1 := hZ.cell (i := 1) rfl
  have z2 := hZ.cell (i := 2) rfl
  have z3 := hZ.cell (i := 3) rfl
  have f0 := hZ.frozen 0
  have f1 := hZ.frozen 1
  have f2 := hZ.frozen 2
  have f3 := hZ.frozen 3
  have HZ := Lib.hid hZ
  have HB := Lib.hid hkz
  clear hZ hkz hV hp6
  have hf : decide (16 ≤ block ∧ block ≤ 1024) = false := by simpa using hb
  have HF := Lib.hid hf
  clear hf hb
  go_enter Tryz.func82, Tryz.ntmps82
  go_wp2_with fail
  refine (sgFits_any _ block false HF.out).mono ?_
  rintro e w1 ⟨rfl, rfl⟩
  rw [← HP6.out, ← HV.out]
  go_wp2
  refine bodyPost_ret (res_cell_row rfl _ _ p6 136 _ (0, 0) _ rfl ((((HZ.out.set 0 _).set 1 _).set 2 _).set 3 _) Tryz.underlying136 rfl (by kernel_rfl)) rfl ?_
  exact ⟨rfl, HB.out⟩
/-- a signature that came in -/
theorem sig_of {w : World} {c : Array Value} (h : Kd.ok w (.agg [.int .i64, .int .i64, .sl (.int .i64), .sl .str]) c.toList) :
    ∃ (b z : Int) (ao : Option Addr) (n cap : Nat) (bo : Option Addr) (m cap2 : Nat) (W : List Int) (T : List ByteArray), c = #[.int .i64 b, .int .i64 z, .slice ao n cap, .slice bo m cap2] ∧ (Lit.int .i64 b).wf = true ∧ (Lit.int .i64 z).wf = true ∧
      Rs w ao n cap 1 W (fun x => [.int .i64 x]) ∧ Rs w bo m cap2 1 T (fun x => [.string x]) ∧ (∀ x ∈ W, (Lit.int .i64 x).wf = true) ∧ (∀ x ∈ T, x.size ≤ maxLen) := by
  simp only [Kd.ok, Kd.okL, Kd.cells] at h
  obtain ⟨a, a', ha, _, ⟨b, rfl, hb⟩, a2, a2', rfl, _, ⟨z, rfl, hz⟩, a3, a3', rfl, _, ⟨ao, n, cap, rfl, hs1⟩, a4, a4', rfl, _, ⟨bo, m, cap2, rfl, hs2⟩, rfl⟩ := h
  have h1 : (Kd.sl (.int .i64)).ok w [.slice ao n cap] := by simp only [Kd.ok, Kd.cells]; exact ⟨ao, n, cap, rfl, hs1⟩
  have h2 : (Kd.sl .str).ok w [.slice bo m cap2] := by simp only [Kd.ok, Kd.cells]; exact ⟨bo, m, cap2, rfl, hs2⟩
  obtain ⟨W, hW, hw⟩ := ints_of h1
  obtain ⟨T, hT, ht⟩ := strs_of h2
  refine ⟨b, z, ao, n, cap, bo, m, cap2, W, T, ?_, hb, hz, hW, hT, hw, ht⟩
  apply Array.ext'
  simpa using ha
theorem sig_limbs {w w' : World} {p : Nat} {v0 v1 v2 v3 : Value} {t : TypeId} (h : Blk w' p [v0, v1, v2, v3] t) (hb : Below w.heap.size w w') :
    w'.cell? ⟨p, 0, none⟩ = some v0 ∧ w'.cell? ⟨p, 1, none⟩ = some v1 ∧ w'.cell? ⟨p, 2, none⟩ = some v2 ∧ w'.cell? ⟨p, 3, none⟩ = some v3 ∧ Below w.heap.size w w' ∧ Blk w' p [v0, v1, v2, v3] t :=
  ⟨h.cell (i := 0) rfl, h.cell (i := 1) rfl, h.cell (i := 2) rfl, h.cell (i := 3) rfl, hb, h⟩
theorem ret_b {e : Ending} {P : Prop} {R : Bool} (h : RightR P e) (hR : R = true ↔ P) : e = .returned (.bool R) := by
  obtain ⟨r, rfl, hr⟩ := h
  have : r = R := by
    cases r <;> cases R <;> simp_all
  rw [this]
end Go.Proofs.YtgkcnocfijckoaaGreat.Sg
