/- sign.NewTable: the walk. Conditions: as named in each theorem. -/
import Derived.Test.YtgkcnocfijckoaaGreatSortStable
import Derived.Test.YtgkcnocfijckoaaGreatQH
import Derived.Test.YtgkcnocfijckoaaGreatShSlices
import Derived.Test.YtgkcnocfijckoaaGreatSgCore
import Derived.Deep.RegionHeld3
import Derived.Deep.Cut
import Derived.Deep.RegionLaw
namespace Go.Proofs.YtgkcnocfijckoaaGreat.Sg
open Go.RowKit
set_option linter.unusedVariables false
set_option linter.unusedSimpArgs false
theorem owns_next {w w' : World} {base : Nat} {e : TypeId} {size n : Nat} {v : Value} {xs : List Value} (h : w.ownsRow base e size v n xs) (hb : Below w.heap.size w w') : w'.ownsRow base e size v n xs :=
  World.ownsRow.kept h (below_grown hb none) (by cases hv : v.ownBlock <;> simp)
theorem cloneI_any (w : World) (ao : Option Addr) (n cap : Nat) (W : List Int) (hW : Rs w ao n cap 1 W (fun x => [.int .i64 x])) (hn : n ≤ 1000000) :
    Calls Tryz.prog 123 #[.slice ao n cap] w fun e w' => ∃ v', e = .returned v' ∧ w'.ownsRow w.heap.size 3 1 v' n (W.map (Value.int .i64)) ∧ Below w.heap.size w w' := by
  have hl := hW.2.2.1
  cases ao with
  | none =>
    have h0 : n = 0 := by
      rcases Nat.eq_zero_or_pos n with h | h
      · exact h
      · obtain ⟨_, _, e, _⟩ := hW.2.2.2 h; cases e
    subst h0
    have hW0 : W = [] := List.eq_nil_of_length_eq_zero hl
    subst hW0
    refine (Any.slices_Clone_int_nil shCloneI 0 cap w).mono ?_
    rintro e w' ⟨rfl, rfl⟩
    exact ⟨_, rfl, World.ownsRow_nil _ _ _ _, Below.refl _ _⟩
  | some a =>
    rcases Nat.eq_zero_or_pos n with h | h
    · subst h
      have hW0 : W = [] := List.eq_nil_of_length_eq_zero hl
      subst hW0
      refine (Any.slices_Clone_int_zero shCloneI a cap w).mono ?_
      rintro e w' ⟨v', rfl, ho, -, hb⟩
      exact ⟨_, rfl, ho, hb⟩
    · obtain ⟨b, off, e, hbl, hc⟩ := hW.cell1 h
      injection e with e
      subst e
      refine (Any.slices_Clone_int shCloneI b off n cap W w (by omega) (by omega) (fun j hj => ?_)).mono ?_
      · rw [List.getD_eq_getElem?_getD, List.getElem?_eq_getElem hj]
        exact hc j hj _ rfl
      · rintro e w' ⟨v', rfl, ho, -, hb⟩
        rw [List.take_of_length_le (by omega)] at ho
        exact ⟨_, rfl, ho, hb⟩
theorem cloneS_any (w : World) (ao : Option Addr) (n cap : Nat) (W : List ByteArray) (hW : Rs w ao n cap 1 W (fun x => [.string x])) (hn : n ≤ 1000000) :
    Calls Tryz.prog 124 #[.slice ao n cap] w fun e w' => ∃ v', e = .returned v' ∧ w'.ownsRow w.heap.size 9 1 v' n (W.map Value.string) ∧ Below w.heap.size w w' := by
  have hl := hW.2.2.1
  cases ao with
  | none =>
    have h0 : n = 0 := by
      rcases Nat.eq_zero_or_pos n with h | h
      · exact h
      · obtain ⟨_, _, e, _⟩ := hW.2.2.2 h; cases e
    subst h0
    have hW0 : W = [] := List.eq_nil_of_length_eq_zero hl
    subst hW0
    refine (Any.slices_Clone_string_nil shCloneS 0 cap w).mono ?_
    rintro e w' ⟨rfl, rfl⟩
    exact ⟨_, rfl, World.ownsRow_nil _ _ _ _, Below.refl _ _⟩
  | some a =>
    rcases Nat.eq_zero_or_pos n with h | h
    · subst h
      have hW0 : W = [] := List.eq_nil_of_length_eq_zero hl
      subst hW0
      refine (Any.slices_Clone_string_zero shCloneS a cap w).mono ?_
      rintro e w' ⟨v', rfl, ho, -, hb⟩
      exact ⟨_, rfl, ho, hb⟩
    · obtain ⟨b, off, e, hbl, hc⟩ := hW.cell1 h
      injection e with e
      subst e
      refine (Any.slices_Clone_string shCloneS b off n cap W w (by omega) (by omega) (fun j hj => ?_)).mono ?_
      · rw [List.getD_eq_getElem?_getD, List.getElem?_eq_getElem hj]
        exact hc j hj _ rfl
      · rintro e w' ⟨v', rfl, ho, -, hb⟩
        rw [List.take_of_length_le (by omega)] at ho
        exact ⟨_, rfl, ho, hb⟩
theorem less_any (w : World) (pb : Nat) (b z : Int) (ao : Option Addr) (n cap : Nat) (v3 : Value) (W : List Int) (x y D : Int) (hg : Blk w pb [.int .i64 b, .int .i64 z, .slice ao n cap, v3] 136) (hW : Rs w ao n cap 1 W (fun x => [.int .i64 x]))
    (hbd : ∀ v ∈ W, 0 ≤ v ∧ v ≤ 4294967295) (hx : 0 ≤ x) (hx2 : x < n) (hy : 0 ≤ y) (hy2 : y < n) (hD : wtOf W x - wtOf W y = D) :
    Calls Tryz.prog 126 #[.int .i64 x, .int .i64 y, .pointer (some ⟨pb, 0, none⟩)] w fun e w' => e = .returned (.int .i64 D) ∧ ∃ d, w' = w.drewN d := by
  obtain ⟨X, rfl⟩ : ∃ X : Nat, x = X := ⟨x.toNat, by omega⟩
  obtain ⟨Y, rfl⟩ : ∃ Y : Nat, y = Y := ⟨y.toNat, by omega⟩
  obtain ⟨bb, off, u, rfl, hu, cu⟩ := hW.one (k := X) (by omega)
  obtain ⟨b1, o1, v, e1, hv, cv⟩ := hW.one (k := Y) (by omega)
  injection e1 with e1
  injection e1 with e1 e2
  subst e1 e2
  have hu1 : wtOf W X = u := by simp only [wtOf, Int.toNat_natCast]; rw [List.getD_eq_getElem?_getD, hu]; rfl
  have hv1 : wtOf W Y = v := by simp only [wtOf, Int.toNat_natCast]; rw [List.getD_eq_getElem?_getD, hv]; rfl
  rw [hu1, hv1] at hD
  have bu := hbd u (List.mem_of_getElem? hu)
  have bv := hbd v (List.mem_of_getElem? hv)
  have hw1 : IntKind.i64.wrap (u - v) = D := by rw [hD]; exact IntWalk.i64_in _ (by omega)
  have d1 : -4294967295 ≤ D := by omega
  have d2 : D ≤ 4294967295 := by omega
  have c2 := hg.cell (i := 2) rfl
  clear hu hv hu1 hv1 hg hW hbd bu bv
  go_enter Tryz.func126, Tryz.ntmps126
  go_wp2_with fail
  go_quiet (fail)
  go_wp2
  go_ret
  exact ⟨rfl, _, rfl⟩
/-- a row of our own as a row that the sort turns -/
theorem own_rw {w : World} {base g n cap : Nat} {f : Nat → Int} (h : w.ownsRow base 3 1 (.slice (some ⟨g, 0, none⟩) n cap) n (rowL n f)) : ∃ R, Rw R w g n f ∧ n + R.length = cap ∧ base ≤ g ∧ cap ≤ maxLen := by
  obtain ⟨hl, ⟨h1, -⟩ | ⟨g', cap', cur, h1, h2, h3, h4, h5, h6, h7⟩⟩ := h
  · cases h1
  · injection h1 with h1 _ hc
    injection h1 with h1
    injection h1 with h1
    subst h1 hc
    refine ⟨cur.toList.drop n, ?_, ?_, h2, h5⟩
    · unfold Rw Blk
      rw [h3, ← h7, Nat.mul_one, List.take_append_drop, Array.toArray_toList]
    · rw [List.length_drop, Array.length_toList]; omega
theorem rw_own {R : List Value} {w : World} {base g n cap : Nat} {f : Nat → Int} (h : Rw R w g n f) (hc : n + R.length = cap) (hb : base ≤ g) (hm : cap ≤ maxLen) : w.ownsRow base 3 1 (.slice (some ⟨g, 0, none⟩) n cap) n (rowL n f) := by
  refine ⟨by rw [rowL_len, Nat.mul_one], .inr ⟨g, cap, _, rfl, hb, h, by omega, hm, ?_, ?_⟩⟩
  · simp [rowL_len]; omega
  · rw [Nat.mul_one, List.toList_toArray, List.take_append_of_le_length (by rw [rowL_len]; exact Nat.le_refl _), List.take_of_length_le (by rw [rowL_len]; exact Nat.le_refl _)]
theorem sortStable_nil (w : World) (vc : Value) : Calls Tryz.prog 125 #[.slice none 0 0, vc] w fun e w' => (∃ r, e = .returned r) ∧ w' = w := by
  have hi : Calls Tryz.prog 137 #[.slice none 0 0, .int .i64 0, .int .i64 0, vc] w fun e w' => (∃ r, e = .returned r) ∧ w' = w := by
    go_enter Tryz.func137, Tryz.ntmps137
    go_wp2
    go_loopw [8] (fun x wr => x = .int .i64 1 ∧ wr = w) (fun _ _ => 0)
    case atStart => exact ⟨rfl, rfl⟩
    case round =>
      obtain ⟨rfl, rfl⟩ := hrel
      go_wp2
      go_end0
      exact ⟨⟨_, rfl⟩, rfl⟩
  have hs : Calls Tryz.prog 134 #[.slice none 0 0, .int .i64 0, vc] w fun e w' => (∃ r, e = .returned r) ∧ w' = w := by
    go_enter Tryz.func134, Tryz.ntmps134
    go_wp2
    go_loopw [7, 8] (fun x y wr => x = .int .i64 0 ∧ y = .int .i64 20 ∧ wr = w) (fun _ _ _ => 0)
    case atStart => exact ⟨rfl, rfl, rfl⟩
    case round =>
      obtain ⟨rfl, rfl, rfl⟩ := hrel
      go_wp2_with (first | (go_at_call 137; refine hi.mono ?_; rintro e w' ⟨⟨r, rfl⟩, rfl⟩))
      go_loopw [6] (fun x wr => x = .int .i64 20 ∧ wr = w') (fun _ _ => 0)
      case atStart => exact ⟨rfl, rfl⟩
      case round =>
        obtain ⟨rfl, rfl⟩ := hrel
        go_wp2
        go_end0
        exact ⟨⟨_, rfl⟩, rfl⟩
  go_enter Tryz.func125, Tryz.ntmps125
  go_wp2_with (first | (go_at_call 134; refine hs.mono ?_; rintro e w' ⟨⟨r, rfl⟩, rfl⟩))
  go_end0
  exact ⟨⟨_, rfl⟩, rfl⟩
end Go.Proofs.YtgkcnocfijckoaaGreat.Sg
namespace Go.Proofs.YtgkcnocfijckoaaGreat.Sg
open Go.RowKit
set_option linter.unusedVariables false
set_option linter.unusedSimpArgs false
/-- the places in their order -/
def plc (n : Nat) (f : Nat → Int) : List Int := (List.range n).map f
theorem plc_len (n : Nat) (f : Nat → Int) : (plc n f).length = n := by simp [plc]
theorem plc_row (n : Nat) (f : Nat → Int) : (plc n f).map (Value.int .i64) = rowL n f := by simp [plc, rowL, Function.comp_def]
theorem plc_succ (n : Nat) (f : Nat → Int) : plc (n + 1) f = plc n f ++ [f n] := by simp [plc, List.range_succ]
theorem plc_get {n : Nat} (f : Nat → Int) {i : Nat} (h : i < n) : (plc n f)[i]? = some (f i) := by
  unfold plc; rw [List.getElem?_map, List.getElem?_range h]; rfl
/-- a table lies at pt -/
structure Tab (B : Nat) (w : World) (pt : Nat) (b z : Int) (vI vS kv pv : Value) (W : List Int) (T : List ByteArray) (L : List Int) : Prop where
  t : Blk w pt [.int .i64 b, .int .i64 z, vI, vS, kv, pv] 181
  i : RowI w B vI W
  s : RowS w B vS T
  k : RowI w B kv (L.map (wtOf W))
  p : RowI w B pv L
  b0 : B ≤ pt
theorem Tab.next {B : Nat} {w w' : World} {pt : Nat} {b z : Int} {vI vS kv pv : Value} {W : List Int} {T : List ByteArray} {L : List Int} (h : Tab B w pt b z vI vS kv pv W T L) (hb : Below w.heap.size w w') : Tab B w' pt b z vI vS kv pv W T L :=
  ⟨h.t.belowB hb, owns_next h.i hb, owns_next h.s hb, owns_next h.k hb, owns_next h.p hb, h.b0⟩
theorem Tab.grown {B : Nat} {w w' : World} {pt : Nat} {b z : Int} {vI vS kv pv : Value} {W : List Int} {T : List ByteArray} {L : List Int} (h : Tab B w pt b z vI vS kv pv W T L) {m : Nat} (hg : w.grownBy w' (some m)) (hm : m < B) : Tab B w' pt b z vI vS kv pv W T L := by
  have h0 := h.b0
  refine ⟨h.t.grown hg (by simp; omega), World.ownsRow.kept h.i hg (.inr (owns_ne h.i hm)), World.ownsRow.kept h.s hg (.inr (owns_ne h.s hm)), World.ownsRow.kept h.k hg (.inr (owns_ne h.k hm)), World.ownsRow.kept h.p hg (.inr (owns_ne h.p hm)), h0⟩
structure TbR (w wr : World) (pb pt : Nat) (b z : Int) (v2 v3 vI vS kv pv : Value) (W : List Int) (T : List ByteArray) (K L : List Int) : Prop where
  g : Blk wr pb [.int .i64 b, .int .i64 z, v2, v3] 136
  t : Blk wr pt [.int .i64 b, .int .i64 z, vI, vS, kv, pv] 181
  i : RowI wr w.heap.size vI W
  s : RowS wr w.heap.size vS T
  k : RowI wr (pt + 1) kv K
  p : RowI wr (pt + 1) pv L
  ap : ApartR kv pv
  ni : ∀ j, vI.ownBlock = some j → pb < j ∧ j < pt
  ns : ∀ j, vS.ownBlock = some j → pb < j ∧ j < pt
  bl : Below w.heap.size w wr
  w0 : w.heap.size ≤ pb
  zr : pb < pt
section
variable {w wr : World} {pb pt : Nat} {b z : Int} {v2 v3 vI vS kv pv : Value} {W : List Int} {T : List ByteArray} {K L : List Int}
theorem TbR.drew (h : TbR w wr pb pt b z v2 v3 vI vS kv pv W T K L) : TbR w wr.drew pb pt b z v2 v3 vI vS kv pv W T K L :=
  ⟨h.g, h.t, h.i, h.s, h.k, h.p, h.ap, h.ni, h.ns, bl_drew h.bl, h.w0, h.zr⟩
theorem TbR.alloc (h : TbR w wr pb pt b z v2 v3 vI vS kv pv W T K L) (o : Obj) : TbR w (wr.alloc o) pb pt b z v2 v3 vI vS kv pv W T K L :=
  ⟨h.g.alloc _, h.t.alloc _, World.ownsRow.alloc h.i _, World.ownsRow.alloc h.s _, World.ownsRow.alloc h.k _, World.ownsRow.alloc h.p _, h.ap, h.ni, h.ns, bl_alloc h.bl _, h.w0, h.zr⟩
/-- what has not turned when only a row behind pt has grown -/
theorem TbR.far (h : TbR w wr pb pt b z v2 v3 vI vS kv pv W T K L) {w5 : World} {ro : Option Nat} (hg : wr.grownBy w5 ro) (hro : ∀ j, ro = some j → pt < j) :
    Blk w5 pb [.int .i64 b, .int .i64 z, v2, v3] 136 ∧ Blk w5 pt [.int .i64 b, .int .i64 z, vI, vS, kv, pv] 181 ∧ RowI w5 w.heap.size vI W ∧ RowS w5 w.heap.size vS T ∧ Below w.heap.size w w5 := by
  have h1 := h.w0; have h2 := h.zr
  have far : ∀ q, q ≤ pt → some q ≠ ro := fun q hq e => by have := hro q e.symm; omega
  refine ⟨h.g.grown hg (far pb (by omega)), h.t.grown hg (far pt (Nat.le_refl _)), World.ownsRow.kept h.i hg ?_, World.ownsRow.kept h.s hg ?_, h.bl.grown hg h.bl.size (fun j e => by have := hro j e; omega)⟩
  · cases hv : vI.ownBlock with
    | none => exact .inl rfl
    | some j => exact .inr (far j (by have := h.ni j hv; omega))
  · cases hv : vS.ownBlock with
    | none => exact .inl rfl
    | some j => exact .inr (far j (by have := h.ns j hv; omega))
theorem TbR.place (h : TbR w wr pb pt b z v2 v3 vI vS kv pv W T K L) {w5 : World} {v5 : Value} {x : Int} (ho : w5.ownsRow (pt + 1) 3 1 v5 (L.length + 1) (L.map (Value.int .i64) ++ [.int .i64 x]))
    (hg : wr.grownBy w5 pv.ownBlock) (hb : v5.ownBlock = pv.ownBlock ∨ ∃ q, kv.ownBlock ≠ some q ∧ v5.ownBlock = some q) : TbR w (w5.setCell ⟨pt, 5, none⟩ v5) pb pt b z v2 v3 vI vS kv v5 W T K (L ++ [x]) := by
  have h1 := h.w0; have h2 := h.zr
  have hgs : w5.grownBy (w5.setCell ⟨pt, 5, none⟩ v5) (some pt) := grown_set (grown_refl _ _) 5 _
  obtain ⟨f1, f2, f3, f4, f5⟩ := h.far hg (fun j e => by have := (World.ownsRow.lt h.p j e).1; omega)
  refine ⟨f1.setOther (by simp; omega) v5, f2.set 5 v5, World.ownsRow.kept f3 hgs (.inr fun e => by have := h.ni pt e; omega), World.ownsRow.kept f4 hgs (.inr fun e => by have := h.ns pt e; omega), World.ownsRow.kept (World.ownsRow.kept h.k hg (own_ne (fun j hj e => h.ap j e hj))) hgs (.inr fun e => by have := (World.ownsRow.lt h.k pt e).1; omega), RowI.snoc (World.ownsRow.kept ho hgs (.inr fun e => by have := (World.ownsRow.lt ho pt e).1; omega)), ?_, h.ni, h.ns, bl_grow f5 hgs (by omega), h1, h2⟩
  intro j hj e
  rcases hb with hb | ⟨q, hq, hb⟩
  · rw [hb] at e; exact h.ap j hj e
  · rw [hb] at e; simp only [Option.some.injEq] at e; subst e; exact hq hj
theorem TbR.weak (h : TbR w wr pb pt b z v2 v3 vI vS kv pv W T K L) {w5 : World} {v5 : Value} {x : Int} (ho : w5.ownsRow (pt + 1) 3 1 v5 (K.length + 1) (K.map (Value.int .i64) ++ [.int .i64 x]))
    (hg : wr.grownBy w5 kv.ownBlock) (hb : v5.ownBlock = kv.ownBlock ∨ ∃ q, pv.ownBlock ≠ some q ∧ v5.ownBlock = some q) : TbR w (w5.setCell ⟨pt, 4, none⟩ v5) pb pt b z v2 v3 vI vS v5 pv W T (K ++ [x]) L := by
  have h1 := h.w0; have h2 := h.zr
  have hgs : w5.grownBy (w5.setCell ⟨pt, 4, none⟩ v5) (some pt) := grown_set (grown_refl _ _) 4 _
  obtain ⟨f1, f2, f3, f4, f5⟩ := h.far hg (fun j e => by have := (World.ownsRow.lt h.k j e).1; omega)
  refine ⟨f1.setOther (by simp; omega) v5, f2.set 4 v5, World.ownsRow.kept f3 hgs (.inr fun e => by have := h.ni pt e; omega), World.ownsRow.kept f4 hgs (.inr fun e => by have := h.ns pt e; omega), RowI.snoc (World.ownsRow.kept ho hgs (.inr fun e => by have := (World.ownsRow.lt ho pt e).1; omega)), World.ownsRow.kept (World.ownsRow.kept h.p hg (own_ne h.ap)) hgs (.inr fun e => by have := (World.ownsRow.lt h.p pt e).1; omega), ?_, h.ni, h.ns, bl_grow f5 hgs (by omega), h1, h2⟩
  intro j hj e
  rcases hb with hb | ⟨q, hq, hb⟩
  · exact h.ap j (by rw [← hb]; exact hj) e
  · rw [hb] at hj; simp only [Option.some.injEq] at hj; subst hj; exact hq e
theorem TbR.sorted (h : TbR w wr pb pt b z v2 v3 vI vS kv pv W T K L) {w5 : World} {L' : List Int} (ho : RowI w5 (pt + 1) pv L') (hg : wr.grownBy w5 pv.ownBlock) : TbR w w5 pb pt b z v2 v3 vI vS kv pv W T K L' := by
  obtain ⟨f1, f2, f3, f4, f5⟩ := h.far hg (fun j e => by have := (World.ownsRow.lt h.p j e).1; omega)
  exact ⟨f1, f2, f3, f4, World.ownsRow.kept h.k hg (own_ne (fun j hj e => h.ap j e hj)), ho, h.ap, h.ni, h.ns, f5, h.w0, h.zr⟩
end
theorem slice_ofI {w : World} {base : Nat} {v : Value} {l : List Int} (h : RowI w base v l) : ∃ ao cap, v = .slice ao l.length cap := owns_slice h
/-- the sort of the table's places -/
theorem tab_sort {w wr : World} {pb pt : Nat} {b z : Int} {ao : Option Addr} {n cap : Nat} {v3 vI vS kv : Value} {a1 : Option Addr} {N c1 : Nat} {W : List Int} {T : List ByteArray} {K : List Int}
    (h : TbR w wr pb pt b z (.slice ao n cap) v3 vI vS kv (.slice a1 N c1) W T K (plc N (fun i => (i : Int)))) (hW : Rs w ao n cap 1 W (fun x => [.int .i64 x])) (hbd : ∀ v ∈ W, 0 ≤ v ∧ v ≤ 4294967295) (hN : N ≤ n) (hn : n ≤ 1000000) :
    Calls Tryz.prog 125 #[.slice a1 N c1, .func (.func 126) #[] #[.pointer (some ⟨pb, 0, none⟩)]] wr fun e w' => (∃ r, e = .returned r) ∧ ∃ f, TbR w w' pb pt b z (.slice ao n cap) v3 vI vS kv (.slice a1 N c1) W T K (plc N f) ∧ Srt (wtOf W) f 0 N ∧ InB f 0 N := by
  have hp := h.p
  unfold RowI at hp
  rw [plc_len, plc_row] at hp
  have hp2 := hp
  obtain ⟨-, ⟨h1, h0⟩ | ⟨g, c2, cur, h1, -⟩⟩ := hp
  · injection h1 with h1 h2 h3
    subst h0 h1 h3
    refine (sortStable_nil wr _).mono ?_
    rintro e w' ⟨hr, rfl⟩
    exact ⟨hr, fun i => (i : Int), h, fun i j _ _ hj => by omega, fun i _ hi => by omega, fun v _ hv => by omega⟩
  · injection h1 with h1 h2 h3
    subst h1 h3
    obtain ⟨R, hR, hc, hg, hm⟩ := own_rw hp2
    have hgo : (Value.slice (some ⟨g, 0, none⟩) N c1).ownBlock = some g := rfl
    have hC : Cp pb g n (wtOf W) wr := by
      intro w2 hg2 x y D hx hx2 hy hy2 hD
      obtain ⟨f1, -, -, -, f5⟩ := h.far (ro := some g) hg2 (fun j e => by injection e with e; omega)
      exact less_any w2 pb b z ao n cap v3 W x y D f1 (hW.next f5) hbd hx hx2 hy hy2 hD
    refine (sortStable_any wr pb g N c1 n (wtOf W) hR hC hN (by omega)).mono ?_
    rintro e w' ⟨hr, f, hR2, hS, hI, hG⟩
    refine ⟨hr, f, h.sorted ?_ hG, hS, hI⟩
    unfold RowI
    rw [plc_len, plc_row]
    exact rw_own hR2 hc hg hm
end Go.Proofs.YtgkcnocfijckoaaGreat.Sg
namespace Go.Proofs.YtgkcnocfijckoaaGreat.Sg
open Go.RowKit
set_option linter.unusedVariables false
set_option linter.unusedSimpArgs false
theorem ret_bT {e : Ending} {P : Prop} {R : Bool} (h : RightR P e) (hR : R = true ↔ P) : e = .returned (.bool R) := by
  obtain ⟨r, rfl, hr⟩ := h
  have : r = R := Bool.eq_iff_iff.2 (hr.trans hR.symm)
  rw [this]
theorem tab_limbs {w w' : World} {p : Nat} {v0 v1 v2 v3 : Value} {t : TypeId} (h : Blk w' p [v0, v1, v2, v3] t) (hb : Below w.heap.size w w') :
    w'.cell? ⟨p, 0, none⟩ = some v0 ∧ w'.cell? ⟨p, 1, none⟩ = some v1 ∧ w'.cell? ⟨p, 2, none⟩ = some v2 ∧ w'.cell? ⟨p, 3, none⟩ = some v3 ∧ Below w.heap.size w w' ∧ Blk w' p [v0, v1, v2, v3] t :=
  ⟨h.cell (i := 0) rfl, h.cell (i := 1) rfl, h.cell (i := 2) rfl, h.cell (i := 3) rfl, hb, h⟩
set_option maxHeartbeats 4000000 in
theorem newTab_bad (w : World) (b z : Int) (ao : Option Addr) (n cap : Nat) (bo : Option Addr) (m cap2 : Nat) (W : List Int) (T : List ByteArray) (wb : (Lit.int .i64 b).wf = true) (wz : (Lit.int .i64 z).wf = true)
    (hW : Rs w ao n cap 1 W (fun x => [.int .i64 x])) (hT : Rs w bo m cap2 1 T (fun x => [.string x])) (hw : ∀ x ∈ W, (Lit.int .i64 x).wf = true) (ht : ∀ t ∈ T, t.size ≤ maxLen) (hn : n ≤ 1000000) (hm : m ≤ 1000000) (hno : ¬ sigOk b z W T) :
    Calls Tryz.prog 106 #[.agg #[.int .i64 b, .int .i64 z, .slice ao n cap, .slice bo m cap2]] w fun e w' => e = .returned (.tuple #[.pointer none, .int .i64 1]) ∧ Below w.heap.size w w' := by
  obtain ⟨V1, hV1⟩ : ∃ V, V = w.alloc (Obj.cells #[.int .i64 b, .int .i64 z, .slice ao n cap, .slice bo m cap2] 136) := ⟨_, rfl⟩
  obtain ⟨pb, hpb⟩ : ∃ p, p = w.heap.size := ⟨_, rfl⟩
  have hZ1 : Blk V1 pb [.int .i64 b, .int .i64 z, .slice ao n cap, .slice bo m cap2] 136 := by rw [hV1, hpb]; exact Blk.new _ _ _
  have hB1 : Below w.heap.size w V1 := by rw [hV1]; exact bel_alloc _ _
  have hHR : Calls Tryz.prog 122 #[.agg #[.int .i64 b, .int .i64 z, .slice ao n cap, .slice bo m cap2]] V1 fun e w' => e = .returned (.bool false) ∧ Below V1.heap.size V1 w' := (sgRight_any V1 b z ao n cap bo m cap2 W T wb wz (hW.next hB1) (hT.next hB1) hw ht (by omega) (by omega)).mono fun _ _ ⟨h1, h2⟩ => ⟨ret_bT h1 (by simp [hno]), h2⟩
  have HRI := Lib.hid hHR
  have c0 := hZ1.cell (i := 0) rfl
  have c1 := hZ1.cell (i := 1) rfl
  have c2 := hZ1.cell (i := 2) rfl
  have c3 := hZ1.cell (i := 3) rfl
  have HB1 := Lib.hid hB1
  have HV1 := Lib.hid hV1
  have HPB := Lib.hid hpb
  clear hZ1 hB1 hV1 hpb hHR hW hT hw ht wb wz
  go_enter Tryz.func106, Tryz.ntmps106
  go_upto_region 1 with fail
  rw [← HPB.out, ← HV1.out]
  go_wp2_with fail
  refine HRI.out.mono ?_
  rintro e w2 ⟨rfl, hb2⟩
  go_wp2
  go_ret2
  exact ⟨rfl, bl_nx HB1.out hb2⟩
/-- what NewTable answers -/
def NewTabR (w : World) (B Z : Nat) (N : Nat) (W : List Int) (T : List ByteArray) (e : Ending) (w' : World) : Prop :=
  ∃ pt vI vS kv pv f, e = .returned (.tuple #[.pointer (some ⟨pt, 0, none⟩), .int .i64 0]) ∧ Tab w.heap.size w' pt B Z vI vS kv pv W T (plc N f) ∧ Srt (wtOf W) f 0 N ∧ InB f 0 N ∧ Below w.heap.size w w'
set_option maxRecDepth 100000 in
set_option maxHeartbeats 8000000 in
theorem newTab_ok (w : World) (B Z : Nat) (ao : Option Addr) (n cap : Nat) (bo : Option Addr) (m cap2 : Nat) (W : List Int) (T : List ByteArray) (wb : (Lit.int .i64 B).wf = true) (wz : (Lit.int .i64 Z).wf = true)
    (hW : Rs w ao n cap 1 W (fun x => [.int .i64 x])) (hT : Rs w bo m cap2 1 T (fun x => [.string x])) (hw : ∀ x ∈ W, (Lit.int .i64 x).wf = true) (ht : ∀ t ∈ T, t.size ≤ maxLen) (hn : n ≤ 1000000) (hm : m ≤ 1000000) (hok : sigOk B Z W T) :
    Calls Tryz.prog 106 #[.agg #[.int .i64 B, .int .i64 Z, .slice ao n cap, .slice bo m cap2]] w (NewTabR w B Z (Z / B) W T) := by
  obtain ⟨i0, hi, hz0, hz1, hz2⟩ := info_parts infoIntS
  obtain ⟨V1, hV1⟩ : ∃ V, V = w.alloc (Obj.cells #[.int .i64 B, .int .i64 Z, .slice ao n cap, .slice bo m cap2] 136) := ⟨_, rfl⟩
  obtain ⟨pb, hpb⟩ : ∃ p, p = w.heap.size := ⟨_, rfl⟩
  have hZ1 : Blk V1 pb [.int .i64 B, .int .i64 Z, .slice ao n cap, .slice bo m cap2] 136 := by rw [hV1, hpb]; exact Blk.new _ _ _
  have hB1 : Below w.heap.size w V1 := by rw [hV1]; exact bel_alloc _ _
  have hHR : Calls Tryz.prog 122 #[.agg #[.int .i64 B, .int .i64 Z, .slice ao n cap, .slice bo m cap2]] V1 fun e w' => e = .returned (.bool true) ∧ Below V1.heap.size V1 w' := (sgRight_any V1 B Z ao n cap bo m cap2 W T wb wz (hW.next hB1) (hT.next hB1) hw ht (by omega) (by omega)).mono fun _ _ ⟨h1, h2⟩ => ⟨ret_bT h1 (by simp [hok]), h2⟩
  have HRI := Lib.hid hHR
  obtain ⟨k1, k2, k3, k4, k5, k6, k7⟩ := hok
  have lW := hW.2.2.1
  have lT := hT.2.2.1
  obtain ⟨N, hN⟩ : ∃ N : Nat, Z / B = N := ⟨_, rfl⟩
  have hNi : (Z : Int) / (B : Int) = (N : Int) := by rw [← hN]; rfl
  have hNn : N ≤ n := by
    rw [← lW, k5, ← hN]
    simp only [Int.toNat_natCast]
    unfold cnt
    exact Nat.div_le_div_right (by omega)
  have hbd : ∀ v ∈ W, 0 ≤ v ∧ v ≤ 4294967295 := by
    intro v hv
    obtain ⟨i, hi, e⟩ := List.getElem_of_mem hv
    have := k7 i hi v (T[i]'(by omega)) (by rw [List.getElem?_eq_getElem hi, e]) (List.getElem?_eq_getElem _)
    exact ⟨this.1, this.2.1⟩
  have hTn : T.length = n := by rw [k6, lW]
  have hZb : Z ≤ 524288 := by omega
  have hBb : 16 ≤ B := by omega
  have hBc : B ≤ 1024 := by omega
  have c0 := hZ1.cell (i := 0) rfl
  have c1 := hZ1.cell (i := 1) rfl
  have c2 := hZ1.cell (i := 2) rfl
  have c3 := hZ1.cell (i := 3) rfl
  have HZ1 := Lib.hid hZ1
  have HB1 := Lib.hid hB1
  have HV1 := Lib.hid hV1
  have HPB := Lib.hid hpb
  have HW := Lib.hid hW
  have HT := Lib.hid hT
  have HBD := Lib.hid hbd
  have HLW := Lib.hid lW
  have HLT := Lib.hid hTn
  have HN := Lib.hid hN
  have Hm := Lib.hid lT
  rw [hN]
  clear hZ1 hB1 hV1 hpb hHR hW hT hw ht wb wz k1 k2 k3 k4 k5 k6 k7 lW lT hbd hTn hN
  go_enter Tryz.func106, Tryz.ntmps106
  go_upto_region 1 with fail
  rw [← HPB.out, ← HV1.out]
  go_wp2_with fail
  refine HRI.out.mono ?_
  rintro e w2 ⟨rfl, hb2⟩
  have hG2 := HZ1.out.belowB hb2
  have c0 := hG2.cell (i := 0) rfl
  have c1 := hG2.cell (i := 1) rfl
  have c2 := hG2.cell (i := 2) rfl
  have c3 := hG2.cell (i := 3) rfl
  have HG2 := Lib.hid (And.intro hG2 (bl_nx HB1.out hb2))
  clear hG2 hb2
  go_wp2_with fail
  go_region_held3 (fun w' => w'.cell? ⟨pb, 0, none⟩ = some (.int .i64 B) ∧ w'.cell? ⟨pb, 1, none⟩ = some (.int .i64 Z) ∧ w'.cell? ⟨pb, 2, none⟩ = some (.slice ao n cap) ∧ w'.cell? ⟨pb, 3, none⟩ = some (.slice bo m cap2) ∧ Below w.heap.size w w' ∧ Blk w' pb [.int .i64 B, .int .i64 Z, .slice ao n cap, .slice bo m cap2] 136)
    (first | exact HH | exact tab_limbs (HH.2.2.2.2.2.alloc _) (bl_alloc' HH.2.2.2.2.1 _) | exact tab_limbs HG2.out.1.drew (bl_drew HG2.out.2))
    (first
      | (go_at_call 123; obtain ⟨_, _, _, _, hbe, hge⟩ := ‹World.cell? _ _ = _ ∧ World.cell? _ _ = _ ∧ World.cell? _ _ = _ ∧ World.cell? _ _ = _ ∧ Below _ _ _ ∧ Blk _ _ _ _›; refine (cloneI_any _ ao n cap W (HW.out.next hbe) hn).mono ?_; rintro e w6 ⟨vI, rfl, hoI, hb6⟩; obtain ⟨aI, kI, rfl⟩ := owns_slice hoI; have HH := tab_limbs (hge.belowB hb6) (bl_nx hbe hb6); (try (replace hoS := owns_next hoS hb6)); have hlI := And.intro hge.lt hb6.size; clear hbe hge hb6)
      | (go_at_call 124; obtain ⟨_, _, _, _, hbe, hge⟩ := ‹World.cell? _ _ = _ ∧ World.cell? _ _ = _ ∧ World.cell? _ _ = _ ∧ World.cell? _ _ = _ ∧ Below _ _ _ ∧ Blk _ _ _ _›; refine (cloneS_any _ bo m cap2 T (HT.out.next hbe) hm).mono ?_; rintro e w7 ⟨vS, rfl, hoS, hb7⟩; obtain ⟨aS, kS, rfl⟩ := owns_slice hoS; have HH := tab_limbs (hge.belowB hb7) (bl_nx hbe hb7); (try (replace hoI := owns_next hoI hb7)); have hlS := And.intro hge.lt hb7.size; clear hbe hge hb7))
  obtain ⟨V, hV⟩ : ∃ V, V = w7.alloc (Obj.cells #[.int .i64 B, .int .i64 Z, .slice aI n kI, .slice aS m kS, .slice none 0 0, .slice none 0 0] 181) := ⟨_, rfl⟩
  obtain ⟨pt, hpt⟩ : ∃ p, p = w7.heap.size := ⟨_, rfl⟩
  have hs2 : w.heap.size ≤ w2.drew.heap.size := HG2.out.2.size
  have hR0 : TbR w V pb pt B Z (.slice ao n cap) (.slice bo m cap2) (.slice aI n kI) (.slice aS m kS) (.slice none 0 0) (.slice none 0 0) W T [] (plc 0 (fun i => (i : Int))) := by
    rw [hV, hpt]
    refine ⟨HH.2.2.2.2.2.alloc _, Blk.new w7 _ _, ?_, ?_, World.ownsRow_nil _ _ _ _, World.ownsRow_nil _ _ _ _, fun j hj => by simp [Value.ownBlock] at hj, fun j e => ?_, fun j e => ?_, bl_alloc HH.2.2.2.2.1 _, ?_, ?_⟩
    · unfold RowI; rw [HLW.out]; exact World.ownsRow.alloc (owns_mono hoI hs2) _
    · unfold RowS; rw [Hm.out]; exact World.ownsRow.alloc (owns_mono hoS (by omega)) _
    · have := World.ownsRow.lt hoI j e; omega
    · have := World.ownsRow.lt hoS j e; omega
    · have := HPB.out; omega
    · omega
  have HR0 := Lib.hid hR0
  rw [← hpt, ← hV]
  have q0 := hR0.g.cell (i := 0) rfl
  have q1 := hR0.g.cell (i := 1) rfl
  clear hR0 hV hpt hoI hoS HH hlI hlS hs2 c0 c1 c2 c3
  go_wp2_with fail
  go_loopw [5, 29, 31] (fun _ i _ wr => ∃ (k : Nat) (a1 : Option Addr) (c1 : Nat), i = .int .i64 k ∧ k ≤ N ∧ TbR w wr pb pt B Z (.slice ao n cap) (.slice bo m cap2) (.slice aI n kI) (.slice aS m kS) (.slice none 0 0) (.slice a1 k c1) W T [] (plc k (fun i => (i : Int)))) (fun _ i _ _ => N - (intOf i).toNat)
  case atStart => exact ⟨0, none, 0, rfl, by omega, HR0.out⟩
  case round =>
    clear HR0 q0 q1
    obtain ⟨k, a1, c1, rfl, hk, hR⟩ := hrel
    have HR := Lib.hid hR
    have c5 := hR.t.cell (i := 5) rfl
    have hpl := hR.t.lt
    have hIa : Hid (wr.ownsRow (pt + 1) 3 1 (.slice a1 k c1) k ((plc k (fun i => (i : Int))).map (Value.int .i64))) := Lib.hid (by have := hR.p; unfold RowI at this; rw [plc_len] at this; exact this)
    clear hR
    by_cases hlt : (k : Int) < (N : Int)
    · go_wp2_with (at_builtin; refine wpList_append_own_at _ rfl _ _ 49 rfl (pt + 1) 3 i0 (.int .i64 0) 1 8 Tryz.underlying49 hi hz0 hz1 hz2 rfl (by decide) _ k ((plc k (fun i => (i : Int))).map (Value.int .i64)) rfl (World.ownsRow.alloc hIa.out _) ⟨wr.heap.size, 0, none⟩ 1 1 [.int .i64 k] rfl rfl (cell1_new _ _ _) (one1 _ rfl) (by unfold maxLen; omega) (by omega) (by simp; omega) ?_)
      intro v5 w5 hO5 hg5 _ hrb
      obtain ⟨ao5, cap5, rfl⟩ := slice_of5 hO5
      have hR5 := (HR.out.alloc (.cells #[.int .i64 k] 3)).place (x := k) (by rw [plc_len]; exact hO5) hg5 (hrb.imp id (fun e => ⟨_, (fun h => by simp [Value.ownBlock] at h), e⟩))
      rw [← plc_succ k (fun i => (i : Int))] at hR5
      have hG5 := (HR.out.alloc (.cells #[.int .i64 k] 3)).t.grown hg5 (fun e => by have := (World.ownsRow.lt hIa.out pt e.symm).1; omega)
      have c55 := hG5.cell (i := 5) rfl
      have f55 := hG5.frozen 5
      have HR5 := Lib.hid hR5
      clear hR5 hG5 hO5 hg5 hrb c5 hIa HR
      go_wp2
      go_roundw
      case rel => exact ⟨k + 1, _, _, by go_num, by omega, HR5.out⟩
      case measure => simp [intOf]; omega
    · have hkN : k = N := by omega
      subst hkN
      go_wp2_with fail
      refine (tab_sort HR.out HW.out HBD.out hNn hn).mono ?_
      rintro e w8 ⟨⟨r, rfl⟩, f, hR8, hS8, hI8⟩
      have HR8 := Lib.hid hR8
      have HS8 := Lib.hid (And.intro hS8 hI8)
      have c5 := hR8.t.cell (i := 5) rfl
      clear hR8 hS8 hI8 HR hIa hpl
      go_wp2_with fail
      go_loopw [7, 54, 55] (fun _ i _ wr => ∃ (j : Nat) (a2 : Option Addr) (k2 : Nat), i = .int .i64 j ∧ j ≤ k ∧ TbR w wr pb pt B Z (.slice ao n cap) (.slice bo m cap2) (.slice aI n kI) (.slice aS m kS) (.slice a2 j k2) (.slice a1 k c1) W T ((plc j f).map (wtOf W)) (plc k f)) (fun _ i _ _ => k - (intOf i).toNat)
      case atStart => exact ⟨0, none, 0, rfl, by omega, HR8.out⟩
      case round =>
        clear HR8 c5
        obtain ⟨j, a2, k2, rfl, hj, hR⟩ := hrel
        by_cases hlt2 : (j : Int) < (k : Int)
        · have hRp := hR.p.rs (plc_len _ _)
          obtain ⟨bp, op, x, rfl, hx, cx⟩ := hRp.one (k := j) (by omega)
          rw [plc_get f (by omega)] at hx
          injection hx with hx
          have hfj := HS8.out.2.1 j (by omega) (by omega)
          obtain ⟨X, hX⟩ : ∃ X : Nat, f j = X := ⟨(f j).toNat, by omega⟩
          rw [hX] at hfj
          have hXn : (X : Int) < (n : Int) := by omega
          rw [← hx, hX] at cx
          obtain ⟨bw, ow, y, rfl, hy, cy⟩ := (HW.out.next hR.bl).one (k := X) (by omega)
          have hwy : wtOf W (f j) = y := by rw [hX]; simp only [wtOf, Int.toNat_natCast]; rw [List.getD_eq_getElem?_getD, hy]; rfl
          have HWY := Lib.hid hwy
          have HX := Lib.hid hX
          have q4 := hR.t.cell (i := 4) rfl
          have a4 : (wr.drew.alloc (Obj.cells #[.int .i64 y] 3)).cell? ⟨pt, 4, none⟩ = some (.slice a2 j k2) := (hR.drew.t.alloc _).cell (i := 4) rfl
          have a4' : (wr.alloc (Obj.cells #[.int .i64 y] 3)).cell? ⟨pt, 4, none⟩ = some (.slice a2 j k2) := (hR.t.alloc _).cell (i := 4) rfl
          have q2 := hR.g.cell (i := 2) rfl
          have hpl := hR.t.lt
          have hIa : Hid (wr.ownsRow (pt + 1) 3 1 (.slice a2 j k2) j (((plc j f).map (wtOf W)).map (Value.int .i64))) := Lib.hid (by have := hR.k; unfold RowI at this; rw [List.length_map, plc_len] at this; exact this)
          have HR := Lib.hid hR
          clear hR hx hfj hX hy hwy hRp
          go_wp2_with fail
          go_region_law (first
            | (refine step_append_at rfl (.tmp 62) (.tmp 68) 49 rfl (pt + 1) 3 i0 (.int .i64 0) 1 8 Tryz.underlying49 hi hz0 hz1 hz2 rfl (by decide) (.slice a2 j k2) j (((plc j f).map (wtOf W)).map (Value.int .i64)) (by simp [Act.eval]) (World.ownsRow.alloc (w := wr.drew) hIa.out _) ⟨wr.heap.size, 0, none⟩ 1 1 [.int .i64 y] (by simp [Act.eval]) rfl (sg_new wr.drew _ _) (by intro u hu; simp only [List.mem_singleton] at hu; subst hu; rfl) (by unfold maxLen; omega) (by omega) (by simp; omega) ?_; intro v' w5 hO5 hg5 hrb; obtain ⟨ao5, cap5, rfl⟩ := slice_of5 hO5; have hG5 := (HR.out.drew.alloc _).t.grown hg5 (fun e => by have := (World.ownsRow.lt hIa.out pt e.symm).1; omega); have c5 := hG5.cell (i := 4) rfl; have f5 := hG5.frozen 4))
          all_goals (
            have hR6 := (HR.out.drew.alloc (.cells #[.int .i64 y] 3)).weak (x := y) (by rw [List.length_map, plc_len]; exact hO5) hg5 (hrb.imp id (fun e => ⟨_, fresh_ne (HR.out.drew.alloc _).p, e⟩))
            have hke : (plc j f).map (wtOf W) ++ [y] = (plc (j + 1) f).map (wtOf W) := by rw [plc_succ, List.map_append, ← HWY.out]; rfl
            rw [hke] at hR6
            obtain ⟨w6, hw6⟩ : ∃ W, W = w5.setCell ⟨pt, 4, none⟩ (.slice ao5 (j + 1) cap5) := ⟨_, rfl⟩
            rw [← hw6] at hR6
            rw [← hw6]
            have HR6 := Lib.hid hR6
            clear hw6 hG5 c5 f5 hO5 hg5 hrb a4 a4' q4 q2 cx cy hIa HR w5 hR6 hke
            go_wp2
            go_roundw
            case rel => exact ⟨j + 1, _, _, by go_num, by omega, HR6.out⟩
            case measure => simp [intOf]; omega)
        · have hjk : j = k := by omega
          subst hjk
          have HR := Lib.hid hR
          clear hR
          go_wp2
          go_ret2
          exact ⟨pt, _, _, _, _, f, rfl, ⟨HR.out.t, HR.out.i, HR.out.s, owns_mono HR.out.k (by have := HR.out.w0; have := HR.out.zr; omega), owns_mono HR.out.p (by have := HR.out.w0; have := HR.out.zr; omega), by have := HR.out.w0; have := HR.out.zr; omega⟩, HS8.out.1, HS8.out.2, HR.out.bl⟩
end Go.Proofs.YtgkcnocfijckoaaGreat.Sg
