/- Chapter 7's few and row. Conditions: as named in each theorem. -/
import Derived.Test.YtabdmcgfiabaoaaQF
import Derived.Test.YtabdmcgfiabaoaaDlMade
import Derived.Test.YtabdmcgfiabaoaaDlOf
import Derived.Deep.RegionHeld3
namespace Go.Proofs.Ytabdmcgfiabaoaa
open Go.RowKit Sg
set_option linter.unusedVariables false
set_option linter.unusedSimpArgs false
def cut1000 (s : ByteArray) : ByteArray := if 1000 < s.size then s.extract 0 1000 else s
theorem cut1000_size (s : ByteArray) : (cut1000 s).size ≤ 1000 := by
  unfold cut1000; split
  · rw [ByteArray.size_extract]; omega
  · omega
def fewL (l : List ByteArray) : List ByteArray := (l.take 6).map cut1000
theorem fewL_len (l : List ByteArray) : (fewL l).length ≤ 6 := by unfold fewL; rw [List.length_map, List.length_take]; omega
theorem fewL_size (l : List ByteArray) : ∀ x ∈ fewL l, x.size ≤ 1000 := by
  intro x hx
  unfold fewL at hx
  obtain ⟨y, _, rfl⟩ := List.mem_map.1 hx
  exact cut1000_size y
theorem few_succ {l : List ByteArray} {k : Nat} {x : ByteArray} (h : l[k]? = some x) : (l.take (k + 1)).map cut1000 = (l.take k).map cut1000 ++ [cut1000 x] := by
  rw [List.take_add_one, h, List.map_append]; rfl
set_option maxRecDepth 100000 in
set_option maxHeartbeats 1000000 in
theorem few_any (w : World) (ao : Option Addr) (n cap : Nat) (ss : List ByteArray) (hR : Rs w ao n cap 1 ss (fun x => [.string x])) (hss : ∀ x ∈ ss, x.size ≤ maxLen) :
    Calls Try.prog 22 #[.slice ao n cap] w fun e w' => ∃ v, e = .returned v ∧ RowS w' w.heap.size v (fewL ss) ∧ Below w.heap.size w w' := by
  obtain ⟨i1, hj, hy0, hy1, hy2⟩ := info_parts infoStrS
  have HLEN := Lib.hid hR.2.2.1
  have hnm : n ≤ maxLen := Nat.le_trans hR.1 hR.2.1
  have HSS := Lib.hid hss
  clear hss
  go_enter Try.func22, Try.ntmps22
  go_wp2_with fail
  go_loopw [3, 4] (fun v i wr => ∃ k : Nat, k ≤ n ∧ k ≤ 6 ∧ i = .int .i64 k ∧ RowS wr w.heap.size v ((ss.take k).map cut1000) ∧ Below w.heap.size w wr) (fun _ i _ => n - (intOf i).toNat)
  case atStart => exact ⟨0, by omega, by omega, rfl, World.ownsRow_nil _ _ _ _, Below.refl _ _⟩
  case round =>
    obtain ⟨k, hk, hk6, rfl, hO, hB⟩ := hrel
    have hS := hB.size
    by_cases hlt : k < n
    case neg =>
      have HF : Hid ((ss.take k).map cut1000 = fewL ss) := Lib.hid (by
        unfold fewL
        rw [List.take_of_length_le (by rw [HLEN.out]; omega), List.take_of_length_le (by rw [HLEN.out]; omega)])
      have i0 : ¬ (k : Int) < (n : Int) := by omega
      rw [HF.out] at hO
      clear HF
      go_wp2
      go_ret
      exact ⟨_, rfl, hO, hB⟩
    case pos =>
      by_cases h6 : k < 6
      case neg =>
        obtain rfl : k = 6 := by omega
        have i0 : (6 : Int) < (n : Int) := by omega
        go_wp2
        go_ret
        exact ⟨_, rfl, hO, hB⟩
      case pos =>
        obtain ⟨x, hx⟩ : ∃ x, ss[k]? = some x := ⟨_, List.getElem?_eq_getElem (by rw [HLEN.out]; exact hlt)⟩
        obtain ⟨g, off, rfl, hbw, hc⟩ := hR.cell1 (by omega)
        have c1 : wr.cell? ⟨g, off + k, none⟩ = some (.string x) := (hB.cell (p := ⟨g, off + k, none⟩) hbw).trans (hc k (by rw [HLEN.out]; exact hlt) _ (by rw [(List.getElem?_eq_some_iff.1 hx).2]))
        have hxs := HSS.out x (List.mem_of_getElem? hx)
        unfold maxLen at hxs
        have HSU := Lib.hid (few_succ hx)
        have hll : ((ss.take k).map cut1000).length = k := by rw [List.length_map, List.length_take, HLEN.out]; omega
        obtain ⟨L, hL⟩ : ∃ L, L = (ss.take k).map cut1000 := ⟨_, rfl⟩
        rw [← hL] at hO hll HSU
        have HLL := Lib.hid hll
        obtain ⟨ao, kw, rfl⟩ := slice_of hO
        have hO2 : wr.ownsRow w.heap.size 9 1 (.slice ao L.length kw) L.length (L.map Value.string) := hO
        have i0 : (k : Int) < (n : Int) := by omega
        have i6 : (k : Int) < 6 := by omega
        clear hO hL hll hx hR hc
        by_cases hbig : 1000 < x.size
        case' pos =>
          have hcx : cut1000 x = x.extract 0 1000 := by unfold cut1000; rw [if_pos hbig]
          rw [hcx] at HSU
          go_wp2_with (at_builtin; refine wpList_append_own _ rfl _ _ 40 rfl w.heap.size 9 i1 (.string ByteArray.empty) 1 16 Try.underlying40 hj hy0 hy1 hy2 rfl (by decide) _ _ _ rfl (hO2.alloc _) ⟨wr.heap.size, 0, none⟩ 1 1 [.string (x.extract 0 1000)] rfl rfl (cell1_new _ _ _) (one1 _ rfl) (by unfold maxLen; have := HLL.out; omega) (by have := HLL.out; omega) (by simp; omega) ?_)
        case' neg =>
          have hcx : cut1000 x = x := by unfold cut1000; rw [if_neg hbig]
          rw [hcx] at HSU
          go_wp2_with (at_builtin; refine wpList_append_own _ rfl _ _ 40 rfl w.heap.size 9 i1 (.string ByteArray.empty) 1 16 Try.underlying40 hj hy0 hy1 hy2 rfl (by decide) _ _ _ rfl (hO2.alloc _) ⟨wr.heap.size, 0, none⟩ 1 1 [.string x] rfl rfl (cell1_new _ _ _) (one1 _ rfl) (by unfold maxLen; have := HLL.out; omega) (by have := HLL.out; omega) (by simp; omega) ?_)
        all_goals
          intro v' w3 hO3 hg3 _
          have hO4 : RowS w3 w.heap.size v' ((ss.take (k + 1)).map cut1000) := by rw [HSU.out]; exact RowS.snoc hO3
          have hB4 : Below w.heap.size w w3 := (hB.alloc (by omega) _).grown hg3 (by simp; omega) (fun j hj => by have := World.ownsRow.lt hO2 j hj; omega)
          clear hO3 hg3 hO2 hB
          go_wp2
          go_roundw
          case rel => exact ⟨k + 1, by omega, by omega, by go_num, hO4, hB4⟩
          case measure => simp [intOf]; omega
/-- delta number i of a row of texts -/
def dAt (S : Bk) (ts : List ByteArray) (B i : Nat) : Dl := ⟨numS (S.idxOf (bytesOf (ts.getD i ByteArray.empty)) + 1), numS (S.idxOf (bytesOf (ts.getD (i + 1) ByteArray.empty)) + 1), ((ts.getD (i + 1) ByteArray.empty).size : Nat), stepsI (ts.getD i ByteArray.empty) (ts.getD (i + 1) ByteArray.empty) B⟩
theorem dAt_ext {S S' : Bk} {ts : List ByteArray} {i : Nat} (B : Nat) (h : Ext S S') (h1 : bytesOf (ts.getD i ByteArray.empty) ∈ S) (h2 : bytesOf (ts.getD (i + 1) ByteArray.empty) ∈ S) : dAt S' ts B i = dAt S ts B i := by
  unfold dAt; rw [h.idx h1, h.idx h2]
/-- a row of deltas that the walk owns -/
def RowD (w : World) (base : Nat) (v : Value) (l : List DV) : Prop := w.ownsRow base 25 4 v l.length (l.flatMap DV.c) ∧ ∀ x ∈ l, Own w base (.slice x.ao x.len x.cap) x.d.steps ∧ x.len = x.d.steps.length ∧ x.d.ok
theorem own_kept {w W : World} {base m : Nat} {v : Value} {l : List St} (h : Own w base v l) (hm : m < base) (hk : Kept (fun k => some m = some k) w W) : Own W base v l :=
  owns_block h (fun k e => by
    have := World.ownsRow.lt h k e
    exact hk.block k this.2 (fun e2 => by injection e2 with e2; omega))
theorem RowD.kept {w W : World} {base m : Nat} {v : Value} {l : List DV} (h : RowD w base v l) (hm : m < base) (hk : Kept (fun k => some m = some k) w W) : RowD W base v l :=
  ⟨owns_block h.1 (fun k e => by
    have := World.ownsRow.lt h.1 k e
    exact hk.block k this.2 (fun e2 => by injection e2 with e2; omega)), fun x hx => ⟨own_kept (h.2 x hx).1 hm hk, (h.2 x hx).2⟩⟩
theorem dv_one (x : DV) : ∀ u ∈ x.c, u.oneCell' = true := by
  intro u hu
  simp only [DV.c, List.mem_cons, List.not_mem_nil, or_false] at hu
  rcases hu with rfl | rfl | rfl | rfl <;> rfl
theorem infoDl : (Try.prog.info? 25).map (fun i => (i.zero, i.size, i.bytes)) = some (some (.agg #[.string ByteArray.empty, .string ByteArray.empty, .int .i64 0, .slice none 0 0]), 4, 64) := by kernel_rfl
theorem RowD.good {w : World} {base : Nat} {v : Value} {l : List DV} (h : RowD w base v l) : ∀ x ∈ l, x.good w := fun x hx => by
  obtain ⟨h1, h2, h3⟩ := h.2 x hx
  have h4 := h1
  rw [h2] at h4
  exact ⟨by rw [h2]; exact Own.rs rfl h4, h3⟩
theorem RowD.rs {w : World} {base n cap : Nat} {ao : Option Addr} {l : List DV} (h : RowD w base (.slice ao n cap) l) (hn : l.length = n) : Rs w ao n cap 4 l DV.c := by
  subst hn; exact Rs.of_owns dv_len rfl h.1
def RowQ (w wr : World) (p m : Nat) (S0 : Bk) (ts : List ByteArray) (B : Nat) (v : Value) (k : Nat) : Prop :=
  ∃ (l : List DV) (S : Bk), l.length = k ∧ dls l = (List.range k).map (dAt S ts B) ∧ RowD wr w.heap.size v l ∧ BookI wr p m S ∧ Ext S0 S ∧ S.length ≤ S0.length + 3000000 * k ∧
    (∀ j, j < k → bytesOf (ts.getD j ByteArray.empty) ∈ S ∧ bytesOf (ts.getD (j + 1) ByteArray.empty) ∈ S) ∧ Kept (fun k => some m = some k) w wr
theorem RowQ.start {w : World} {p m : Nat} {S0 : Bk} (ts : List ByteArray) (B : Nat) (h : BookI w p m S0) : RowQ w w p m S0 ts B (.slice none 0 0) 0 :=
  ⟨[], S0, rfl, rfl, ⟨World.ownsRow_nil _ _ _ _, by intro x hx; cases hx⟩, h, Ext.refl _, by omega, fun j hj => by omega, Kept.refl _ _⟩
theorem dAt_ok (S : Bk) (ts : List ByteArray) (B i : Nat) (hB : 0 < B) (hs : ∀ x ∈ ts, x.size ≤ 1000) : (dAt S ts B i).ok := by
  have hz : ∀ i, (ts.getD i ByteArray.empty).size ≤ 1000 := fun i => by
    rw [List.getD_eq_getElem?_getD]
    cases h : ts[i]? with
    | none => exact Nat.zero_le _
    | some x => exact hs x (List.mem_of_getElem? h)
  have h1 := hz i
  have h2 := hz (i + 1)
  obtain ⟨p1, p2, p3, p4, p5⟩ := stepsI_right (ts.getD i ByteArray.empty) (ts.getD (i + 1) ByteArray.empty) B 1 1 hB (by omega) (by omega)
  exact ⟨wfI _ (by unfold dAt; simp only; omega) (by unfold dAt; simp only; omega), by unfold dAt maxLen; simp only; rw [numS_size]; omega, by unfold dAt maxLen; simp only; rw [numS_size]; omega, p5⟩
theorem rows_apart {w : World} {b1 b2 s1 s2 n1 n2 : Nat} {e1 e2 : TypeId} {v1 v2 : Value} {x1 x2 : List Value} (h1 : w.ownsRow b1 e1 s1 v1 n1 x1) (h2 : w.ownsRow b2 e2 s2 v2 n2 x2) (he : e1 ≠ e2) : v1.ownBlock = none ∨ v1.ownBlock ≠ v2.ownBlock := by
  rcases h1.2 with ⟨h, _⟩ | ⟨g, cap, cur, h, _, hh, _⟩
  · left; rw [h]; rfl
  · right
    rcases h2.2 with ⟨k, _⟩ | ⟨g2, cap2, cur2, k, _, kk, _⟩
    · rw [h, k]; intro e; cases e
    · rw [h, k]
      intro e
      simp only [Value.ownBlock, Option.some.injEq] at e
      subst e
      rw [hh] at kk
      injection kk with kk
      injection kk with _ k2
      exact he k2
def OfQ (p m : Nat) (S : Bk) (t1 t2 : ByteArray) (z : Int) (L : List St) (W : World) (e : Ending) (w' : World) : Prop :=
  ∃ a n k M1 M2 S', e = .returned (.tuple #[.agg #[.string M1, .string M2, .int .i64 z, .slice a n k], .int .i64 0]) ∧ Hid (M1 = numS (S'.idxOf (bytesOf t1) + 1) ∧ M2 = numS (S'.idxOf (bytesOf t2) + 1) ∧ n = L.length ∧ Own w' W.heap.size (.slice a n k) L ∧ BookI w' p m S' ∧ bytesOf t1 ∈ S' ∧ bytesOf t2 ∈ S' ∧ Ext S S' ∧ S'.length ≤ S.length + 3000000) ∧ Kept (fun k => some m = some k) W w'
theorem of_q (W : World) (p m : Nat) (S : Bk) (t1 t2 : ByteArray) (B : Nat) (hI : BookI W p m S) (hS : S.length ≤ 90000000) (hB1 : 16 ≤ B) (hB2 : B ≤ 1024) (h1 : t1.size ≤ 524288) (h2 : t2.size ≤ 524288) :
    Calls Try.prog 28 #[.pointer (some ⟨p, 0, none⟩), .string t1, .string t2, .int .i64 B] W (OfQ p m S t1 t2 t2.size (stepsI t1 t2 B) W) := by
  refine (of_ideal W p m S t1 t2 B hI hS hB1 hB2 h1 h2).mono ?_
  rintro e w' ⟨sv, S', rfl, hO, hI', m1, m2, hE, hl, hk⟩
  obtain ⟨a, k, rfl⟩ := owns_slice hO
  exact ⟨a, _, k, _, _, S', rfl, Lib.hid ⟨rfl, rfl, rfl, hO, hI', m1, m2, hE, hl⟩, hk⟩
theorem blk_kept {T : Nat → Prop} {w w' : World} {q : Nat} {cs : List Value} {t : TypeId} (h : Blk w q cs t) (hk : Kept T w w') (hq : ¬ T q) : Blk w' q cs t := by
  have := h.lt
  unfold Blk at h ⊢
  rw [hk.block q this hq]; exact h
theorem kept_set_new {T : Nat → Prop} {w w' : World} (h : Kept T w w') {q : Nat} (hq : w.heap.size ≤ q) (i : Nat) (v : Value) : Kept T w (w'.setCell ⟨q, i, none⟩ v) := by
  refine ⟨h.os, h.tape, h.output, by simpa using h.size, fun k hk hn => ?_⟩
  rw [Below.heap_setCell _ _ _ _ (by intro e; exact absurd hk (by simp only at e; omega))]
  exact h.block k hk hn
theorem kept_set4 {T : Nat → Prop} {w w' : World} (h : Kept T w w') {q : Nat} (hq : w.heap.size ≤ q) (v0 v1 v2 v3 : Value) : Kept T w ((((w'.setCell ⟨q, 0, none⟩ v0).setCell ⟨q, 1, none⟩ v1).setCell ⟨q, 2, none⟩ v2).setCell ⟨q, 3, none⟩ v3) :=
  kept_set_new (kept_set_new (kept_set_new (kept_set_new h hq _ _) hq _ _) hq _ _) hq _ _
theorem grown_set4 (w : World) (q : Nat) (v0 v1 v2 v3 : Value) : w.grownBy ((((w.setCell ⟨q, 0, none⟩ v0).setCell ⟨q, 1, none⟩ v1).setCell ⟨q, 2, none⟩ v2).setCell ⟨q, 3, none⟩ v3) (some q) :=
  grown_set (grown_set (grown_set (grown_set (grown_refl w (some q)) _ _) _ _) _ _) _ _
theorem RowD.snoc {wx wy : World} {base : Nat} {v v' : Value} {l : List DV} {x : DV} {o : Obj} (h : RowD wx base v l) (hx : Own wx base (.slice x.ao x.len x.cap) x.d.steps) (hxl : x.len = x.d.steps.length) (hxo : x.d.ok)
    (hO : wy.ownsRow base 25 4 v' (l.length + 1) (l.flatMap DV.c ++ x.c)) (hg : (wx.alloc o).grownBy wy v.ownBlock) : RowD wy base v' (l ++ [x]) := by
  have key : ∀ y : DV, Own wx base (.slice y.ao y.len y.cap) y.d.steps → Own wy base (.slice y.ao y.len y.cap) y.d.steps := fun y hy =>
    World.ownsRow.kept (World.ownsRow.alloc hy o) hg (rows_apart (World.ownsRow.alloc hy o) (World.ownsRow.alloc h.1 o) (by decide))
  refine ⟨by simpa using hO, fun y hy => ?_⟩
  rcases List.mem_append.1 hy with hy | hy
  · exact ⟨key y (h.2 y hy).1, (h.2 y hy).2⟩
  · obtain rfl := List.mem_singleton.1 hy
    exact ⟨key _ hx, hxl, hxo⟩
theorem RowD.below {wx wy : World} {base : Nat} {v : Value} {l : List DV} (h : RowD wx base v l) (hb : Below wx.heap.size wx wy) : RowD wy base v l :=
  ⟨World.ownsRow.kept h.1 (below_grown hb none) (by cases v.ownBlock <;> simp), fun x hx => ⟨(h.2 x hx).1.below hb, (h.2 x hx).2⟩⟩
theorem RowQ.snoc {w Y w6 : World} {p m k : Nat} {S0 S S' : Bk} {ts : List ByteArray} {B : Nat} {v v' : Value} {l : List DV} {M1 M2 : ByteArray} {z : Int} {L : List St} {a5 : Option Addr} {n5 k5 : Nat} {o : Obj}
    (hmz : m < w.heap.size) (hpz : p < w.heap.size) (hl : l.length = k) (hdl : dls l = (List.range k).map (dAt S ts B)) (hD : RowD Y w.heap.size v l) (hIY : BookI Y p m S') (hE0 : Ext S0 S) (hE : Ext S S') (hlen : S.length ≤ S0.length + 3000000 * k) (hlen' : S'.length ≤ S.length + 3000000)
    (hmem : ∀ j, j < k → bytesOf (ts.getD j ByteArray.empty) ∈ S ∧ bytesOf (ts.getD (j + 1) ByteArray.empty) ∈ S) (hm1 : bytesOf (ts.getD k ByteArray.empty) ∈ S') (hm2 : bytesOf (ts.getD (k + 1) ByteArray.empty) ∈ S')
    (hK : Kept (fun k => some m = some k) w Y) (hx : dAt S' ts B k = ⟨M1, M2, z, L⟩) (hxo : (dAt S' ts B k).ok) (hxl : n5 = L.length) (hO5 : Own Y w.heap.size (.slice a5 n5 k5) L)
    (hO : w6.ownsRow w.heap.size 25 4 v' (l.length + 1) (l.flatMap DV.c ++ [.string M1, .string M2, .int .i64 z, .slice a5 n5 k5])) (hg : (Y.alloc o).grownBy w6 v.ownBlock) :
    RowQ w w6 p m S0 ts B v' (k + 1) := by
  have hlt := World.ownsRow.lt hD.1
  rw [hx] at hxo
  refine ⟨l ++ [⟨⟨M1, M2, z, L⟩, a5, n5, k5⟩], S', by simp [hl], ?_, RowD.snoc (x := ⟨⟨M1, M2, z, L⟩, a5, n5, k5⟩) hD hO5 hxl hxo hO hg, ?_, hE0.trans hE, ?_, ?_, ?_⟩
  · unfold dls at hdl ⊢
    rw [List.map_append, hdl, List.range_succ, List.map_append]
    congr 1
    · apply List.map_congr_left
      intro i hi
      rw [List.mem_range] at hi
      exact (dAt_ext B hE (hmem i hi).1 (hmem i hi).2).symm
    · simp [hx]
  · exact (BookI.grown hIY (World.grownBy_alloc _ _ none) (by simp) (by simp)).grown hg (fun e => by have := (hlt p e.symm).1; omega) (fun e => by have := (hlt m e.symm).1; omega)
  · have h3 := Nat.mul_succ 3000000 k
    exact Nat.le_trans hlen' (Nat.le_trans (Nat.add_le_add_right hlen _) (Nat.le_of_eq (by rw [Nat.add_assoc, ← h3])))
  · intro j hj
    by_cases hjk : j = k
    · subst hjk; exact ⟨hm1, hm2⟩
    · have := hmem j (by omega); exact ⟨hE.mem this.1, hE.mem this.2⟩
  · exact (hK.trans (Kept.of_below (fun k => some m = some k) (below_alloc Y o)) (fun _ _ h => h)).trans (Kept.of_grown hg) (fun i hi e => by have := (hlt i e).1; omega)
set_option maxRecDepth 100000 in
set_option maxHeartbeats 2000000 in
theorem row_any (w : World) (p m : Nat) (S0 : Bk) (ao : Option Addr) (n cap : Nat) (ts : List ByteArray) (B : Nat) (hI : BookI w p m S0) (hS0 : S0.length ≤ 1000000) (hR : Rs w ao n cap 1 ts (fun x => [.string x])) (hn : n ≤ 6) (hts : ∀ x ∈ ts, x.size ≤ 1000) (hB1 : 16 ≤ B) (hB2 : B ≤ 1024) (hgm : ∀ b off, ao = some ⟨b, off, none⟩ → b ≠ m) :
    Calls Try.prog 24 #[.pointer (some ⟨p, 0, none⟩), .slice ao n cap, .int .i64 B] w fun e w' => ∃ v, e = .returned v ∧ RowQ w w' p m S0 ts B v (n - 1) := by
  obtain ⟨i1, hj, hy0, hy1, hy2⟩ := info_parts infoDl
  have hdz := dlZ_run
  have HLEN := Lib.hid hR.2.2.1
  have HTS := Lib.hid hts
  have hpm := hI.2.2.2.2.1
  have HQ0 := Lib.hid (RowQ.start ts B hI)
  clear hts hI
  go_enter Try.func24, Try.ntmps24
  go_wp2_with fail
  go_loopw [7, 8] (fun v i wr => ∃ j : Nat, 1 ≤ j ∧ (j ≤ n ∨ j = 1) ∧ i = .int .i64 j ∧ RowQ w wr p m S0 ts B v (j - 1)) (fun _ i _ => n - (intOf i).toNat)
  case atStart => exact ⟨1, Nat.le_refl _, .inr rfl, by go_num, HQ0.out⟩
  case round =>
    obtain ⟨j, hj1, hjn, rfl, hQ⟩ := hrel
    by_cases hlt : j < n
    case neg =>
      have hkn : j - 1 = n - 1 := by omega
      rw [hkn] at hQ
      have HQ := Lib.hid hQ
      clear hQ
      have i0 : ¬ (j : Int) < (n : Int) := by omega
      go_wp2
      go_ret
      exact ⟨_, rfl, HQ.out⟩
    case pos =>
      obtain ⟨k, hkj⟩ : ∃ k, k = j - 1 := ⟨_, rfl⟩
      rw [← hkj] at hQ
      obtain ⟨l, S, hl, hdl, hD, hI, hE, hlen, hmem, hK⟩ := hQ
      obtain ⟨g, off, rfl, hbw, hc⟩ := hR.cell1 (by omega)
      have hg : g ≠ m := hgm g off rfl
      have hgn : ¬ (some m = some g) := fun e => by injection e with e; exact hg e.symm
      obtain ⟨t1, h1⟩ : ∃ t, ts[k]? = some t := ⟨_, List.getElem?_eq_getElem (by rw [HLEN.out]; omega)⟩
      obtain ⟨t2, h2⟩ : ∃ t, ts[j]? = some t := ⟨_, List.getElem?_eq_getElem (by rw [HLEN.out]; omega)⟩
      have e1 : ts.getD k ByteArray.empty = t1 := by rw [List.getD_eq_getElem?_getD, h1]; rfl
      have e2 : ts.getD (k + 1) ByteArray.empty = t2 := by rw [show k + 1 = j by omega, List.getD_eq_getElem?_getD, h2]; rfl
      have c1 : wr.cell? ⟨g, off + k, none⟩ = some (.string t1) := (hK.cell hbw hgn).trans (hc k (by rw [HLEN.out]; omega) _ (by rw [(List.getElem?_eq_some_iff.1 h1).2]))
      have c2 : wr.cell? ⟨g, off + j, none⟩ = some (.string t2) := (hK.cell hbw hgn).trans (hc j (by rw [HLEN.out]; omega) _ (by rw [(List.getElem?_eq_some_iff.1 h2).2]))
      have z1 := HTS.out t1 (List.mem_of_getElem? h1)
      have z2 := HTS.out t2 (List.mem_of_getElem? h2)
      have hgw : g < wr.heap.size := Nat.lt_of_lt_of_le hbw hK.size
      have hmw : m < wr.heap.size := hI.2.2.2.2.1.2
      have hmz : m < w.heap.size := hpm.2
      obtain ⟨z, hz⟩ : ∃ z : Int, z = t2.size := ⟨_, rfl⟩
      obtain ⟨L, hL⟩ : ∃ L, L = stepsI t1 t2 B := ⟨_, rfl⟩
      have HOF : Hid (∀ W, Below wr.heap.size wr W → Calls Try.prog 28 #[.pointer (some ⟨p, 0, none⟩), .string t1, .string t2, .int .i64 B] W (OfQ p m S t1 t2 z L W)) := Lib.hid (fun W hW => by
        rw [hz, hL]
        exact of_q W p m S t1 t2 B (hI.next hW) (by omega) hB1 hB2 (by omega) (by omega))
      have hok : ∀ S' : Bk, dAt S' ts B k = ⟨numS (S'.idxOf (bytesOf t1) + 1), numS (S'.idxOf (bytesOf t2) + 1), z, L⟩ := fun S' => by
        unfold dAt; rw [e1, e2, hz, hL]
      have HDK := Lib.hid (And.intro hok (And.intro e1 e2))
      have HBd : Hid (Below wr.heap.size wr wr.drew) := Lib.hid ((Below.refl _ _).drew)
      have ALLOC : ∀ o : Obj, Below wr.heap.size wr (wr.drew.alloc o) := fun o => (Below.refl _ _).drew.trans ((below_alloc wr.drew o).mono (Nat.le_refl _))
      have HAL := Lib.hid ALLOC
      have HQ := Lib.hid (And.intro hl (And.intro hdl (And.intro hD (And.intro hE (And.intro hlen (And.intro hmem hK))))))
      have HJ := Lib.hid hkj
      have nqg : wr.heap.size ≠ g := by omega
      have i0 : (j : Int) < (n : Int) := by omega
      have i2 : (j : Int) - 1 = (k : Int) := by omega
      have i3 : (k : Int) < (n : Int) := by omega
      have i4 : IntKind.i64.wrap ((j : Int) - 1) = (k : Int) := by rw [i2]; exact IntWalk.i64_in _ (by omega)
      have i5 : IntKind.i64.wrap (k : Int) = (k : Int) := IntWalk.i64_in _ (by omega)
      clear hl hdl hD hE hlen hmem hK hI hR hc h1 h2 e1 e2 hz hL hok ALLOC hkj hjn z1 z2
      go_upto_region 5 with fail
      go_region_held3 (fun w' => w'.cell? ⟨g, off + k, none⟩ = some (.string t1) ∧ w'.cell? ⟨g, off + j, none⟩ = some (.string t2))
        (first | exact ⟨c1, c2⟩ | go_keep)
        (first
          | (go_at_call 28; refine (HOF.out wr.drew HBd.out).mono ?_; rintro e w5 ⟨a5, n5, k5, M1, M2, S', rfl, HX, hk5⟩; replace c1 := (hk5.cell (by exact hgw) hgn).trans c1; replace c2 := (hk5.cell (by exact hgw) hgn).trans c2)
          | (go_at_call 28; refine (HOF.out (wr.drew.alloc _) (HAL.out _)).mono ?_; rintro e w5 ⟨a5, n5, k5, M1, M2, S', rfl, HX, hk5⟩; replace c1 := (hk5.cell (by exact Nat.lt_of_lt_of_le hgw (HAL.out _).size) hgn).trans (((HAL.out _).cell (p := ⟨g, off + k, none⟩) hgw).trans c1); replace c2 := (hk5.cell (by exact Nat.lt_of_lt_of_le hgw (HAL.out _).size) hgn).trans (((HAL.out _).cell (p := ⟨g, off + j, none⟩) hgw).trans c2); have hQ5 : Blk w5 wr.heap.size [.string ByteArray.empty, .string ByteArray.empty, .int .i64 0, .slice none 0 0] 25 := blk_kept (Blk.new wr.drew [.string ByteArray.empty, .string ByteArray.empty, .int .i64 0, .slice none 0 0] 25) hk5 (fun e => by injection e with e; exact Nat.lt_irrefl _ (e ▸ hmw)); have u0 := hQ5.cell (i := 0) rfl; have u1 := hQ5.cell (i := 1) rfl; have u2 := hQ5.cell (i := 2) rfl; have u3 := hQ5.cell (i := 3) rfl; have v0 := hQ5.frozen 0; have v1 := hQ5.frozen 1; have v2 := hQ5.frozen 2; have v3 := hQ5.frozen 3))
      · obtain ⟨Y, hY⟩ : ∃ Y, Y = w5.alloc (Obj.cells #[.string M1, .string M2, .int .i64 z, .slice a5 n5 k5] 25) := ⟨_, rfl⟩
        obtain ⟨q, hq⟩ : ∃ q, q = w5.heap.size := ⟨_, rfl⟩
        rw [← hY, ← hq]
        have hQY : Blk Y q [.string M1, .string M2, .int .i64 z, .slice a5 n5 k5] 25 := by rw [hY, hq]; exact Blk.new _ _ _
        have hkY : Kept (fun k => some m = some k) wr Y := by
          rw [hY]
          exact ((Kept.of_below (fun k => some m = some k) HBd.out).trans hk5 (fun _ _ h => h)).trans (Kept.of_below (fun k => some m = some k) (below_alloc _ _)) (fun _ _ h => h)
        have hOY : Own Y w.heap.size (.slice a5 n5 k5) L := by rw [hY]; exact (owns_mono HX.out.2.2.2.1 (HQ.out.2.2.2.2.2.2.size)).alloc _
        have hIY : BookI Y p m S' := by rw [hY]; exact HX.out.2.2.2.2.1.next (below_alloc _ _)
        clear hY hq
        obtain ⟨hl, hdl, hD, hE0, hlen, hmem, hK⟩ := HQ.out
        obtain ⟨x1, x2, x3, x4, x5, x6, x7, x8, x9⟩ := HX.out
        have hDY := hD.kept hmz hkY
        have hKY := hK.trans hkY (fun _ _ h => h)
        have hO2 := hDY.1
        obtain ⟨av, kv, rfl⟩ := owns_slice hO2
        have q0 := hQY.cell (i := 0) rfl
        have q1 := hQY.cell (i := 1) rfl
        have q2 := hQY.cell (i := 2) rfl
        have q3 := hQY.cell (i := 3) rfl
        have hln : l.length ≤ 6 := by omega
        have hwY : w.heap.size ≤ Y.heap.size := hKY.size
        have HZ := Lib.hid (And.intro hl (And.intro hdl (And.intro hDY (And.intro hIY (And.intro hE0 (And.intro hlen (And.intro hmem (And.intro hKY hOY))))))))
        clear hl hdl hD hE0 hlen hmem hK x1 x2 x3 x4 x5 x6 x7 x8 x9 hDY hIY hKY hOY hQY c1 c2 hkY hk5
        go_wp2_with (at_builtin; refine wpList_append_own _ rfl _ _ 37 rfl w.heap.size 25 i1 (.agg #[.string ByteArray.empty, .string ByteArray.empty, .int .i64 0, .slice none 0 0]) 4 64 Try.underlying37 hj hy0 hy1 hy2 rfl (by decide) _ _ _ rfl (hO2.alloc _) ⟨Y.heap.size, 0, none⟩ 1 1 [.string M1, .string M2, .int .i64 z, .slice a5 n5 k5] rfl rfl (cells_new Y _ _) (dv_one ⟨⟨M1, M2, z, L⟩, a5, n5, k5⟩) (by unfold maxLen; omega) (by omega) (by simp; omega) ?_)
        intro v' w6 hO6 hg6 _
        have HO6 := Lib.hid (And.intro hO6 hg6)
        clear hO6 hg6 hO2 q0 q1 q2 q3
        go_wp2
        go_roundw
        case rel =>
          obtain ⟨hl, hdl, hDY, hIY, hE0, hlen, hmem, hKY, hOY⟩ := HZ.out
          obtain ⟨x1, x2, x3, x4, x5, x6, x7, x8, x9⟩ := HX.out
          have hj2 : j + 1 - 1 = k + 1 := by have := HJ.out; omega
          refine ⟨j + 1, by omega, by omega, by go_num, ?_⟩
          rw [hj2]
          exact RowQ.snoc hmz hpm.1 hl hdl hDY hIY hE0 x8 hlen x9 hmem (by rw [HDK.out.2.1]; exact x6) (by rw [HDK.out.2.2]; exact x7) hKY (by rw [HDK.out.1, x1, x2]) (dAt_ok S' ts B k (by omega) HTS.out) x3 hOY HO6.out.1 HO6.out.2
        case measure => simp [intOf]; omega
      · obtain ⟨Y, hY⟩ : ∃ Y, Y = (((w5.setCell ⟨wr.heap.size, 0, none⟩ (.string M1)).setCell ⟨wr.heap.size, 1, none⟩ (.string M2)).setCell ⟨wr.heap.size, 2, none⟩ (.int .i64 z)).setCell ⟨wr.heap.size, 3, none⟩ (.slice a5 n5 k5) := ⟨_, rfl⟩
        obtain ⟨q, hq⟩ : ∃ q, q = wr.heap.size := ⟨_, rfl⟩
        rw [← hY, ← hq]
        have hQY : Blk Y q [.string M1, .string M2, .int .i64 z, .slice a5 n5 k5] 25 := by rw [hY, hq]; exact (((hQ5.set 0 _).set 1 _).set 2 _).set 3 _
        have hkY : Kept (fun k => some m = some k) wr Y := by
          rw [hY]
          exact kept_set4 ((Kept.of_below (fun k => some m = some k) (HAL.out _)).trans hk5 (fun _ _ h => h)) (Nat.le_refl _) _ _ _ _
        have hsz : ∀ o : Obj, wr.heap.size < (wr.drew.alloc o).heap.size := fun o => by simp
        have hOY : Own Y w.heap.size (.slice a5 n5 k5) L := by
          rw [hY]
          exact owns_mono ((((HX.out.2.2.2.1.setFar (hsz _) 0 _).setFar (hsz _) 1 _).setFar (hsz _) 2 _).setFar (hsz _) 3 _) (Nat.le_trans HQ.out.2.2.2.2.2.2.size (Nat.le_of_lt (hsz _)))
        have hIY : BookI Y p m S' := by
          rw [hY]
          exact HX.out.2.2.2.2.1.grown (grown_set4 _ _ _ _ _ _) (fun e => by injection e with e; have := hpm.1; have := HQ.out.2.2.2.2.2.2.size; omega) (fun e => by injection e with e; omega)
        clear hY hq u0 u1 u2 u3 v0 v1 v2 v3 hQ5 hsz
        obtain ⟨hl, hdl, hD, hE0, hlen, hmem, hK⟩ := HQ.out
        obtain ⟨x1, x2, x3, x4, x5, x6, x7, x8, x9⟩ := HX.out
        have hDY := hD.kept hmz hkY
        have hKY := hK.trans hkY (fun _ _ h => h)
        have hO2 := hDY.1
        obtain ⟨av, kv, rfl⟩ := owns_slice hO2
        have q0 := hQY.cell (i := 0) rfl
        have q1 := hQY.cell (i := 1) rfl
        have q2 := hQY.cell (i := 2) rfl
        have q3 := hQY.cell (i := 3) rfl
        have hln : l.length ≤ 6 := by omega
        have hwY : w.heap.size ≤ Y.heap.size := hKY.size
        have HZ := Lib.hid (And.intro hl (And.intro hdl (And.intro hDY (And.intro hIY (And.intro hE0 (And.intro hlen (And.intro hmem (And.intro hKY hOY))))))))
        clear hl hdl hD hE0 hlen hmem hK x1 x2 x3 x4 x5 x6 x7 x8 x9 hDY hIY hKY hOY hQY c1 c2 hkY hk5
        go_wp2_with (at_builtin; refine wpList_append_own _ rfl _ _ 37 rfl w.heap.size 25 i1 (.agg #[.string ByteArray.empty, .string ByteArray.empty, .int .i64 0, .slice none 0 0]) 4 64 Try.underlying37 hj hy0 hy1 hy2 rfl (by decide) _ _ _ rfl (hO2.alloc _) ⟨Y.heap.size, 0, none⟩ 1 1 [.string M1, .string M2, .int .i64 z, .slice a5 n5 k5] rfl rfl (cells_new Y _ _) (dv_one ⟨⟨M1, M2, z, L⟩, a5, n5, k5⟩) (by unfold maxLen; omega) (by omega) (by simp; omega) ?_)
        intro v' w6 hO6 hg6 _
        have HO6 := Lib.hid (And.intro hO6 hg6)
        clear hO6 hg6 hO2 q0 q1 q2 q3
        go_wp2
        go_roundw
        case rel =>
          obtain ⟨hl, hdl, hDY, hIY, hE0, hlen, hmem, hKY, hOY⟩ := HZ.out
          obtain ⟨x1, x2, x3, x4, x5, x6, x7, x8, x9⟩ := HX.out
          have hj2 : j + 1 - 1 = k + 1 := by have := HJ.out; omega
          refine ⟨j + 1, by omega, by omega, by go_num, ?_⟩
          rw [hj2]
          exact RowQ.snoc hmz hpm.1 hl hdl hDY hIY hE0 x8 hlen x9 hmem (by rw [HDK.out.2.1]; exact x6) (by rw [HDK.out.2.2]; exact x7) hKY (by rw [HDK.out.1, x1, x2]) (dAt_ok S' ts B k (by omega) HTS.out) x3 hOY HO6.out.1 HO6.out.2
        case measure => simp [intOf]; omega
end Go.Proofs.Ytabdmcgfiabaoaa
