/- A row of deltas between texts, run and folded: the plain law. No conditions. -/
import Derived.Test.YtabdmcgfiabaoaaChUse
import Derived.Test.YtabdmcgfiabaoaaChRun
namespace Go.Proofs.Ytabdmcgfiabaoaa
open Go.RowKit Sg
set_option linter.unusedVariables false
set_option linter.unusedSimpArgs false
theorem toList_self (b : ByteArray) : (b.toList == b.toList) = true := by simp
theorem apply_mks {S : Bk} {a b : ByteArray} {d : Dl} (h : Mks a b d) (hd : d.basis = mkI S a) (hm : d.mark = mkI S b) (ha : bytesOf a ∈ S) (hb : bytesOf b ∈ S) : applyI S a d = (b, 0) ∧ applyB S a d = S := by
  have hr := h.run
  have e1 : addS S (bytesOf a) = S := addS_mem ha
  have := applyI_ok (S := S) (b := a) (d := d) (rightI_iff.2 h.right) (by rw [hd]; exact toList_self _) (by rw [hr]) (by rw [hr, e1, hm]; exact toList_self _)
  rw [hr, e1] at this
  simp only at this
  rw [addS_mem hb] at this
  exact this
theorem apply_far {S : Bk} {a : ByteArray} {d : Dl} (h : RightP d) (hd : d.basis ≠ mkI S a) : applyI S a d = (ByteArray.empty, 13) := by
  refine (applyI_basis (S := S) (b := a) (d := d) (rightI_iff.2 h) (beqS_f (fun e => hd ?_))).1
  exact ByteArray.ext (Array.ext' e.symm)
theorem runC_append {S : Bk} : ∀ (l1 l2 : List Dl) {S : Bk} {a : ByteArray} {i : Nat}, (runC S a l1 i).2.2 = 0 → runC S a (l1 ++ l2) i = runC (runB S a l1) (runC S a l1 i).1 l2 (runC S a l1 i).2.1 ∧ runB S a (l1 ++ l2) = runB (runB S a l1) (runC S a l1 i).1 l2 := by
  intro l1 l2
  induction l1 with
  | nil => intro S a i _; exact ⟨rfl, rfl⟩
  | cons d l1 ih =>
    intro S a i h
    rw [List.cons_append]
    by_cases h0 : (applyI S a d).2 = 0
    · simp only [runC, runB, if_pos h0] at h ⊢
      exact ih h
    · simp only [runC, if_neg h0] at h
      exact absurd h h0
section
variable {S : Bk} {ts : List ByteArray} {B : Nat}
def tx (ts : List ByteArray) (i : Nat) : ByteArray := ts.getD i ByteArray.empty
theorem runC_row (hB : 0 < B) (hts : ∀ x ∈ ts, x.size ≤ 1000) : ∀ (m k i : Nat), (∀ j, k ≤ j → j < k + m → bytesOf (tx ts j) ∈ S ∧ bytesOf (tx ts (j + 1)) ∈ S) →
    runC S (tx ts k) ((List.range' k m).map (dAt S ts B)) i = (tx ts (k + m), i + m, 0) ∧ runB S (tx ts k) ((List.range' k m).map (dAt S ts B)) = S := by
  intro m
  induction m with
  | zero => intro k i _; exact ⟨rfl, rfl⟩
  | succ m ih =>
    intro k i hm
    have h0 := hm k (Nat.le_refl _) (by omega)
    have h1 := apply_mks (S := S) (dAt_mks S ts B k hB hts) rfl rfl h0.1 h0.2
    have h2 := ih (k + 1) (i + 1) (fun j h3 h4 => hm j (by omega) (by omega))
    rw [List.range'_succ, List.map_cons]
    have e1 : applyI S (tx ts k) (dAt S ts B k) = (tx ts (k + 1), 0) := h1.1
    have e2 : applyB S (tx ts k) (dAt S ts B k) = S := h1.2
    simp only [runC, runB, e1, e2, if_true]
    rw [show k + (m + 1) = k + 1 + m by omega, show i + (m + 1) = i + 1 + m by omega]
    exact h2
theorem rowMk_row (hB : 0 < B) (hts : ∀ x ∈ ts, x.size ≤ 1000) : ∀ (m k : Nat), RowMk (tx ts k) ((List.range' k m).map (dAt S ts B)) (tx ts (k + m)) := by
  intro m
  induction m with
  | zero => intro k; exact rfl
  | succ m ih =>
    intro k
    rw [List.range'_succ, List.map_cons]
    refine ⟨tx ts (k + 1), dAt_mks S ts B k hB hts, ?_, ?_⟩
    · intro e he
      cases m with
      | zero => cases he
      | succ m =>
        rw [List.range'_succ, List.map_cons, List.head?_cons] at he
        rw [← Option.some.inj he]; rfl
    · have := ih (k + 1)
      rw [show k + (m + 1) = k + 1 + m by omega]; exact this
theorem fold_row (hB : 0 < B) (hts : ∀ x ∈ ts, x.size ≤ 1000) (m : Nat) {E : Int} {D : Dl} (h : FoldR ((List.range' 0 (m + 1)).map (dAt S ts B)) E D) :
    E = 0 ∧ Mks (tx ts 0) (tx ts (m + 1)) D ∧ D.basis = mkI S (tx ts 0) ∧ D.mark = mkI S (tx ts (m + 1)) := by
  have h0 := dAt_mks S ts B 0 hB hts
  have hz : (tx ts 0).size ≤ 524288 := Nat.le_trans (getD_size hts 0) (by decide)
  have hr := rowMk_row (S := S) hB hts m 1
  rw [List.range'_succ, List.map_cons] at h
  have ht := h0.tidy hz (fun x hx => (chRightS_pos (h0.right.2.2.2.2.1 x hx)).1)
  rcases h with ⟨h, _⟩ | ⟨_, h⟩
  · exact absurd h0.right h
  · have hm : ∀ e, ((List.range' (0 + 1) m).map (dAt S ts B)).head? = some e → (tidyD (dAt S ts B 0)).mark = e.basis := by
      intro e he
      cases m with
      | zero => cases he
      | succ m =>
        rw [List.range'_succ, List.map_cons, List.head?_cons] at he
        rw [← Option.some.inj he]; rfl
    obtain ⟨e1, e2, e3, e4⟩ := fold_mk _ ht.1 hz hm hr h
    refine ⟨e1, ?_, e3, ?_⟩
    · rw [show m + 1 = 1 + m by omega]; exact e2
    · rw [e4]
      cases m with
      | zero => rfl
      | succ m =>
        rw [List.range'_concat, List.map_append, List.map_cons, List.map_nil, List.getLast?_concat]
        show (dAt S ts B _).mark = _
        rw [show 0 + 1 + 1 * m = m + 1 by omega]; rfl
theorem range_cut (n1 o : Nat) (h : o < n1) (f : Nat → Dl) : ((List.range' 0 n1).map f).take o = (List.range' 0 o).map f ∧ ((List.range' 0 n1).map f).drop (o + 1) = (List.range' (o + 1) (n1 - o - 1)).map f := by
  have e1 : List.range' 0 n1 = List.range' 0 o ++ List.range' o (n1 - o) := by
    have := List.range'_append_1 (s := 0) (m := o) (n := n1 - o)
    rw [Nat.zero_add, show o + (n1 - o) = n1 by omega] at this
    exact this.symm
  have e2 : List.range' o (n1 - o) = o :: List.range' (o + 1) (n1 - o - 1) := by
    rw [show n1 - o = (n1 - o - 1) + 1 by omega, List.range'_succ]; rfl
  rw [e1, e2, List.map_append, List.map_cons]
  have hl : ((List.range' 0 o).map f).length = o := by simp
  constructor
  · exact List.take_left' hl
  · rw [show (List.range' 0 o).map f ++ f o :: (List.range' (o + 1) (n1 - o - 1)).map f = ((List.range' 0 o).map f ++ [f o]) ++ (List.range' (o + 1) (n1 - o - 1)).map f by simp]
    exact List.drop_left' (by simp)
theorem mkI_ne {a b : ByteArray} (ha : bytesOf a ∈ S) (hb : bytesOf b ∈ S) (hS : S.length ≤ 100000000) (h : a ≠ b) : mkI S a ≠ mkI S b := by
  intro e
  have h1 := List.idxOf_lt_length_of_mem ha
  have h2 := List.idxOf_lt_length_of_mem hb
  have h3 := numS_inj _ _ (by omega) (by omega) (congrArg (fun x : ByteArray => x.data.toList) e)
  have h4 := idx_inj ha hb (by omega)
  exact h (ByteArray.ext (Array.ext' h4))
theorem runC_cut (hB : 0 < B) (hts : ∀ x ∈ ts, x.size ≤ 1000) (hS : S.length ≤ 100000000) {n1 o : Nat} (ho : o + 1 < n1) (hm : ∀ j, j < n1 → bytesOf (tx ts j) ∈ S ∧ bytesOf (tx ts (j + 1)) ∈ S) :
    runC S (tx ts 0) (((List.range' 0 n1).map (dAt S ts B)).take o ++ ((List.range' 0 n1).map (dAt S ts B)).drop (o + 1)) 0 = if tx ts o = tx ts (o + 1) then (tx ts n1, n1 - 1, 0) else (ByteArray.empty, o, 13) := by
  obtain ⟨e1, e2⟩ := range_cut n1 o (by omega) (dAt S ts B)
  rw [e1, e2]
  have h1 := runC_row (S := S) hB hts o 0 0 (fun j h3 h4 => hm j (by omega))
  rw [Nat.zero_add] at h1
  have h2 := (runC_append ((List.range' 0 o).map (dAt S ts B)) ((List.range' (o + 1) (n1 - o - 1)).map (dAt S ts B)) (S := S) (a := tx ts 0) (i := 0) (by rw [h1.1])).1
  rw [h2, h1.1, h1.2]
  simp only
  split
  · rename_i he
    rw [he]
    have h3 := (runC_row (S := S) hB hts (n1 - o - 1) (o + 1) o (fun j h3 h4 => hm j (by omega))).1
    rw [h3, show o + 1 + (n1 - o - 1) = n1 by omega, show o + (n1 - o - 1) = n1 - 1 by omega]
  · rename_i he
    obtain ⟨r, hr⟩ : ∃ r, n1 - o - 1 = r + 1 := ⟨n1 - o - 2, by omega⟩
    rw [hr, List.range'_succ, List.map_cons]
    have h5 := apply_far (S := S) (a := tx ts o) (d := dAt S ts B (o + 1)) (dAt_mks S ts B (o + 1) hB hts).right (mkI_ne (hm (o + 1) (by omega)).1 (hm o (by omega)).1 hS (fun e => he e.symm))
    simp only [runC, h5]
    rw [if_neg (by decide)]
end
theorem row_len {wx : World} {base : Nat} {v : Value} {l : List DV} {S : Bk} {ts : List ByteArray} {B n : Nat} (hB : 0 < B) (hts : ∀ x ∈ ts, x.size ≤ 1000) (hD : RowD wx base v l) (hdl : dls l = (List.range n).map (dAt S ts B)) : ∀ x ∈ l, x.len ≤ 1000000 := by
  intro x hx
  have h1 : x.d ∈ dls l := List.mem_map.2 ⟨x, hx, rfl⟩
  rw [hdl] at h1
  obtain ⟨i, _, hi⟩ := List.mem_map.1 h1
  have h2 := dAt_mks S ts B i hB hts
  rw [hi] at h2
  have h3 := sum2_len h2.right.2.2.2.2.1
  have h4 := h2.right.2.2.2.2.2
  have h5 := h2.right.2.2.2.1
  rw [(hD.2 x hx).2.1]
  omega
theorem tx_get {ts : List ByteArray} {i : Nat} (h : i < ts.length) : ts[i]? = some (tx ts i) := by
  unfold tx; rw [List.getD_eq_getElem?_getD, List.getElem?_eq_getElem h]; rfl
theorem dv_flat (rs : List DV) : (rs.flatMap DV.c).length = rs.length * 4 := by
  induction rs with
  | nil => rfl
  | cons x l ih => rw [List.flatMap_cons, List.length_append, ih, dv_len, List.length_cons]; omega
theorem Rs.cellsAt' {w : World} {ao : Option Addr} {m c : Nat} {rs : List DV} (h : Rs w ao m c 4 rs DV.c) (h0 : 0 < m) : ∃ ad : Addr, ao = some ad ∧ ∀ j u, (rs.flatMap DV.c)[j]? = some u → w.cell? ⟨ad.block, ad.off + j, none⟩ = some u := by
  obtain ⟨b, off, e, hb, hc⟩ := h.2.2.2 h0
  refine ⟨⟨b, off, none⟩, e, fun j u hu => ?_⟩
  have hj : j < rs.length * 4 := by rw [← dv_flat]; exact (List.getElem?_eq_some_iff.1 hu).1
  have hi : j / 4 < rs.length := by omega
  have hr : j % 4 < 4 := Nat.mod_lt _ (by decide)
  have e2 : j / 4 * 4 + j % 4 = j := by omega
  have h3 := flatAt DV.c 4 dv_len rs (j / 4) hi (j % 4) hr
  rw [e2, hu] at h3
  have h4 := hc (j / 4) hi (j % 4) u h3.symm
  rwa [e2] at h4
theorem RowD.cellsF {w : World} {base k : Nat} {v : Value} {l : List DV} (h : RowD w base v l) (hk : l.length = k) (h0 : 0 < k) :
    ∃ b off, (∃ c, v = .slice (some ⟨b, off, none⟩) k c) ∧ b < w.heap.size ∧ base ≤ b ∧ ∀ j u, (l.flatMap DV.c)[j]? = some u → w.cell? ⟨b, off + j, none⟩ = some u := by
  obtain ⟨ao, c, rfl⟩ := owns_slice h.1
  rw [hk] at h
  obtain ⟨b, off, rfl, hb, hg, _⟩ := h.cells hk h0
  rw [hk]
  refine ⟨b, off, ⟨c, rfl⟩, hb, hg, fun j u hj => ?_⟩
  obtain ⟨ad, he, hc⟩ := Rs.cellsAt' (h.rs hk) h0
  injection he with he
  subst he
  exact hc j u hj
theorem RowD.cap {w : World} {base k c : Nat} {ao : Option Addr} {l : List DV} (h : RowD w base (.slice ao k c) l) (hk : l.length = k) : k ≤ c := (h.rs hk).1
theorem addr_at (b off j : Nat) : (⟨b, off, none⟩ : Addr).add j = ⟨b, off + j, none⟩ := by unfold Addr.add; split <;> simp_all
theorem dv_take (l : List DV) (k : Nat) : (l.flatMap DV.c).take (k * 4) = (l.take k).flatMap DV.c ∧ (l.flatMap DV.c).drop (k * 4) = (l.drop k).flatMap DV.c := by
  induction l generalizing k with
  | nil => simp
  | cons x l ih =>
    cases k with
    | zero => simp
    | succ k =>
      have h4 : (k + 1) * 4 = 4 + k * 4 := by omega
      have hx : x.c.length = 4 := rfl
      rw [List.flatMap_cons, h4, List.take_succ_cons, List.drop_succ_cons, List.flatMap_cons]
      constructor
      · rw [List.take_append, hx, List.take_of_length_le (by rw [hx]; omega), show 4 + k * 4 - 4 = k * 4 by omega, (ih k).1]
      · rw [List.drop_append, hx, List.drop_of_length_le (by rw [hx]; omega), show 4 + k * 4 - 4 = k * 4 by omega, (ih k).2, List.nil_append]
/-- a row made of a part of another one, in blocks that are new -/
theorem RowD.part {wx w4 w6 : World} {base : Nat} {v v4 v6 : Value} {l l' : List DV} {n4 n6 : Nat} {x4 x6 : List Value} (h : RowD wx base v l) (hb : base ≤ wx.heap.size) (hsub : ∀ y ∈ l', y ∈ l)
    (hE : (wx.drew.alloc (Obj.cells #[] 25)).ownsRow wx.heap.size 25 4 (.slice (some ⟨wx.heap.size, 0, none⟩) 0 0) 0 [])
    (hg4 : (wx.drew.alloc (Obj.cells #[] 25)).grownBy w4 (Value.slice (some ⟨wx.heap.size, 0, none⟩) 0 0).ownBlock) (hO4 : w4.ownsRow wx.heap.size 25 4 v4 n4 x4) (hg6 : w4.grownBy w6 v4.ownBlock)
    (hO6 : w6.ownsRow wx.heap.size 25 4 v6 n6 x6) (hn : n6 = l'.length) (hx : x6 = l'.flatMap DV.c) : RowD w6 base v6 l' := by
  refine ⟨by rw [← hn, ← hx]; exact owns_mono hO6 hb, fun y hy => ?_⟩
  obtain ⟨h1, h2, h3⟩ := h.2 y (hsub y hy)
  have k1 : (wx.drew.alloc (Obj.cells #[] 25)).ownsRow base 55 3 (.slice y.ao y.len y.cap) y.d.steps.length (y.d.steps.flatMap St.c) := World.ownsRow.alloc (w := wx.drew) h1 _
  have k2 := World.ownsRow.kept k1 hg4 (rows_apart k1 hE (by decide))
  have k3 := World.ownsRow.kept k2 hg6 (rows_apart k2 hO4 (by decide))
  exact ⟨k3, h2, h3⟩
end Go.Proofs.Ytabdmcgfiabaoaa
