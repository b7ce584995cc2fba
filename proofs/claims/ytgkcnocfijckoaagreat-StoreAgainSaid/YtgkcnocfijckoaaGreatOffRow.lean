/- A row of bytes that begins somewhere in its block, and what is appended to it. Conditions: as named in each theorem. -/
import Derived.Test.YtgkcnocfijckoaaGreatCodeNum
import Derived.Test.YtgkcnocfijckoaaGreatQR
import Derived.Deep.AppendSrc
import Derived.Deep.Upon
import Derived.Deep.RegionLaw
namespace Go.Proofs.YtgkcnocfijckoaaGreat
open Go.RowKit
set_option linter.unusedVariables false
set_option linter.unusedSimpArgs false
/-- v is the bytes l, in memory of one's own from the block base on, or nil -/
def OffB (w : World) (base : Nat) (v : Value) (l : List UInt8) : Prop :=
  (l = [] ∧ v = .slice none 0 0) ∨ ∃ g off cap, v = .slice (some ⟨g, off, none⟩) l.length cap ∧ base ≤ g ∧ g < w.heap.size ∧ l.length ≤ cap ∧
    (∀ j c, l[j]? = some c → w.cell? ⟨g, off + j, none⟩ = some (.int .u8 (c.toNat : Nat))) ∧ ∀ j, j < cap → (w.cell? ⟨g, off + j, none⟩).isSome = true ∧ w.frozen? ⟨g, off + j, none⟩ = false
theorem OffB.nil (w : World) (base : Nat) : OffB w base (.slice none 0 0) [] := .inl ⟨rfl, rfl⟩
theorem OffB.slice {w : World} {base : Nat} {v : Value} {l : List UInt8} (h : OffB w base v l) : ∃ ao cap, v = .slice ao l.length cap ∧ l.length ≤ cap := by
  rcases h with ⟨rfl, rfl⟩ | ⟨g, off, cap, h1, h2, h3, h4, h5⟩
  · exact ⟨none, 0, rfl, Nat.le_refl _⟩
  · exact ⟨_, cap, h1, h4⟩
theorem OffB.own {w : World} {base : Nat} {v : Value} {l : List UInt8} (h : OffB w base v l) : ∀ k, v.ownBlock = some k → base ≤ k ∧ k < w.heap.size := by
  intro k hk
  rcases h with ⟨rfl, rfl⟩ | ⟨g, off, cap, h1, h2, h3, h4, h5⟩
  · cases hk
  · rw [h1] at hk
    injection hk with hk
    subst hk
    exact ⟨h2, h3⟩
theorem OffB.grown {w w' : World} {base : Nat} {v : Value} {l : List UInt8} (h : OffB w base v l) {row : Option Nat} (hg : w.grownBy w' row) (hne : ∀ k, row = some k → v.ownBlock ≠ some k) : OffB w' base v l := by
  rcases h with h | ⟨g, off, cap, rfl, h2, h3, h4, h5, h6⟩
  · exact .inl h
  · have hgr : some g ≠ row := fun e => hne g e.symm rfl
    have hb := hg.block g h3 hgr
    refine .inr ⟨g, off, cap, rfl, h2, Nat.lt_of_lt_of_le h3 hg.size, h4, fun j c hj => ?_, fun j hj => ?_⟩
    · rw [← h5 j c hj]; exact World.cell?_of_block (a := ⟨g, off + j, none⟩) hb
    · have := h6 j hj
      rw [World.cell?_of_block (a := ⟨g, off + j, none⟩) hb, World.frozen?_of_block (a := ⟨g, off + j, none⟩) hb]; exact this
theorem OffB.next {w w' : World} {base : Nat} {v : Value} {l : List UInt8} (h : OffB w base v l) (hb : Below w.heap.size w w') : OffB w' base v l := h.grown (below_grown hb none) (fun k hk => by cases hk)
theorem OffB.mono {w : World} {base base' : Nat} {v : Value} {l : List UInt8} (h : OffB w base v l) (hb : base' ≤ base) : OffB w base' v l := by
  rcases h with h | ⟨g, off, cap, h1, h2, h3⟩
  · exact .inl h
  · exact .inr ⟨g, off, cap, h1, Nat.le_trans hb h2, h3⟩
/-- the row behind its first n bytes -/
theorem OffB.drop {w : World} {base : Nat} {g off cap len : Nat} {l : List UInt8} (h : OffB w base (.slice (some ⟨g, off, none⟩) len cap) l) (n : Nat) (hn : n ≤ len) (off' : Nat) (ho : n < cap → off' = off + n) : OffB w base (.slice (some ⟨g, off', none⟩) (len - n) (cap - n)) (l.drop n) := by
  rcases h with ⟨rfl, h1⟩ | ⟨g', off2, cap', h1, h2, h3, h4, h5, h6⟩
  · injection h1 with h1; cases h1
  · injection h1 with e1 e2 e3
    injection e1 with e1
    injection e1 with e1 e4
    subst e1; subst e3; subst e4; subst e2
    refine .inr ⟨g, off', cap - n, ?_, h2, h3, ?_, fun j c hj => ?_, fun j hj => ?_⟩
    · rw [List.length_drop]
    · rw [List.length_drop]; omega
    · rw [List.getElem?_drop] at hj
      have hlt := (List.getElem?_eq_some_iff.1 hj).1
      rw [ho (by omega), Nat.add_assoc]; exact h5 _ _ hj
    · rw [ho (by omega), Nat.add_assoc]; exact h6 _ (by omega)
theorem OffB.str {P : Program} {w : World} {base g off cap len : Nat} {l : List UInt8} {src dst e : TypeId} (h : OffB w base (.slice (some ⟨g, off, none⟩) len cap) l) (hs : P.underlying src = some (.slice e)) (he : P.underlying e = some (.int .u8)) (hd : P.underlying dst = some .string) (n : Nat) (hn : n ≤ len) (cap2 : Nat) :
    (convert src dst (.slice (some ⟨g, off, none⟩) n cap2)).run P w = .ok (.string ⟨(l.take n).toArray⟩) w := by
  rcases h with ⟨rfl, h1⟩ | ⟨g', off2, cap', h1, h2, h3, h4, h5, h6⟩
  · injection h1 with h1; cases h1
  · injection h1 with e1 e2 e3
    injection e1 with e1
    injection e1 with e1 e4
    subst e1; subst e4; subst e2
    refine run_bytes_str (l.take n) hs he hd (by simp; omega) (fun j c hj => ?_)
    rw [List.getElem?_take] at hj
    split at hj
    · exact h5 j c hj
    · cases hj
theorem byteC_kit (s : ByteArray) : byteCells s = byteC s.data.toList := rfl
theorem byteC_one' (l : List UInt8) : ∀ u ∈ byteC l, u.oneCell' = true := by
  intro u hu
  unfold byteC at hu
  rw [List.mem_map] at hu
  obtain ⟨c, _, rfl⟩ := hu
  rfl
theorem off_hold {P : Program} {w : World} {base : Nat} {v : Value} {l : List UInt8} (h : OffB w base v l) : ∃ ao cap, v = .slice ao l.length cap ∧ (Builtin.firstCells 1 l.length v).run P w.drew = .ok (byteC l).toArray w.drew := by
  rcases h with ⟨rfl, rfl⟩ | ⟨g, off, cap, rfl, h2, h3, h4, h5, h6⟩
  · exact ⟨none, 0, rfl, run_firstCells_none w.drew 1 0 0 0⟩
  · refine ⟨_, cap, rfl, run_firstCells_some w.drew 1 l.length _ _ _ (byteC l) (by rw [byteC_len]; omega) (fun j u hj => ?_)⟩
    rw [show (⟨g, off, none⟩ : Addr).add j = ⟨g, off + j, none⟩ from add_off' g off j]
    have hjl : j < l.length := by have := (List.getElem?_eq_some_iff.1 hj).1; rwa [byteC_len] at this
    have h7 := byteC_get l j l[j] (List.getElem?_eq_getElem hjl)
    rw [hj] at h7
    injection h7 with h7
    rw [h7]
    exact h5 j _ (List.getElem?_eq_getElem hjl)
theorem cell_heapO {w : World} {L : Nat} {C : Array Value} {T : TypeId} {fz : Nat × Nat} (h : w.heap[L]? = some (.cells C T fz)) {i : Nat} {v : Value} (hv : C[i]? = some v) : w.cell? ⟨L, i, none⟩ = some v := by
  simp [World.cell?, h, hv]
theorem run_append_off {P : Program} (w : World) (t tx ty e : TypeId) (i : TypeInfo) (z : Value) (ht : P.underlying t = some (.slice e)) (hi : P.info? e = some i) (hz : i.zero = some z) (hs1 : i.size = 1) (hb1 : i.bytes = 1) (hzs : z.cells.size = 1)
    (base : Nat) (v : Value) (l : List UInt8) (h : OffB w base v l) (hb : base ≤ w.heap.size) (x : Value) (news : List UInt8) (hsrc : Src P 1 tx x news.length (byteC news) w) (hlen : l.length + news.length ≤ 100000000) :
    ∃ v' w', (Builtin.append_ #[t, tx] ty #[v, x]).run P w = .ok v' w' ∧ OffB w' base v' (l ++ news) ∧ w.grownBy w' v.ownBlock ∧ (v'.ownBlock = v.ownBlock ∨ v'.ownBlock = some w.heap.size) := by
  have hnews : (byteC news).length = news.length := byteC_len news
  by_cases hroom : ∃ g off cap, v = .slice (some ⟨g, off, none⟩) l.length cap ∧ l.length + news.length ≤ cap
  · obtain ⟨g, off, cap, rfl, hr⟩ := hroom
    rcases h with ⟨rfl, h1⟩ | ⟨g', off2, cap', h1, h2, h3, h4, h5, h6⟩
    · injection h1 with h1; cases h1
    · injection h1 with e1 e2 e3
      injection e1 with e1
      injection e1 with e1 e4
      subst e1; subst e3; subst e4
      have hsrc' : Src P i.size tx x news.length (byteC news) w := by rw [hs1]; exact hsrc
      have hrun := run_append_room_src (P := P) w t tx ty e i ht hi g off l.length cap x news.length (byteC news) hsrc' hr (fun j hj => by rw [hs1, Nat.mul_one, Nat.add_assoc]; exact (h6 _ (by omega)).1) (fun j hj => by rw [hs1, Nat.mul_one, Nat.add_assoc]; exact (h6 _ (by omega)).2)
      rw [hs1, Nat.mul_one] at hrun
      have hkb := World.keptBut_setCells g (may := fun p => ∃ o, p = MemPlace.cell g o) (byteC news) (off + l.length) w (fun j _ => ⟨_, rfl⟩)
      refine ⟨_, _, hrun, .inr ⟨g, off, cap, by rw [List.length_append], h2, Nat.lt_of_lt_of_le h3 hkb.size, by rw [List.length_append]; exact hr, fun j c hj => ?_, fun j hj => ?_⟩, ?_, .inl rfl⟩
      · by_cases hjl : j < l.length
        · rw [World.cell?_setCells_out g _ _ _ _ (fun _ _ => Or.inl (by show off + j < off + l.length; omega))]
          rw [List.getElem?_append_left hjl] at hj
          exact h5 j c hj
        · rw [List.getElem?_append_right (by omega)] at hj
          have hj2 := (List.getElem?_eq_some_iff.1 hj).1
          have h7 := World.cell?_setCells_in g (byteC news) (off + l.length) w (fun q hq => by rw [Nat.add_assoc]; exact (h6 _ (by omega)).1) (j - l.length) (by omega)
          rw [show off + l.length + (j - l.length) = off + j by omega] at h7
          rw [h7]
          have h8 := byteC_get news (j - l.length) c hj
          have h9 := (List.getElem?_eq_some_iff.1 h8).2
          rw [h9]
      · rw [World.frozen?_setCells]
        refine ⟨?_, (h6 j hj).2⟩
        by_cases hin : l.length ≤ j ∧ j < l.length + news.length
        · have h7 := World.cell?_setCells_in g (byteC news) (off + l.length) w (fun q hq => by rw [Nat.add_assoc]; exact (h6 _ (by omega)).1) (j - l.length) (by omega)
          rw [show off + l.length + (j - l.length) = off + j by omega] at h7
          rw [h7]; rfl
        · rw [World.cell?_setCells_out g _ _ _ _ (fun _ _ => by show off + j < off + l.length ∨ off + l.length + (byteC news).length ≤ off + j; omega)]
          exact (h6 j hj).1
      · have hgen : ∀ (vs : List Value) (o : Nat) (w0 : World), w0.grownBy (w0.setCells g o vs) (some g) := by
          intro vs
          induction vs with
          | nil => intro o w0; exact grown_refl _ _
          | cons u r ih => intro o w0; exact grown_trans (grown_set (grown_refl w0 (some g)) o u) (ih (o + 1) _)
        exact hgen _ _ _
  · obtain ⟨ao, cap, hv, hold⟩ := off_hold (P := P) h
    have hcap : cap < l.length + news.length ∨ (news = [] ∧ l = [] ∧ v = .slice none 0 0) := by
      rcases h with ⟨rfl, rfl⟩ | ⟨g, off, cap', h1, h2⟩
      · injection hv with e1 e2 e3
        subst e3
        cases news with
        | nil => exact .inr ⟨rfl, rfl, rfl⟩
        | cons a r => left; simp
      · left
        rw [hv] at h1
        injection h1 with e1 e2 e3
        rcases Nat.lt_or_ge cap (l.length + news.length) with h7 | h7
        · exact h7
        · exact absurd ⟨g, off, cap, by rw [hv, e1], h7⟩ hroom
    rcases hcap with hcap | ⟨rfl, rfl, rfl⟩
    · subst hv
      have hsrc' : Src P i.size tx x news.length (byteC news) w := by rw [hs1]; exact hsrc
      have hn2 := nextslicecap_le (need := l.length + news.length) (old := cap) hcap
      have hrun := run_append_grow_src (P := P) w t tx ty e i z ht hi hz ao l.length cap (byteC l) (by rw [hs1]; exact hold) x news.length (byteC news) hsrc' hcap (by omega) (by rw [hb1]; omega)
      have hgc := grownCap_ge w (l.length + news.length) cap e
      obtain ⟨C, hC⟩ : ∃ C, C = (byteC l ++ byteC news).toArray ++ Builtin.zeroCells z.cells (grownCap w (l.length + news.length) cap e - (l.length + news.length)) := ⟨_, rfl⟩
      rw [← hC] at hrun
      have hCs : C.size = grownCap w (l.length + news.length) cap e := by rw [hC]; simp [size_zeroCells, hzs, byteC_len]; omega
      have hh : (w.drew.alloc (.cells C e)).heap[w.heap.size]? = some (.cells C e (0, 0)) := heap_alloc_new w.drew _
      refine ⟨_, _, hrun, .inr ⟨w.heap.size, 0, _, by rw [List.length_append], hb, by simp, by rw [List.length_append]; exact hgc, fun j c hj => ?_, fun j hj => ?_⟩, ⟨rfl, rfl, rfl, by simp, fun k hk _ => ?_⟩, .inr rfl⟩
      · rw [Nat.zero_add]
        have h8 := byteC_get (l ++ news) j c hj
        have hb2 : byteC (l ++ news) = byteC l ++ byteC news := by simp [byteC]
        rw [hb2] at h8
        have hjl := (List.getElem?_eq_some_iff.1 h8).1
        have h9 : C[j]? = some (.int .u8 (c.toNat : Nat)) := by
          rw [hC, Array.getElem?_append_left (by simpa using hjl)]
          simpa using h8
        exact cell_heapO hh h9
      · rw [Nat.zero_add]
        have hjC : j < C.size := by rw [hCs]; exact hj
        constructor
        · rw [cell_heapO hh (Array.getElem?_eq_getElem hjC)]; rfl
        · unfold World.frozen?; rw [hh]; simp
      · exact Below.heap_alloc w.drew _ k hk
    · refine ⟨.slice none 0 0, w, ?_, OffB.nil _ _, grown_refl _ _, .inl rfl⟩
      have hsrc' : Src P i.size tx x 0 [] w := by rw [hs1]; exact hsrc
      exact run_append_nothing w t tx ty e i ht hi none 0 0 (Nat.le_refl _) x hsrc'
/-- as one step of a region that draws -/
theorem step_append_off {P : Program} {ops : Array Oper} {o : Oper} {a : Act} {w : World} {K : Act → World → Prop} {Q : Exit → Act → World → Prop} {E : Prop}
    (hg : o.guard = none) (s x : Operand) (t tx : TypeId) (hop : o.op = Op.call { callee := Callee.builtin Builtin.append, args := #[s, x], argTypes := #[t, tx] })
    (e : TypeId) (i : TypeInfo) (z : Value) (ht : P.underlying t = some (.slice e)) (hi : P.info? e = some i) (hz : i.zero = some z) (hs1 : i.size = 1) (hb1 : i.bytes = 1) (hzs : z.cells.size = 1)
    (base : Nat) (v : Value) (l : List UInt8) (hs : a.eval s = v) (h : OffB w base v l) (hb : base ≤ w.heap.size) (xv : Value) (hx : a.eval x = xv) (news : List UInt8) (hsrc : Src P 1 tx xv news.length (byteC news) w) (hlen : l.length + news.length ≤ 100000000)
    (hK : ∀ v' w', OffB w' base v' (l ++ news) → w.grownBy w' v.ownBlock → (v'.ownBlock = v.ownBlock ∨ v'.ownBlock = some w.heap.size) → K (a.put o.dst v') w') :
    if Region.wanted o (yielded ops a.tmps) = true then Oper.wp P o a w K Q else E := by
  have hw : Region.wanted o (yielded ops a.tmps) = true := by simp [Region.wanted, hg]
  rw [if_pos hw]
  obtain ⟨v', w', hr, r2, r3, r4⟩ := run_append_off (P := P) w t tx o.type e i z ht hi hz hs1 hb1 hzs base v l h hb xv news hsrc hlen
  unfold Oper.wp execOp
  simp only [hop, resolve, invoke, builtin, Sem.run_bind, Sem.run_pure, Result.andThen_ok, List.map_toArray, List.map_cons, List.map_nil, hs, hx, hr]
  exact hK v' w' r2 r3 r4
theorem src_str {P : Program} {tx : TypeId} (hk : P.underlying tx = some .string) (r : ByteArray) (w : World) : Src P 1 tx (.string r) r.data.toList.length (byteC r.data.toList) w := by
  have h := Src.ofString (P := P) w hk r
  rw [byteC_kit] at h
  rw [show r.data.toList.length = r.size from by rw [Array.length_toList]; rfl]
  exact h
/-- for the walk, in a plain region -/
theorem wpList_append_off {P : Program} {w : World} {ops : Array Oper} {rest : List Oper} {o : Oper} {a : Act} {Q : Exit → Act → World → Prop} (hgd : o.guard = none) (s x : Operand) (t tx : TypeId)
    (ho : o.op = .call { callee := .builtin .append, args := #[s, x], argTypes := #[t, tx] })
    (e : TypeId) (i : TypeInfo) (z : Value) (ht : P.underlying t = some (.slice e)) (hi : P.info? e = some i) (hz : i.zero = some z) (hs1 : i.size = 1) (hb1 : i.bytes = 1) (hzs : z.cells.size = 1)
    (base : Nat) (v : Value) (l : List UInt8) (hs : a.eval s = v) (h : OffB w base v l) (hb : base ≤ w.heap.size) (xv : Value) (hx : a.eval x = xv) (news : List UInt8) (hsrc : Src P 1 tx xv news.length (byteC news) w) (hlen : l.length + news.length ≤ 100000000)
    (hK : ∀ v' w', OffB w' base v' (l ++ news) → w.grownBy w' v.ownBlock → (v'.ownBlock = v.ownBlock ∨ v'.ownBlock = some w.heap.size) → wpList P ops Q rest (a.put o.dst v') w') : wpList P ops Q (o :: rest) a w := by
  refine wpList_plain hgd fun K hK' => ?_
  obtain ⟨v', w', hr, r2, r3, r4⟩ := run_append_off (P := P) w t tx o.type e i z ht hi hz hs1 hb1 hzs base v l h hb xv news hsrc hlen
  unfold Oper.wp
  simp [execOp, ho, resolve, invoke, builtin, hs, hx, hr, Result.andThen]
  exact hK' _ _ (hK v' w' r2 r3 r4)
end Go.Proofs.YtgkcnocfijckoaaGreat
