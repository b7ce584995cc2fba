/- A strings.Builder, and where its bytes lie: what is written moves nothing else. Conditions: as named in each theorem. -/
import Derived.Test.YtlcpnpoleaanmaaBldUse
import Derived.Test.YtlcpnpoleaanmaaCodeNum
namespace Go.Proofs.Ytlcpnpoleaanmaa
open Go.RowKit Go.Shelf
set_option linter.unusedVariables false

theorem ownsF_mono {w : World} {base base' : Nat} {e : TypeId} {size n : Nat} {v : Value} {xs : List Value} (h : w.ownsRowF base e size v n xs) (hb : base' ≤ base) : w.ownsRowF base' e size v n xs := by
  obtain ⟨h1, h2⟩ := h
  refine ⟨h1, ?_⟩
  rcases h2 with h2 | ⟨g, cap, cur, fz, rfl, hg, r⟩
  · exact .inl h2
  · exact .inr ⟨g, cap, cur, fz, rfl, by omega, r⟩
section
variable {P : Program}
theorem run_str_at (w : World) (base : Nat) (t u ty e : TypeId) (i : TypeInfo) (ht : P.underlying t = some (.slice e)) (hu : P.underlying u = some .string) (hi : P.info? e = some i) (hz : i.zero = some (.int .u8 0))
    (hsize : i.size = 1) (hby : i.bytes = 1) (v : Value) (n : Nat) (xs : List Value) (hown : w.ownsRowF base e 1 v n xs) (s : ByteArray)
    (h63 : n + s.size ≤ maxLen) (hbytes : n + s.size ≤ 140737488355328) (hbase : base ≤ w.heap.size) :
    ∃ v' w', (Builtin.append_ #[t, u] ty #[v, .string s]).run P w = .ok v' w' ∧ w'.ownsRowF base e 1 v' (n + s.size) (xs ++ Lib.strCells s) ∧ w.grownBy w' v.ownBlock ∧
      (v'.ownBlock = v.ownBlock ∨ ∃ k, v'.ownBlock = some k ∧ w.heap.size ≤ k) := by
  have h0 := hown
  rcases hown.2 with ⟨rfl, rfl⟩ | ⟨g, cap, cur, fz, rfl, hbg, hg, hfz, hnc, hcm, hcs, htake⟩
  · have hx : xs = [] := List.eq_nil_of_length_eq_zero (by simpa using hown.1)
    subst hx
    obtain ⟨v', w', h1, h2, h3, h4⟩ := Lib.run_append_own_stringF (P := P) (w := w) w.heap.size t u ty e i ht hu hi hz hsize hby (.slice none 0 0) 0 [] ⟨rfl, .inl ⟨rfl, rfl⟩⟩ s h63 hbytes (Nat.le_refl _)
    refine ⟨v', w', h1, ownsF_mono h2 hbase, h3, ?_⟩
    rcases h2.2 with ⟨h5, _⟩ | ⟨g, cap, cur, fz, h5, hg, _⟩
    · exact .inl (by rw [h5])
    · exact .inr ⟨g, by rw [h5]; rfl, hg⟩
  · obtain ⟨v', w', h1, h2, h3, h4⟩ := Lib.run_append_own_stringF (P := P) (w := w) base t u ty e i ht hu hi hz hsize hby _ n xs h0 s h63 hbytes hbase
    refine ⟨v', w', h1, h2, h3, ?_⟩
    have hcs' : cur.size = cap := by simpa using hcs
    by_cases hroom : n + s.size ≤ cap
    · have hr := Lib.run_append_room_stringF (P := P) w t u ty e i ht hu hi hsize g n cap cur fz hg (by simpa using hfz) s hroom (by omega)
      rw [h1] at hr
      injection hr with e1 e2
      rw [e1]
      exact .inl rfl
    · have hsmall : n + s.size ≤ 9223372036854775807 := by simp only [maxLen] at h63; omega
      have hxl : xs.length = n := by simpa using h0.1
      have holds : ∀ j u, xs[j]? = some u → w.cell? ((⟨g, 0, none⟩ : Addr).add j) = some u := h0.cells (g := g) rfl
      have hr := Lib.run_append_grow_string (P := P) w t u ty e i (.int .u8 0) ht hu hi hz ⟨g, 0, none⟩ n cap xs (by rw [hsize]; simpa using hxl) holds s (by omega) (by omega) (by rw [hby]; exact growslice_fits (by omega) (by omega))
      rw [h1] at hr
      injection hr with e1 e2
      rw [e1]
      exact .inr ⟨_, rfl, Nat.le_refl _⟩
theorem wpList_str_at {ops : Array Oper} {rest : List Oper} {o : Oper} {a : Act} {w : World} {Q : Exit → Act → World → Prop} (hgd : o.guard = none) (sl x : Operand) (t u : TypeId)
    (ho : o.op = .call { callee := .builtin .append, args := #[sl, x], argTypes := #[t, u] })
    (base : Nat) (e : TypeId) (i : TypeInfo) (ht : P.underlying t = some (.slice e)) (hu : P.underlying u = some .string) (hi : P.info? e = some i) (hz : i.zero = some (.int .u8 0))
    (hsize : i.size = 1) (hby : i.bytes = 1)
    (v : Value) (n : Nat) (xs : List Value) (hs : a.eval sl = v) (hown : w.ownsRowF base e 1 v n xs) (s : ByteArray) (hx : a.eval x = .string s)
    (h63 : n + s.size ≤ maxLen) (hbytes : n + s.size ≤ 140737488355328) (hbase : base ≤ w.heap.size)
    (h : ∀ v' w', w'.ownsRowF base e 1 v' (n + s.size) (xs ++ Lib.strCells s) → w.grownBy w' v.ownBlock → (v'.ownBlock = v.ownBlock ∨ ∃ k, v'.ownBlock = some k ∧ w.heap.size ≤ k) → wpList P ops Q rest (a.put o.dst v') w') : wpList P ops Q (o :: rest) a w := by
  refine wpList_plain hgd fun K hK => ?_
  obtain ⟨v', w', hr, h2, h3, h4⟩ := run_str_at (P := P) w base t u o.type e i ht hu hi hz hsize hby v n xs hown s h63 hbytes hbase
  unfold Oper.wp execOp
  simp only [ho, resolve, invoke, builtin, Sem.run_bind, Sem.run_pure, Result.andThen_ok, List.map_toArray, List.map_cons, List.map_nil, hs, hx, hr]
  exact hK _ _ (h v' w' h2 h3 h4)
end

/-- the builder at b holds these bytes, in the block r -/
def BldR (B b : Nat) (l : List UInt8) (w : World) (r : Option Nat) : Prop :=
  B ≤ b ∧ ∃ p v, (p = Value.pointer none ∨ p = Value.pointer (some ⟨b, 0, none⟩)) ∧ w.heap[b]? = some (.cells #[p, v] 81 (0, 0)) ∧ w.ownsRowF B 5 1 v l.length (Lib.byteCells l) ∧ v.ownBlock = r ∧ r ≠ some b
theorem BldR.bld {B b : Nat} {l : List UInt8} {w : World} {r : Option Nat} (h : BldR B b l w r) : Bld B b l w := by
  obtain ⟨h1, p, v, hp, hb, ho, rfl, hn⟩ := h
  have : (Lib.byteCells l).length = l.length := Lib.byteCells_length l
  rcases hp with rfl | rfl
  · exact .inl ⟨h1, v, hb, by rw [this]; exact ho, hn⟩
  · exact .inr ⟨h1, v, hb, by rw [this]; exact ho, hn⟩
theorem Bld.row {B b : Nat} {l : List UInt8} {w : World} (h : Bld B b l w) : ∃ r, BldR B b l w r := by
  have : (Lib.byteCells l).length = l.length := Lib.byteCells_length l
  rcases h with ⟨h1, v, hb, ho, hn⟩ | ⟨h1, v, hb, ho, hn⟩
  · exact ⟨_, h1, _, v, .inl rfl, hb, by rw [← this]; exact ho, rfl, hn⟩
  · exact ⟨_, h1, _, v, .inr rfl, hb, by rw [← this]; exact ho, rfl, hn⟩
theorem BldR.lt {B b : Nat} {l : List UInt8} {w : World} {r : Option Nat} (h : BldR B b l w r) : b < w.heap.size ∧ ∀ k, r = some k → k < w.heap.size ∧ B ≤ k := by
  obtain ⟨h1, p, v, hp, hb, ho, rfl, hn⟩ := h
  refine ⟨(Array.getElem?_eq_some_iff.1 hb).1, fun k hk => ⟨ownsF_lt ho hk, (ho.lt k hk).1⟩⟩
theorem BldR.next {B b : Nat} {l : List UInt8} {w w' : World} {r : Option Nat} (h : BldR B b l w r) (hb : ∀ k, k < w.heap.size → w'.heap[k]? = w.heap[k]?) : BldR B b l w' r := by
  have hl := h.lt
  obtain ⟨h1, p, v, hp, hb2, ho, rfl, hn⟩ := h
  exact ⟨h1, p, v, hp, (hb b hl.1).trans hb2, ownsF_block ho (fun k hk => hb k (ownsF_lt ho hk)), rfl, hn⟩
theorem BldR.below {B b : Nat} {l : List UInt8} {w w' : World} {r : Option Nat} (h : BldR B b l w r) (hb : Below w.heap.size w w') : BldR B b l w' r := h.next hb.block
/-- the two blocks of a builder -/
def TB (b : Nat) (r : Option Nat) (k : Nat) : Prop := k = b ∨ some k = r
def RowOn (w : World) (r r' : Option Nat) : Prop := r' = r ∨ ∃ k, r' = some k ∧ w.heap.size ≤ k

theorem shCheck : Lays.n240 Try.prog shWrite_ren := { shWrite with }
theorem infoB1 : (Try.prog.info? 5).map (fun i => (i.zero, i.size, i.bytes)) = some (some (.int .u8 0), 1, 1) := by kernel_rfl

set_option maxRecDepth 100000 in
set_option maxHeartbeats 1000000 in
theorem write_row (B b : Nat) (l : List UInt8) (s : ByteArray) (w : World) (r : Option Nat) (h : BldR B b l w r) (hlen : l.length + s.size ≤ 140737488355328) (hBw : B ≤ w.heap.size) :
    Calls Try.prog 54 #[.pointer (some ⟨b, 0, none⟩), .string s] w fun e w' => e = .returned (.tuple #[.int .i64 s.size, .nilIface]) ∧ ∃ r', RowOn w r r' ∧ BldR B b (l ++ s.data.toList) w' r' ∧ Kept (TB b r) w w' := by
  obtain ⟨i0, hi, hz0, hz1, hz2⟩ := info_parts infoB1
  have hlt := h.lt
  obtain ⟨h1, p, v, hp, hb, ho, hv, hn⟩ := h
  -- behind the check
  have key : ∃ w1, BldR B b l w1 r ∧ w1.heap[b]? = some (.cells #[.pointer (some ⟨b, 0, none⟩), v] 81 (0, 0)) ∧ w1.ownsRowF B 5 1 v l.length (Lib.byteCells l) ∧ Kept (TB b r) w w1 ∧ w1.heap.size = w.heap.size ∧
      Calls Try.prog 73 #[.pointer (some ⟨b, 0, none⟩)] w fun e w' => e = .returned (.tuple #[]) ∧ w1 = w' := by
    rcases hp with rfl | rfl
    · have hB : Lib.BuilderAtF 81 5 B b (.pointer none) (Lib.byteCells l) w := ⟨h1, v, hb, by rw [Lib.byteCells_length]; exact ho, by rw [hv]; exact hn⟩
      have hU := hB.used (.pointer (some ⟨b, 0, none⟩))
      obtain ⟨u1, v1, u2, u3, u4⟩ := hU
      have hk : Kept (TB b r) w (w.setCell ⟨b, 0, none⟩ (.pointer (some ⟨b, 0, none⟩))) := (Kept.refl _ w).set (.inl rfl) 0 _
      have ev : v1 = v := by
        have e2 : (w.setCell ⟨b, 0, none⟩ (.pointer (some ⟨b, 0, none⟩))).heap[b]? = some (.cells #[.pointer (some ⟨b, 0, none⟩), v] 81 (0, 0)) := by
          simp [World.setCell, Array.getElem?_modify, hb]
        rw [e2] at u2
        simp at u2
        exact u2.symm
      subst ev
      rw [Lib.byteCells_length] at u3
      refine ⟨_, ⟨h1, _, v1, .inr rfl, u2, u3, hv, hn⟩, u2, u3, hk, by simp, ?_⟩
      exact (Any.Builder_copyCheck_fresh shCheck shWriteX.toX72 b w hB.cell0 hB.shape hB.frozen0).mono fun e w' ⟨a, c⟩ => ⟨a, c.symm⟩
    · have hB : Lib.BuilderAtF 81 5 B b (.pointer (some ⟨b, 0, none⟩)) (Lib.byteCells l) w := ⟨h1, v, hb, by rw [Lib.byteCells_length]; exact ho, by rw [hv]; exact hn⟩
      refine ⟨w, ⟨h1, _, v, .inr rfl, hb, ho, hv, hn⟩, hb, ho, Kept.refl _ _, rfl, ?_⟩
      exact (Any.Builder_copyCheck_used shCheck shWriteX.toX72 b w hB.cell0).mono fun e w' ⟨a, c⟩ => ⟨a, c.symm⟩
  obtain ⟨w1, hR1, hb1, ho1, hk1, hs1, hcall⟩ := key
  have HR1 := Lib.hid hR1
  have HB1 := Lib.hid hb1
  have HK1 := Lib.hid hk1
  have HC := Lib.hid hcall
  have HV := Lib.hid hv
  have HN := Lib.hid hn
  have HLT := Lib.hid hlt
  have HS1 := Lib.hid hs1
  have c0 : w1.cell? ⟨b, 0, none⟩ = some (.pointer (some ⟨b, 0, none⟩)) := by rw [Lib.cell_of_heap hb1]; rfl
  have c1 : w1.cell? ⟨b, 1, none⟩ = some v := by rw [Lib.cell_of_heap hb1]; rfl
  have hBw1 : B ≤ w1.heap.size := by rw [hs1]; exact hBw
  clear hp hb ho hR1 hb1 hk1 hcall hs1 hv hn hlt
  go_enter Try.func54, Try.ntmps54
  go_wp2_with fail
  refine HC.out.mono ?_
  rintro e w2 ⟨rfl, rfl⟩
  go_wp2_with (at_builtin; refine wpList_str_at rfl _ _ 45 9 rfl B 5 i0 Try.underlying45 Try.underlying9 hi hz0 hz1 hz2 v l.length (Lib.byteCells l) rfl ho1 s rfl (by unfold maxLen; omega) (by omega) hBw1 ?_)
  intro v' w3 hO3 hg3 hat
  have hlt := HLT.out
  have hb2 : w3.heap[b]? = some (.cells #[.pointer (some ⟨b, 0, none⟩), v] 81 (0, 0)) := by
    rw [hg3.block b (by rw [HS1.out]; exact hlt.1) (fun e => by rw [HV.out] at e; exact HN.out e.symm)]
    exact HB1.out
  have d1 : w3.cell? ⟨b, 1, none⟩ = some v := by rw [Lib.cell_of_heap hb2]; rfl
  have f1 : w3.frozen? ⟨b, 1, none⟩ = false := Lib.frozen_of_heap hb2 1
  have hsl : ∃ ao n' cap, v' = .slice ao n' cap := by
    rcases hO3.2 with ⟨hv, _⟩ | ⟨g, cap, cur, fz, hv, _⟩
    · exact ⟨_, _, _, hv⟩
    · exact ⟨_, _, _, hv⟩
  obtain ⟨ao, n', cap, rfl⟩ := hsl
  have HK3 : Hid (Kept (TB b r) w w3) := by
    refine Lib.hid (HK1.out.trans (Kept.of_grown hg3) ?_)
    intro i hi e
    exact .inr (by rw [← HV.out]; exact e.symm)
  have HO3 := Lib.hid hO3
  have HB2 := Lib.hid hb2
  have HAT := Lib.hid hat
  clear hO3 hg3 hb2 hat hlt ho1
  go_wp2
  go_ret2
  have hput := Lib.BuilderAtF.put (T := 81) (e := 5) h1 HB2.out (v' := .slice ao n' cap) (bs' := Lib.byteCells (l ++ s.data.toList)) (by
    rw [Lib.byteCells_length, List.length_append, Lib.byteCells_append, ← strCells_eq, show s.data.toList.length = s.size by rw [Array.length_toList]; rfl]
    exact HO3.out) (by decide)
  obtain ⟨q1, v2, q2, q3, q4⟩ := hput
  have ev : v2 = .slice ao n' cap := by
    have e2 : (w3.setCell ⟨b, 1, none⟩ (.slice ao n' cap)).heap[b]? = some (.cells #[.pointer (some ⟨b, 0, none⟩), .slice ao n' cap] 81 (0, 0)) := by
      simp [World.setCell, Array.getElem?_modify, HB2.out]
    rw [e2] at q2
    simp at q2
    exact q2.symm
  subst ev
  rw [Lib.byteCells_length] at q3
  refine ⟨rfl, _, ?_, ⟨h1, _, _, .inr rfl, q2, q3, rfl, q4⟩, HK3.out.set (.inl rfl) 1 _⟩
  rcases HAT.out with e | ⟨k, e, hk⟩
  · exact .inl (by rw [e, HV.out])
  · exact .inr ⟨k, e, by rw [← HS1.out]; exact hk⟩
theorem BldR.fresh (w : World) : BldR w.heap.size w.heap.size [] (w.alloc (.cells #[.pointer none, .slice none 0 0] 81)) none := by
  refine ⟨Nat.le_refl _, _, _, .inl rfl, heap_alloc_new w _, ⟨rfl, .inl ⟨rfl, rfl⟩⟩, rfl, by simp⟩
end Go.Proofs.Ytlcpnpoleaanmaa
