/- A message's bytes: the program's body. Conditions: the message may be. -/
import Derived.Test.YtlcpnpoleaanmaaBldRow
import Derived.Test.YtlcpnpoleaanmaaMsgRight
import Derived.Laws.IdiomStrings
namespace Go.Proofs.Ytlcpnpoleaanmaa
open Go.RowKit
set_option linter.unusedVariables false

theorem TB.ge {B b : Nat} {l : List UInt8} {w : World} {r : Option Nat} (h : BldR B b l w r) : ∀ k, k < B → ¬ TB b r k := by
  intro k hk e
  rcases e with e | e
  · have := h.1; omega
  · have := (h.lt.2 k e.symm).2; omega
/-- the builder, and blocks that lie apart of it -/
def LSt (B b : Nat) (l : List UInt8) (w : World) (F : List (Nat × Obj)) : Prop := ∃ r, BldR B b l w r ∧ ∀ x ∈ F, r ≠ some x.1 ∧ x.1 ≠ b ∧ w.heap[x.1]? = some x.2
theorem LSt.next {B b : Nat} {l : List UInt8} {w w' : World} {F : List (Nat × Obj)} (h : LSt B b l w F) (hb : Below w.heap.size w w') : LSt B b l w' F := by
  obtain ⟨r, h1, h2⟩ := h
  exact ⟨r, h1.below hb, fun x hx => ⟨(h2 x hx).1, (h2 x hx).2.1, (hb.block x.1 (Array.getElem?_eq_some_iff.1 (h2 x hx).2.2).1).trans (h2 x hx).2.2⟩⟩
theorem LSt.lt {B b : Nat} {l : List UInt8} {w : World} {F : List (Nat × Obj)} (h : LSt B b l w F) : b < w.heap.size ∧ B ≤ b := by
  obtain ⟨r, h1, h2⟩ := h
  exact ⟨h1.lt.1, h1.1⟩
theorem LSt.drop {B b : Nat} {l : List UInt8} {w : World} {x : Nat × Obj} {F : List (Nat × Obj)} (h : LSt B b l w (x :: F)) : LSt B b l w F := by
  obtain ⟨r, h1, h2⟩ := h
  exact ⟨r, h1, fun y hy => h2 y (by simp [hy])⟩
theorem LSt.head {B b : Nat} {l : List UInt8} {w : World} {p : Nat} {o : Obj} {F : List (Nat × Obj)} (h : LSt B b l w ((p, o) :: F)) : w.heap[p]? = some o := by
  obtain ⟨r, h1, h2⟩ := h
  exact (h2 (p, o) (by simp)).2.2
theorem LSt.add {B b : Nat} {l : List UInt8} {w w' : World} {F : List (Nat × Obj)} {o : Obj} (h : LSt B b l w F) (hb : Below w.heap.size w w') (ho : w'.heap[w.heap.size]? = some o) : LSt B b l w' ((w.heap.size, o) :: F) := by
  obtain ⟨r, h1, h2⟩ := h.next hb
  have hlt := h.lt
  obtain ⟨r0, g1, g2⟩ := h
  refine ⟨r0, g1.below hb, fun x hx => ?_⟩
  rcases List.mem_cons.1 hx with rfl | hx
  · refine ⟨fun e => ?_, ?_, ho⟩
    · have := (g1.lt.2 _ e).1; simp at this
    · simp only; omega
  · exact ⟨(g2 x hx).1, (g2 x hx).2.1, (hb.block x.1 (Array.getElem?_eq_some_iff.1 (g2 x hx).2.2).1).trans (g2 x hx).2.2⟩
theorem LSt.of {B b : Nat} {l : List UInt8} {w : World} (h : Bld B b l w) : LSt B b l w [] := by
  obtain ⟨r, hr⟩ := h.row
  exact ⟨r, hr, fun x hx => by cases hx⟩
theorem LSt.bld {B b : Nat} {l : List UInt8} {w : World} {F : List (Nat × Obj)} (h : LSt B b l w F) : Bld B b l w := by
  obtain ⟨r, hr, _⟩ := h
  exact hr.bld
theorem write_l (B b : Nat) (l : List UInt8) (F : List (Nat × Obj)) (s : ByteArray) (w : World) (h : LSt B b l w F) (hlen : l.length + s.size ≤ 140737488355328) (hBw : B ≤ w.heap.size) :
    Calls Try.prog 54 #[.pointer (some ⟨b, 0, none⟩), .string s] w fun e w' => e = .returned (.tuple #[.int .i64 s.size, .nilIface]) ∧ LSt B b (l ++ s.data.toList) w' F ∧ Below B w w' := by
  obtain ⟨r, h1, h2⟩ := h
  refine (write_row B b l s w r h1 hlen hBw).mono ?_
  rintro e w' ⟨he, r', hr, hR, hk⟩
  refine ⟨he, ⟨r', hR, fun x hx => ?_⟩, hk.below (Below.refl _ _) hBw (TB.ge h1)⟩
  obtain ⟨a1, a2, a3⟩ := h2 x hx
  have hlt := (Array.getElem?_eq_some_iff.1 a3).1
  refine ⟨?_, a2, ?_⟩
  · rcases hr with rfl | ⟨k, rfl, hk2⟩
    · exact a1
    · intro e2; injection e2 with e2; omega
  · rw [hk.block x.1 hlt (by rintro (e2 | e2); exact a2 e2; exact a1 e2.symm)]
    exact a3
theorem bnum_l (B b : Nat) (l : List UInt8) (F : List (Nat × Obj)) (n : Int) (w : World) (h0 : 0 ≤ n) (h1 : n ≤ 4611686018427387903) (h : LSt B b l w F) (hlen : l.length ≤ 100000000) (hBw : B ≤ w.heap.size) :
    Calls Try.prog 52 #[.int .i64 n, .pointer (some ⟨b, 0, none⟩)] w fun e w' => e = .returned (.tuple #[]) ∧ LSt B b (l ++ numL n.toNat) w' F ∧ Below B w w' := by
  obtain ⟨N, rfl⟩ : ∃ N : Nat, n = N := ⟨n.toNat, by omega⟩
  have hN : N ≤ 4611686018427387903 := by omega
  have h9 : (numBs N).size ≤ 9 := by rw [numBs_size]; exact numL_le9 N hN
  have HH := Lib.hid h
  clear h h0 h1
  go_enter Try.func52, Try.ntmps52
  go_wp2_with fail
  refine (num_any N w hN).mono ?_
  rintro e w1 ⟨rfl, hb1⟩
  have HB1 := Lib.hid hb1
  have HH1 := Lib.hid (HH.out.next hb1)
  have hBw1 : B ≤ w1.heap.size := Nat.le_trans hBw hb1.size
  clear hb1
  go_wp2_with fail
  refine (write_l B b l F (numBs N) w1 HH1.out (by omega) hBw1).mono ?_
  rintro e w2 ⟨rfl, h2, hb2⟩
  have HF := Lib.hid (And.intro h2 ((HB1.out.mono hBw).trans hb2))
  clear h2 hb2
  go_wp2
  go_end0
  exact ⟨rfl, HF.out.1, HF.out.2⟩
theorem bnum_b (B b : Nat) (l : List UInt8) (n : Int) (w : World) (h0 : 0 ≤ n) (h1 : n ≤ 4611686018427387903) (h : Bld B b l w) (hlen : l.length ≤ 100000000) (hBw : B ≤ w.heap.size) :
    Calls Try.prog 52 #[.int .i64 n, .pointer (some ⟨b, 0, none⟩)] w fun e w' => e = .returned (.tuple #[]) ∧ Bld B b (l ++ numL n.toNat) w' ∧ Below B w w' := by
  obtain ⟨N, rfl⟩ : ∃ N : Nat, n = N := ⟨n.toNat, by omega⟩
  have hN : N ≤ 4611686018427387903 := by omega
  have h9 : (numBs N).size ≤ 9 := by rw [numBs_size]; exact numL_le9 N hN
  have HH := Lib.hid h
  clear h h0 h1
  go_enter Try.func52, Try.ntmps52
  go_wp2_with fail
  refine (num_any N w hN).mono ?_
  rintro e w1 ⟨rfl, hb1⟩
  have HB1 := Lib.hid hb1
  have HH1 := Lib.hid (HH.out.next hb1)
  have hBw1 : B ≤ w1.heap.size := Nat.le_trans hBw hb1.size
  clear hb1
  go_wp2_with fail
  refine (write_any B b l (numBs N) w1 HH1.out (by omega) hBw1).mono ?_
  rintro e w2 ⟨rfl, h2, hb2, _⟩
  have HF := Lib.hid (And.intro h2 ((HB1.out.mono hBw).trans hb2))
  clear h2 hb2
  go_wp2
  go_end0
  exact ⟨rfl, HF.out.1, HF.out.2⟩

theorem letters_run (w : World) (s : ByteArray) : ∃ (cap : Nat) (C : Array Value) (fz : Nat × Nat), s.size ≤ cap ∧
    (convert 9 45 (.string s)).run Try.prog w = .ok (.slice (some ⟨w.heap.size, 0, none⟩) s.size cap) (w.drew.alloc (.cells C 5 fz)) ∧ ∀ (j : Nat) (c : UInt8), s.data.toList[j]? = some c → C[j]? = some (Value.int .u8 (c.toNat : Nat)) := by
  refine ⟨_, _, _, grownCap_ge w s.size 0 _, run_bytes_of_string w _ _ _ s Try.underlying9 Try.underlying45 Try.underlying5, fun j c hj => ?_⟩
  have hj2 : j < s.data.size := by
    have := (List.getElem?_eq_some_iff.1 hj).1
    simpa using this
  rw [bytesRow_at s _ j hj2]
  have : s.data[j] = c := by
    have h2 := (List.getElem?_eq_some_iff.1 hj).2
    simpa using h2
  rw [this]
theorem cell_heap {w : World} {L : Nat} {C : Array Value} {T : TypeId} {fz : Nat × Nat} (h : w.heap[L]? = some (.cells C T fz)) {i : Nat} {v : Value} (hv : C[i]? = some v) : w.cell? ⟨L, i, none⟩ = some v := by
  simp [World.cell?, h, hv]

/-! how long it is -/
theorem dlen (s : ByteArray) : s.data.toList.length = s.size := by rw [Array.length_toList]; rfl
theorem en_bd {x : En} (h : enOk x) : (enL x).length ≤ 50 := by
  obtain ⟨h1, h2, h3, h4, h5⟩ := h
  unfold enL
  have a := numL_le9 x.gen.toNat (by omega)
  have b := numL_le9 x.ballot.toNat (by omega)
  rw [List.length_append, List.length_append, dlen]
  omega
theorem ens_bd : ∀ (l : List En), (∀ x ∈ l, enOk x) → (l.flatMap enL).length ≤ 50 * l.length
  | [], _ => by simp
  | x :: l, h => by
    have a := en_bd (h x (by simp))
    have b := ens_bd l (fun y hy => h y (by simp [hy]))
    rw [List.flatMap_cons, List.length_append, List.length_cons]
    omega
theorem fld_num {m : Mg} (h : okNums m) (c : UInt8) (hc : c ∈ flds m.kind) (h1 : c ≠ 77) (h2 : c ≠ 80) (h3 : c ≠ 76) : 0 ≤ numM m c ∧ numM m c ≤ 4611686018427387903 := by
  obtain ⟨n1, n2, n3, n4, n5, n6⟩ := h
  rcases nine_cases (flds_nine m.kind c hc) with rfl | rfl | rfl | rfl | rfl | rfl | rfl | rfl | rfl
  · exact okNum_yes n1 hc
  · exact okNum_yes n2 hc
  · exact okNum_yes n3 hc
  · exact okNum_yes n4 hc
  · exact okNum_yes n5 hc
  · exact okNum_yes n6 hc
  · exact absurd rfl h1
  · exact absurd rfl h2
  · exact absurd rfl h3
theorem fld_bd {m : Mg} (h : rightM m) (c : UInt8) (hc : c ∈ flds m.kind) : (fldL m c).length ≤ 4000 := by
  obtain ⟨h1, h2, h3, h4, h5⟩ := h
  unfold fldL
  split
  · rename_i e
    subst e
    have : m.mark.size = 32 := h3.1 (by simpa [hasF] using hc)
    rw [dlen]; omega
  · rename_i e1
    split
    · rename_i e
      subst e
      obtain ⟨p1, p2, p3, p4, p5⟩ := h4.1 (by simpa [hasF] using hc)
      have a := numL_le9 m.pat.toNat (by omega)
      have b := numL_le9 m.pof.toNat (by omega)
      have d := numL_le9 m.ptext.size (by omega)
      simp only [List.length_append, dlen]
      omega
    · rename_i e2
      split
      · rename_i e
        subst e
        obtain ⟨p1, p2⟩ := okList_mem h5 hc
        have a := numL_le9 m.list.length (by omega)
        have b := ens_bd m.list p2
        rw [List.length_append]
        omega
      · rename_i e3
        have := fld_num h2 c hc e1 e2 e3
        have a := numL_le9 (numM m c).toNat (by omega)
        omega
theorem flds_bd {m : Mg} (h : rightM m) : ∀ (L : List UInt8), (∀ c ∈ L, c ∈ flds m.kind) → (L.flatMap (fldL m)).length ≤ 4000 * L.length
  | [], _ => by simp
  | c :: L, hc => by
    have a := fld_bd h c (hc c (by simp))
    have b := flds_bd h L (fun d hd => hc d (by simp [hd]))
    rw [List.flatMap_cons, List.length_append, List.length_cons]
    omega
theorem head_bd {m : Mg} (h : okHead m) : (headL m).length ≤ 27 := by
  have hk := flds_kind h.1
  obtain ⟨_, a1, a2, a3, a4⟩ := h
  unfold headL
  have a := numL_le9 m.kind.toNat (by omega)
  have b := numL_le9 m.src.toNat (by omega)
  have c := numL_le9 m.dst.toNat (by omega)
  simp only [List.length_append]
  omega
def pre (m : Mg) (k : Nat) : List UInt8 := headL m ++ ((flds m.kind).take k).flatMap (fldL m)
theorem pre_bd {m : Mg} (h : rightM m) (k : Nat) : (pre m k).length ≤ 30000 := by
  have a := head_bd h.1
  have b := flds_bd h ((flds m.kind).take k) (fun c hc => List.mem_of_mem_take hc)
  have c := flds_len m.kind
  have d : ((flds m.kind).take k).length ≤ (flds m.kind).length := by rw [List.length_take]; omega
  unfold pre
  rw [List.length_append]
  omega
theorem pre_succ (m : Mg) (k : Nat) (c : UInt8) (h : (flds m.kind)[k]? = some c) : pre m (k + 1) = pre m k ++ fldL m c := by
  obtain ⟨hk, rfl⟩ := List.getElem?_eq_some_iff.1 h
  unfold pre
  rw [List.take_succ_eq_append_getElem hk, List.flatMap_append, ← List.append_assoc]
  simp
theorem pre_all (m : Mg) : pre m (flds m.kind).length = bodyL m := by unfold pre bodyL; rw [List.take_length]
end Go.Proofs.Ytlcpnpoleaanmaa
