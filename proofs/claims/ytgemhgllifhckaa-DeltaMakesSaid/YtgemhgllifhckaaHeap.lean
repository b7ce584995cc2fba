/- Small facts on blocks known whole, and on worlds that part in one block. No conditions. -/
import Derived.WalkKit
import Derived.Deep.Draws
import Derived.Deep.OwnShut
import Derived.Lib.Hide
import Derived.Deep.QuietTactic
import Derived.WalkSpells
import Derived.WalkLawsBesides
namespace Go.Proofs.Ytgemhgllifhckaa
open Go.RowKit

/-- block p holds just these cells, none of them frozen -/
def Blk (w : World) (p : Nat) (cs : List Value) (t : TypeId) : Prop := w.heap[p]? = some (.cells cs.toArray t (0, 0))

theorem Blk.cell {w : World} {p : Nat} {cs : List Value} {t : TypeId} (h : Blk w p cs t) {i : Nat} {v : Value} (hv : cs[i]? = some v) : w.cell? ⟨p, i, none⟩ = some v := by
  unfold Blk at h
  simp [World.cell?, h, hv]
theorem Blk.frozen {w : World} {p : Nat} {cs : List Value} {t : TypeId} (h : Blk w p cs t) (i : Nat) : w.frozen? ⟨p, i, none⟩ = false := by
  unfold Blk at h
  simp [World.frozen?, h]
theorem Blk.lt {w : World} {p : Nat} {cs : List Value} {t : TypeId} (h : Blk w p cs t) : p < w.heap.size := (Array.getElem?_eq_some_iff.1 h).1
theorem Blk.set {w : World} {p : Nat} {cs : List Value} {t : TypeId} (h : Blk w p cs t) (i : Nat) (v : Value) : Blk (w.setCell ⟨p, i, none⟩ v) p (cs.set i v) t := by
  unfold Blk at h ⊢
  simp only [World.setCell, Array.getElem?_modify, h, if_true, Option.map_some]
  simp
theorem Blk.setOther {w : World} {p : Nat} {cs : List Value} {t : TypeId} (h : Blk w p cs t) {a : Addr} (ha : p ≠ a.block) (v : Value) : Blk (w.setCell a v) p cs t := by
  unfold Blk at h ⊢
  rw [Below.heap_setCell _ _ _ _ ha]; exact h
theorem Blk.drewN {w : World} {p : Nat} {cs : List Value} {t : TypeId} (h : Blk w p cs t) (n : Nat) : Blk (w.drewN n) p cs t := h
theorem Blk.drew {w : World} {p : Nat} {cs : List Value} {t : TypeId} (h : Blk w p cs t) : Blk w.drew p cs t := h
theorem Blk.alloc {w : World} {p : Nat} {cs : List Value} {t : TypeId} (h : Blk w p cs t) (o : Obj) : Blk (w.alloc o) p cs t := by
  unfold Blk at h ⊢
  rw [Below.heap_alloc _ _ _ (Blk.lt h)]; exact h
theorem Blk.new (w : World) (cs : List Value) (t : TypeId) : Blk (w.alloc (.cells cs.toArray t)) w.heap.size cs t := by
  unfold Blk
  show (w.heap.push _)[w.heap.size]? = _
  simp
theorem Blk.grown {w w' : World} {p : Nat} {cs : List Value} {t : TypeId} (h : Blk w p cs t) {row : Option Nat} (hg : w.grownBy w' row) (hne : some p ≠ row) : Blk w' p cs t := by
  unfold Blk at h ⊢
  rw [hg.block p (Blk.lt h) hne]; exact h
theorem Blk.below {w w' : World} {p : Nat} {cs : List Value} {t : TypeId} (h : Blk w p cs t) {B : Nat} (hb : Below B w w') (hp : p < B) : Blk w' p cs t := by
  unfold Blk at h ⊢
  rw [hb.block p hp]; exact h

theorem grown_refl (w : World) (row : Option Nat) : w.grownBy w row := ⟨rfl, rfl, rfl, Nat.le_refl _, fun _ _ _ => rfl⟩
theorem grown_drewN {w w' : World} {row : Option Nat} (h : w.grownBy w' row) (n : Nat) : w.grownBy (w'.drewN n) row := ⟨h.os, h.tape, h.output, h.size, h.block⟩
theorem grown_drew {w w' : World} {row : Option Nat} (h : w.grownBy w' row) : w.grownBy w'.drew row := ⟨h.os, h.tape, h.output, h.size, h.block⟩
theorem grown_set {w w' : World} {p : Nat} (h : w.grownBy w' (some p)) (i : Nat) (v : Value) : w.grownBy (w'.setCell ⟨p, i, none⟩ v) (some p) := by
  refine ⟨h.os, h.tape, h.output, by simpa using h.size, fun k hk hne => ?_⟩
  rw [Below.heap_setCell _ _ _ _ (by intro e; exact hne (by rw [e]))]
  exact h.block k hk hne
theorem grown_alloc {w w' : World} {row : Option Nat} (h : w.grownBy w' row) (o : Obj) : w.grownBy (w'.alloc o) row := by
  refine ⟨h.os, h.tape, h.output, by simp; have := h.size; omega, fun k hk hne => ?_⟩
  rw [Below.heap_alloc _ _ _ (by have := h.size; omega)]
  exact h.block k hk hne
theorem grown_trans {a b c : World} {row : Option Nat} (h : a.grownBy b row) (k : b.grownBy c row) : a.grownBy c row :=
  ⟨k.os.trans h.os, k.tape.trans h.tape, k.output.trans h.output, Nat.le_trans h.size k.size, fun i hi hne => (k.block i (by have := h.size; omega) hne).trans (h.block i hi hne)⟩
theorem grown_below {w w' : World} {row : Option Nat} (h : w.grownBy w' row) (B : Nat) (hB : B ≤ w.heap.size) (hr : ∀ k, row = some k → B ≤ k) : Below B w w' :=
  (Below.refl B w).grown h hB hr
theorem below_grown {w w' : World} (h : Below w.heap.size w w') (row : Option Nat) : w.grownBy w' row := ⟨h.os, h.tape, h.output, h.size, fun k hk _ => h.block k hk⟩
theorem below_drewN' {B : Nat} {a w : World} (h : Below B a w) (n : Nat) : Below B a (w.drewN n) := ⟨h.os, h.tape, h.output, h.size, h.block⟩

theorem ret_v {a b : Value} (h : a = b) : Ending.returned a = .returned b := by rw [h]
theorem int_v {k : IntKind} {a b : Int} (h : a = b) : Value.int k a = .int k b := by rw [h]
theorem quiet_eq {P : Program} {f : FuncId} {args : Array Value} {w : World} {n : Nat} {v : Value}
    (h : Calls P f args (w.drewN n) fun e w' => e = .returned v ∧ w.drewN n = w') : Calls P f args (w.drewN n) fun e w'' => e = .returned v ∧ ∃ m, w'' = w.drewN m :=
  h.mono fun _ _ ⟨he, hm⟩ => ⟨he, n, hm.symm⟩

/-- a slice of n elements of 'size' cells each that reads as f, cell by cell -/
def RowV (w : World) (v : Value) (n size : Nat) (f : Nat → Value) : Prop :=
  (n = 0 ∧ ∃ ao cap, v = .slice ao 0 cap) ∨ (∃ b off cap, v = .slice (some ⟨b, off, none⟩) n cap ∧ ∀ j, j < n * size → w.cell? ⟨b, off + j, none⟩ = some (f j))
theorem RowV.drewN {w : World} {v : Value} {n size : Nat} {f : Nat → Value} (h : RowV w v n size f) (m : Nat) : RowV (w.drewN m) v n size f := h
theorem RowV.congr {w : World} {v : Value} {n size : Nat} {f g : Nat → Value} (h : RowV w v n size f) (hg : ∀ j, j < n * size → f j = g j) : RowV w v n size g := by
  rcases h with h | ⟨b, off, cap, hv, hc⟩
  · exact .inl h
  · exact .inr ⟨b, off, cap, hv, fun j hj => by rw [hc j hj, hg j hj]⟩
theorem RowV.of_owns {w : World} {base : Nat} {e : TypeId} {size : Nat} {v : Value} {n : Nat} {xs : List Value} (h : w.ownsRow base e size v n xs) : RowV w v n size (fun j => xs.getD j undef) := by
  have h0 := h
  obtain ⟨h1, h2⟩ := h
  rcases h2 with ⟨rfl, rfl⟩ | ⟨g, cap, cur, rfl, hg, hh, r⟩
  · exact .inl ⟨rfl, none, 0, rfl⟩
  · refine .inr ⟨g, 0, cap, rfl, fun j hj => ?_⟩
    have hx : xs[j]? = some (xs.getD j undef) := by rw [List.getD_eq_getElem?_getD, List.getElem?_eq_getElem (by omega)]; rfl
    have hc := World.ownsRow.cells h0 (g := g) rfl j _ hx
    have hadd : (⟨g, 0, none⟩ : Addr).add j = ⟨g, 0 + j, none⟩ := by unfold Addr.add; split <;> simp_all
    rw [hadd] at hc
    exact hc
theorem RowV.below {w w' : World} {v : Value} {n size : Nat} {f : Nat → Value} (h : RowV w v n size f) (hb : Below w.heap.size w w') : RowV w' v n size f := by
  rcases h with h | ⟨b, off, cap, hv, hc⟩
  · exact .inl h
  · exact .inr ⟨b, off, cap, hv, fun j hj => by rw [hb.cell (p := ⟨b, off + j, none⟩) (World.block_lt_of_cell? w _ (hc j hj))]; exact hc j hj⟩
theorem RowV.grown {w w' : World} {v : Value} {n size : Nat} {f : Nat → Value} (h : RowV w v n size f) {row : Option Nat} (hg : w.grownBy w' row) (hne : v.ownBlock = none ∨ v.ownBlock ≠ row) : RowV w' v n size f := by
  rcases h with h | ⟨b, off, cap, hv, hc⟩
  · exact .inl h
  · refine .inr ⟨b, off, cap, hv, fun j hj => hg.cell (hc j hj) ?_⟩
    subst hv
    simpa [Value.ownBlock] using hne
theorem owns_new1 (w : World) (x : Value) (e : TypeId) (base : Nat) (hb : base ≤ w.heap.size) : (w.alloc (.cells #[x] e)).ownsRow base e 1 (.slice (some ⟨w.heap.size, 0, none⟩) 1 1) 1 [x] := by
  refine ⟨rfl, .inr ⟨w.heap.size, 1, #[x], rfl, hb, heap_alloc_new w _, Nat.le_refl _, by decide, rfl, rfl⟩⟩
theorem owns_mono {w : World} {base base' : Nat} {e : TypeId} {size : Nat} {v : Value} {n : Nat} {xs : List Value} (h : w.ownsRow base e size v n xs) (hb : base' ≤ base) : w.ownsRow base' e size v n xs := by
  obtain ⟨h1, h2⟩ := h
  refine ⟨h1, ?_⟩
  rcases h2 with h2 | ⟨g, cap, cur, hv, hg, r⟩
  · exact .inl h2
  · exact .inr ⟨g, cap, cur, hv, by omega, r⟩
theorem owns_ne {w : World} {base : Nat} {e : TypeId} {size : Nat} {v : Value} {n : Nat} {xs : List Value} (h : w.ownsRow base e size v n xs) {p : Nat} (hp : p < base) : v.ownBlock ≠ some p := by
  intro e'
  have := World.ownsRow.lt h p e'
  omega
theorem cell1_new (w : World) (x : Value) (e : TypeId) : ∀ j u, [x][j]? = some u → (w.alloc (.cells #[x] e)).cell? ((⟨w.heap.size, 0, none⟩ : Addr).add j) = some u := by
  intro j u hj
  match j, hj with
  | 0, hj => simp at hj; subst hj; simp [Addr.add]
  | j + 1, hj => simp at hj
theorem one1 (x : Value) (hx : x.oneCell' = true) : ∀ u ∈ [x], u.oneCell' = true := by
  intro u hu; simp at hu; subst hu; exact hx
theorem beqS_t {a b : ByteArray} (h : a.data.toList = b.data.toList) : (a.toList == b.toList) = true := by rw [ByteArray.toList_eq, ByteArray.toList_eq, h]; simp
theorem beqS_f {a b : ByteArray} (h : a.data.toList ≠ b.data.toList) : (a.toList == b.toList) = false := by rw [ByteArray.toList_eq, ByteArray.toList_eq]; exact beq_eq_false_iff_ne.2 h
end Go.Proofs.Ytgemhgllifhckaa
