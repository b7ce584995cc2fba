/- Small facts on blocks known whole, and on worlds that part in one block. No conditions. -/
import Derived.WalkKit
import Derived.Deep.Draws
import Derived.Deep.OwnShut
import Derived.Lib.Hide
import Derived.Deep.QuietTactic
import Derived.WalkSpells
import Derived.WalkLawsBesides
import Derived.Laws.BytesString
import Derived.Test.YtgkcnocfijckoaaGreatChecked
import Derived.OpenShut
namespace Go.Proofs.YtgkcnocfijckoaaGreat
open Go.RowKit
/-- block p holds just these cells, none of them frozen -/
def Blk (w : World) (p : Nat) (cs : List Value) (t : TypeId) : Prop := w.heap[p]? = some (.cells cs.toArray t (0, 0))
theorem Blk.cell {w : World} {p : Nat} {cs : List Value} {t : TypeId} (h : Blk w p cs t) {i : Nat} {v : Value} (hv : cs[i]? = some v) : w.cell? ⟨p, i, none⟩ = some v := by
  unfold Blk at h
  simp [World.cell?, h, hv]
theorem Blk.frozen {w : World} {p : Nat} {cs : List Value} {t : TypeId} (h : Blk w p cs t) (i : Nat) : w.frozen? ⟨p, i, none⟩ = false := by
  unfold Blk at h
  simp [World.frozen?, h]
theorem Blk.lt {w : World} {p : Nat} {cs : List Value} {t : TypeId} (h : Blk w p cs t) : p < w.heap.size := (Array.getElem?_eq_some_iff.1 h).1
theorem Blk.set {w : World} {p : Nat} {cs : List Value} {t : TypeId} (h : Blk w p cs t) (i : Nat) (v : Value) : Blk (w.setCell ⟨p, i, none⟩ v) p (cs.set i v) t := by
  unfold Blk at h ⊢
  simp only [World.setCell, Array.getElem?_modify, h, if_true, Option.map_some]
  simp
theorem Blk.setOther {w : World} {p : Nat} {cs : List Value} {t : TypeId} (h : Blk w p cs t) {a : Addr} (ha : p ≠ a.block) (v : Value) : Blk (w.setCell a v) p cs t := by
  unfold Blk at h ⊢
  rw [Below.heap_setCell _ _ _ _ ha]; exact h
theorem Blk.drewN {w : World} {p : Nat} {cs : List Value} {t : TypeId} (h : Blk w p cs t) (n : Nat) : Blk (w.drewN n) p cs t := h
theorem Blk.drew {w : World} {p : Nat} {cs : List Value} {t : TypeId} (h : Blk w p cs t) : Blk w.drew p cs t := h
theorem Blk.alloc {w : World} {p : Nat} {cs : List Value} {t : TypeId} (h : Blk w p cs t) (o : Obj) : Blk (w.alloc o) p cs t := by
  unfold Blk at h ⊢
  rw [Below.heap_alloc _ _ _ (Blk.lt h)]; exact h
theorem Blk.new (w : World) (cs : List Value) (t : TypeId) : Blk (w.alloc (.cells cs.toArray t)) w.heap.size cs t := by
  unfold Blk
  show (w.heap.push _)[w.heap.size]? = _
  simp
theorem Blk.grown {w w' : World} {p : Nat} {cs : List Value} {t : TypeId} (h : Blk w p cs t) {row : Option Nat} (hg : w.grownBy w' row) (hne : some p ≠ row) : Blk w' p cs t := by
  unfold Blk at h ⊢
  rw [hg.block p (Blk.lt h) hne]; exact h
theorem Blk.below {w w' : World} {p : Nat} {cs : List Value} {t : TypeId} (h : Blk w p cs t) {B : Nat} (hb : Below B w w') (hp : p < B) : Blk w' p cs t := by
  unfold Blk at h ⊢
  rw [hb.block p hp]; exact h
theorem grown_refl (w : World) (row : Option Nat) : w.grownBy w row := ⟨rfl, rfl, rfl, Nat.le_refl _, fun _ _ _ => rfl⟩
theorem grown_drewN {w w' : World} {row : Option Nat} (h : w.grownBy w' row) (n : Nat) : w.grownBy (w'.drewN n) row := ⟨h.os, h.tape, h.output, h.size, h.block⟩
theorem grown_drew {w w' : World} {row : Option Nat} (h : w.grownBy w' row) : w.grownBy w'.drew row := ⟨h.os, h.tape, h.output, h.size, h.block⟩
theorem grown_set {w w' : World} {p : Nat} (h : w.grownBy w' (some p)) (i : Nat) (v : Value) : w.grownBy (w'.setCell ⟨p, i, none⟩ v) (some p) := by
  refine ⟨h.os, h.tape, h.output, by simpa using h.size, fun k hk hne => ?_⟩
  rw [Below.heap_setCell _ _ _ _ (by intro e; exact hne (by rw [e]))]
  exact h.block k hk hne
theorem grown_alloc {w w' : World} {row : Option Nat} (h : w.grownBy w' row) (o : Obj) : w.grownBy (w'.alloc o) row := by
  refine ⟨h.os, h.tape, h.output, by simp; have := h.size; omega, fun k hk hne => ?_⟩
  rw [Below.heap_alloc _ _ _ (by have := h.size; omega)]
  exact h.block k hk hne
theorem grown_trans {a b c : World} {row : Option Nat} (h : a.grownBy b row) (k : b.grownBy c row) : a.grownBy c row :=
  ⟨k.os.trans h.os, k.tape.trans h.tape, k.output.trans h.output, Nat.le_trans h.size k.size, fun i hi hne => (k.block i (by have := h.size; omega) hne).trans (h.block i hi hne)⟩
theorem grown_below {w w' : World} {row : Option Nat} (h : w.grownBy w' row) (B : Nat) (hB : B ≤ w.heap.size) (hr : ∀ k, row = some k → B ≤ k) : Below B w w' :=
  (Below.refl B w).grown h hB hr
theorem below_grown {w w' : World} (h : Below w.heap.size w w') (row : Option Nat) : w.grownBy w' row := ⟨h.os, h.tape, h.output, h.size, fun k hk _ => h.block k hk⟩
theorem below_drewN' {B : Nat} {a w : World} (h : Below B a w) (n : Nat) : Below B a (w.drewN n) := ⟨h.os, h.tape, h.output, h.size, h.block⟩
theorem ret_v {a b : Value} (h : a = b) : Ending.returned a = .returned b := by rw [h]
theorem int_v {k : IntKind} {a b : Int} (h : a = b) : Value.int k a = .int k b := by rw [h]
theorem quiet_eq {P : Program} {f : FuncId} {args : Array Value} {w : World} {n : Nat} {v : Value}
    (h : Calls P f args (w.drewN n) fun e w' => e = .returned v ∧ w.drewN n = w') : Calls P f args (w.drewN n) fun e w'' => e = .returned v ∧ ∃ m, w'' = w.drewN m :=
  h.mono fun _ _ ⟨he, hm⟩ => ⟨he, n, hm.symm⟩
/-- a slice of n elements of 'size' cells each that reads as f, cell by cell -/
def RowV (w : World) (v : Value) (n size : Nat) (f : Nat → Value) : Prop :=
  (n = 0 ∧ ∃ ao cap, v = .slice ao 0 cap) ∨ (∃ b off cap, v = .slice (some ⟨b, off, none⟩) n cap ∧ ∀ j, j < n * size → w.cell? ⟨b, off + j, none⟩ = some (f j))
theorem RowV.drewN {w : World} {v : Value} {n size : Nat} {f : Nat → Value} (h : RowV w v n size f) (m : Nat) : RowV (w.drewN m) v n size f := h
theorem RowV.congr {w : World} {v : Value} {n size : Nat} {f g : Nat → Value} (h : RowV w v n size f) (hg : ∀ j, j < n * size → f j = g j) : RowV w v n size g := by
  rcases h with h | ⟨b, off, cap, hv, hc⟩
  · exact .inl h
  · exact .inr ⟨b, off, cap, hv, fun j hj => by rw [hc j hj, hg j hj]⟩
theorem RowV.of_owns {w : World} {base : Nat} {e : TypeId} {size : Nat} {v : Value} {n : Nat} {xs : List Value} (h : w.ownsRow base e size v n xs) : RowV w v n size (fun j => xs.getD j undef) := by
  have h0 := h
  obtain ⟨h1, h2⟩ := h
  rcases h2 with ⟨rfl, rfl⟩ | ⟨g, cap, cur, rfl, hg, hh, r⟩
  · exact .inl ⟨rfl, none, 0, rfl⟩
  · refine .inr ⟨g, 0, cap, rfl, fun j hj => ?_⟩
    have hx : xs[j]? = some (xs.getD j undef) := by rw [List.getD_eq_getElem?_getD, List.getElem?_eq_getElem (by omega)]; rfl
    have hc := World.ownsRow.cells h0 (g := g) rfl j _ hx
    have hadd : (⟨g, 0, none⟩ : Addr).add j = ⟨g, 0 + j, none⟩ := by unfold Addr.add; split <;> simp_all
    rw [hadd] at hc
    exact hc
theorem RowV.below {w w' : World} {v : Value} {n size : Nat} {f : Nat → Value} (h : RowV w v n size f) (hb : Below w.heap.size w w') : RowV w' v n size f := by
  rcases h with h | ⟨b, off, cap, hv, hc⟩
  · exact .inl h
  · exact .inr ⟨b, off, cap, hv, fun j hj => by rw [hb.cell (p := ⟨b, off + j, none⟩) (World.block_lt_of_cell? w _ (hc j hj))]; exact hc j hj⟩
theorem RowV.grown {w w' : World} {v : Value} {n size : Nat} {f : Nat → Value} (h : RowV w v n size f) {row : Option Nat} (hg : w.grownBy w' row) (hne : v.ownBlock = none ∨ v.ownBlock ≠ row) : RowV w' v n size f := by
  rcases h with h | ⟨b, off, cap, hv, hc⟩
  · exact .inl h
  · refine .inr ⟨b, off, cap, hv, fun j hj => hg.cell (hc j hj) ?_⟩
    subst hv
    simpa [Value.ownBlock] using hne
theorem owns_new1 (w : World) (x : Value) (e : TypeId) (base : Nat) (hb : base ≤ w.heap.size) : (w.alloc (.cells #[x] e)).ownsRow base e 1 (.slice (some ⟨w.heap.size, 0, none⟩) 1 1) 1 [x] := by
  refine ⟨rfl, .inr ⟨w.heap.size, 1, #[x], rfl, hb, heap_alloc_new w _, Nat.le_refl _, by decide, rfl, rfl⟩⟩
theorem owns_mono {w : World} {base base' : Nat} {e : TypeId} {size : Nat} {v : Value} {n : Nat} {xs : List Value} (h : w.ownsRow base e size v n xs) (hb : base' ≤ base) : w.ownsRow base' e size v n xs := by
  obtain ⟨h1, h2⟩ := h
  refine ⟨h1, ?_⟩
  rcases h2 with h2 | ⟨g, cap, cur, hv, hg, r⟩
  · exact .inl h2
  · exact .inr ⟨g, cap, cur, hv, by omega, r⟩
theorem owns_ne {w : World} {base : Nat} {e : TypeId} {size : Nat} {v : Value} {n : Nat} {xs : List Value} (h : w.ownsRow base e size v n xs) {p : Nat} (hp : p < base) : v.ownBlock ≠ some p := by
  intro e'
  have := World.ownsRow.lt h p e'
  omega
theorem cell1_new (w : World) (x : Value) (e : TypeId) : ∀ j u, [x][j]? = some u → (w.alloc (.cells #[x] e)).cell? ((⟨w.heap.size, 0, none⟩ : Addr).add j) = some u := by
  intro j u hj
  match j, hj with
  | 0, hj => simp at hj; subst hj; simp [Addr.add]
  | j + 1, hj => simp at hj
theorem one1 (x : Value) (hx : x.oneCell' = true) : ∀ u ∈ [x], u.oneCell' = true := by
  intro u hu; simp at hu; subst hu; exact hx
theorem beqS_t {a b : ByteArray} (h : a.data.toList = b.data.toList) : (a.toList == b.toList) = true := by rw [ByteArray.toList_eq, ByteArray.toList_eq, h]; simp
theorem beqS_f {a b : ByteArray} (h : a.data.toList ≠ b.data.toList) : (a.toList == b.toList) = false := by rw [ByteArray.toList_eq, ByteArray.toList_eq]; exact beq_eq_false_iff_ne.2 h
end Go.Proofs.YtgkcnocfijckoaaGreat
namespace Go.Proofs.YtgkcnocfijckoaaGreat
open Go.RowKit
theorem foldl_push (l : List UInt8) : ∀ s : ByteArray, (l.map fun c : UInt8 => ((c.toNat : Nat) : Int)).foldl (fun r n => r.push (UInt8.ofNat n.toNat)) s = ⟨(s.data.toList ++ l).toArray⟩ := by
  induction l with
  | nil => intro s; simp
  | cons c l ih =>
    intro s
    simp only [List.map_cons, List.foldl_cons]
    rw [ih]
    congr 1
    simp [ByteArray.push]
theorem add_off' (b off j : Nat) : (⟨b, off, none⟩ : Addr).add j = ⟨b, off + j, none⟩ := by unfold Addr.add; split <;> simp_all
theorem run_bytes_str {P : Program} {w : World} {src dst e : TypeId} {b off len cap : Nat} (l : List UInt8)
    (hs : P.underlying src = some (.slice e)) (he : P.underlying e = some (.int .u8)) (hd : P.underlying dst = some .string)
    (hl : l.length = len) (h : ∀ j c, l[j]? = some c → w.cell? ⟨b, off + j, none⟩ = some (.int .u8 (c.toNat : Nat))) :
    (convert src dst (.slice (some ⟨b, off, none⟩) len cap)).run P w = .ok (.string ⟨l.toArray⟩) w := by
  rw [run_convert_bytes_string w src dst e _ _ _ hs he hd]
  rw [run_bytesToString w ⟨b, off, none⟩ len cap (l.map fun c : UInt8 => ((c.toNat : Nat) : Int))]
  · rw [foldl_push]; rfl
  · have hx := run_loadCells_list (P := P) (w := w) ⟨b, off, none⟩ ((l.map fun c : UInt8 => ((c.toNat : Nat) : Int)).map (Value.int .u8)) (fun j v hj => by
      simp only [List.map_map, List.getElem?_map, Option.map_eq_some_iff] at hj
      obtain ⟨c, hc, rfl⟩ := hj
      rw [add_off']
      exact h j c hc)
    simpa [hl] using hx
end Go.Proofs.YtgkcnocfijckoaaGreat
namespace Go.Proofs.YtgkcnocfijckoaaGreat
open Go.RowKit
set_option linter.unusedVariables false
/-- byte i of a number -/
def nb (n i : Nat) : Nat := n / 256 ^ i % 256
def numB (n : Nat) : List UInt8 := (List.range 32).map fun i => UInt8.ofNat (nb n i)
def numS (n : Nat) : ByteArray := ⟨(numB n).toArray⟩
/-- the cells behind k rounds -/
def numC (n k : Nat) : List Value := (List.range 32).map fun i => .int .u8 (if i < k then nb n i else 0 : Nat)
theorem nb_lt (n i : Nat) : nb n i < 256 := Nat.mod_lt _ (by decide)
theorem numB_len (n : Nat) : (numB n).length = 32 := by simp [numB]
theorem numC_len (n k : Nat) : (numC n k).length = 32 := by simp [numC]
theorem numC_set (n k : Nat) (hk : k < 32) : (numC n k).set k (.int .u8 (nb n k : Nat)) = numC n (k + 1) := by
  apply List.ext_getElem (by simp [numC])
  intro i h1 h2
  rw [List.getElem_set]
  simp only [numC, List.getElem_map, List.getElem_range]
  by_cases e : k = i
  · subst e; simp
  · rw [if_neg e]
    have : (i < k) ↔ (i < k + 1) := by omega
    simp [this]
theorem numC_byte (n j : Nat) (c : UInt8) (h : (numB n)[j]? = some c) : (numC n 32)[j]? = some (.int .u8 (c.toNat : Nat)) := by
  have hj : j < 32 := by have := (List.getElem?_eq_some_iff.1 h).1; rw [numB_len] at this; exact this
  simp only [numB, List.getElem?_map, List.getElem?_range hj, Option.map_some, Option.some.injEq] at h
  subst h
  have := nb_lt n j
  simp only [numC, List.getElem?_map, List.getElem?_range hj, Option.map_some, if_pos hj, UInt8.toNat_ofNat']
  congr 3
  omega
theorem nb_high (n i : Nat) (hn : n ≤ 4611686018427387904) (hi : 8 ≤ i) : nb n i = 0 := by
  unfold nb
  have h1 : 256 ^ 8 ≤ 256 ^ i := Nat.pow_le_pow_right (by decide) hi
  rw [Nat.div_eq_of_lt (Nat.lt_of_lt_of_le (by omega : n < 256 ^ 8) h1)]
theorem pow_8 (k : Nat) : (2 : Int) ^ (8 * k) = ((256 ^ k : Nat) : Int) := by
  rw [Int.natCast_pow, Int.pow_mul]; rfl
theorem numbered_any (n : Nat) (w : World) (hn : n ≤ 4611686018427387904) :
    Calls Tryz.prog 78 #[.int .i64 n] w fun e w' => e = .returned (.string (numS n)) ∧ Below w.heap.size w w' := by
  have hmk : ∀ w, (Instr.makeSlice 98 (.int .i64 32) (.int .i64 32)).run Tryz.prog w = .ok (.slice (some ⟨w.heap.size, 0, none⟩) 32 32) (w.alloc (.cells (List.replicate 32 (.int .u8 0)).toArray 5)) := fun _ => by kernel_rfl
  have h0 : Blk (w.alloc (.cells (List.replicate 32 (.int .u8 0)).toArray 5)) w.heap.size (numC n 0) 5 := Blk.new w _ _
  have hB0 : Below w.heap.size w (w.alloc (.cells (List.replicate 32 (.int .u8 0)).toArray 5)) := (Below.refl _ _).alloc (Nat.le_refl _) _
  have H0 := Lib.hid h0
  clear h0
  go_enter Tryz.func78, Tryz.ntmps78
  go_wp2
  clear hmk
  go_loopw [4, 8] (fun _ i wr => ∃ k : Nat, k ≤ 32 ∧ i = .int .i64 k ∧ Blk wr w.heap.size (numC n k) 5 ∧ Below w.heap.size w wr) (fun _ i _ => 32 - (intOf i).toNat)
  case atStart => exact ⟨0, by omega, rfl, H0.out, hB0⟩
  case round =>
    clear H0 hB0
    obtain ⟨k, hk, rfl, hb, hB⟩ := hrel
    by_cases hlt : k < 32
    · have hf := Blk.frozen hb k
      have hc : wr.cell? ⟨w.heap.size, k, none⟩ = some (.int .u8 0) := Blk.cell hb (i := k) (by simp [numC, hlt])
      have HB := Lib.hid hb
      clear hb
      by_cases h7 : k ≤ 7
      · go_wp2
        go_roundw
        case rel =>
          have e : (n : Int) / 2 ^ (8 * k) % 256 = ((nb n k : Nat) : Int) := by rw [pow_8]; unfold nb; simp only [Int.natCast_emod, Int.natCast_ediv]; rfl
          refine ⟨k + 1, by omega, by go_num, ?_, hB.setCell (Nat.le_refl _) _⟩
          rw [e, ← numC_set n k hlt]
          exact HB.out.set k _
        case measure => simp [intOf]; omega
      · go_wp2
        go_roundw
        case rel =>
          refine ⟨k + 1, by omega, by go_num, ?_, (hB.setCell (Nat.le_refl _) _).setCell (Nat.le_refl _) _⟩
          have h2 := (HB.out.set k (Value.int IntKind.u8 ((n : Int) / 72057594037927936))).set k (.int .u8 (0 : Nat))
          rw [List.set_set, ← nb_high n k hn (by omega), numC_set n k hlt, nb_high n k hn (by omega)] at h2
          exact h2
        case measure => simp [intOf]; omega
    · have hk2 : k = 32 := by omega
      subst hk2
      have hcv : (convert 98 9 (.slice (some ⟨w.heap.size, 0, none⟩) 32 32)).run Tryz.prog wr = .ok (.string (numS n)) wr :=
        run_bytes_str (numB n) Tryz.underlying98 Tryz.underlying5 Tryz.underlying9 (numB_len n) (fun j c hj => Blk.cell hb (i := 0 + j) (by rw [Nat.zero_add]; exact numC_byte n j c hj))
      clear hb
      go_wp2
      go_ret
      exact ⟨rfl, hB⟩
theorem infoByte : (Tryz.prog.info? 5).map (fun i => (i.zero, i.size, i.bytes)) = some (some (.int .u8 0), 1, 1) := by kernel_rfl
def byteC (l : List UInt8) : List Value := l.map fun c => .int .u8 (c.toNat : Nat)
theorem byteC_len (l : List UInt8) : (byteC l).length = l.length := by simp [byteC]
theorem byteC_get (l : List UInt8) (j : Nat) (c : UInt8) (h : l[j]? = some c) : (byteC l)[j]? = some (.int .u8 (c.toNat : Nat)) := by simp [byteC, h]
theorem owns_bytes_str {P : Program} {w : World} {src dst e : TypeId} {base : Nat} {v : Value} {n : Nat} (l : List UInt8)
    (hs : P.underlying src = some (.slice e)) (he : P.underlying e = some (.int .u8)) (hd : P.underlying dst = some .string)
    (h : w.ownsRow base e 1 v n (byteC l)) (hn : 0 < n) : (convert src dst v).run P w = .ok (.string ⟨l.toArray⟩) w := by
  have h0 := h
  have hl : l.length = n := by have := h.1; rw [byteC_len] at this; omega
  rcases h.2 with ⟨rfl, h3⟩ | ⟨g, cap, cur, rfl, _⟩
  · omega
  · refine run_bytes_str l hs he hd hl fun j c hj => ?_
    have := World.ownsRow.cells h0 (g := g) rfl j _ (byteC_get l j c hj)
    rw [add_off'] at this
    exact this
theorem numS_size (n : Nat) : (numS n).size = 32 := by simp [numS, ByteArray.size, numB]
theorem nb_all (m n : Nat) : ∀ k, (∀ i, i < k → nb m i = nb n i) → m % 256 ^ k = n % 256 ^ k
  | 0, _ => by simp [Nat.mod_one]
  | k + 1, h => by
    have ih := nb_all m n k (fun i hi => h i (by omega))
    have hk := h k (by omega)
    unfold nb at hk
    rw [Nat.pow_succ, Nat.mod_mul, Nat.mod_mul, ih, hk]
theorem numB_inj (m n : Nat) (hm : m < 256 ^ 32) (hn : n < 256 ^ 32) (h : numB m = numB n) : m = n := by
  have hall : ∀ i, i < 32 → nb m i = nb n i := by
    intro i hi
    have := congrArg (fun l => l[i]?) h
    simp only [numB, List.getElem?_map, List.getElem?_range hi, Option.map_some, Option.some.injEq] at this
    have h2 := congrArg UInt8.toNat this
    simp only [UInt8.toNat_ofNat'] at h2
    have a := nb_lt m i
    have b := nb_lt n i
    omega
  have := nb_all m n 32 hall
  rwa [Nat.mod_eq_of_lt hm, Nat.mod_eq_of_lt hn] at this
theorem numS_list (n : Nat) : (numS n).data.toList = numB n := rfl
theorem numS_inj (m n : Nat) (hm : m < 18446744073709551616) (hn : n < 18446744073709551616) (h : (numS m).data.toList = (numS n).data.toList) : m = n :=
  numB_inj m n (Nat.lt_of_lt_of_le hm (by decide)) (Nat.lt_of_lt_of_le hn (by decide)) h
end Go.Proofs.YtgkcnocfijckoaaGreat
