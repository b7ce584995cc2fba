/- Contracts of the library's strings.Builder at this program: the shelf's, by application. Conditions: as named in each theorem. -/
import Derived.Shelf.Strings.BuilderF
import Derived.Shelf.Strings.BuilderK
import Derived.Test.YtgkcnocfijckoaaGreatProg
import Derived.Test.YtgkcnocfijckoaaGreatQR
import Derived.Test.YtgkcnocfijckoaaGreatQK
namespace Go.Proofs.YtgkcnocfijckoaaGreat
open Go.Shelf Go.RowKit
set_option linter.unusedVariables false
def shWrite_ren : Go.Shelf.Ren := ⟨fun | 166 => 55 | 240 => 84 | 276 => 115 | n => n, fun | 0 => 0 | 3 => 3 | 4 => 4 | 9 => 9 | 20 => 20 | 37 => 98 | 70 => 97 | 72 => 100 | 75 => 102 | 164 => 167 | 80 => 108 | 5 => 5 | n => n, fun | n => n⟩
theorem shWrite : Go.Proofs.Lays.n166 Tryz.prog shWrite_ren := {
  mixed := by kernel_rfl
  f166 := Tryz.func55.trans (congrArg some (by kernel_rfl))
  f240 := Tryz.func84.trans (congrArg some (by kernel_rfl))
  f276 := Tryz.func115.trans (congrArg some (by kernel_rfl))
  t0 := Tryz.underlying0
  a0 := Tryz.isAgg0
  z0 := Tryz.sizeOf0
  v0 := Tryz.zeroValue0
  t3 := Tryz.underlying3
  a3 := Tryz.isAgg3
  z3 := Tryz.sizeOf3
  v3 := Tryz.zeroValue3
  t4 := Tryz.underlying4
  a4 := Tryz.isAgg4
  z4 := Tryz.sizeOf4
  v4 := Tryz.zeroValue4
  t9 := Tryz.underlying9
  a9 := Tryz.isAgg9
  z9 := Tryz.sizeOf9
  v9 := Tryz.zeroValue9
  t20 := Tryz.underlying20
  a20 := Tryz.isAgg20
  z20 := Tryz.sizeOf20
  v20 := Tryz.zeroValue20
  t37 := Tryz.underlying98
  a37 := Tryz.isAgg98
  z37 := Tryz.sizeOf98
  v37 := Tryz.zeroValue98
  t70 := Tryz.underlying97
  a70 := Tryz.isAgg97
  z70 := Tryz.sizeOf97
  v70 := Tryz.zeroValue97
  t72 := Tryz.underlying100
  a72 := Tryz.isAgg100
  z72 := Tryz.sizeOf100
  v72 := Tryz.zeroValue100
  t75 := Tryz.underlying102
  a75 := Tryz.isAgg102
  z75 := Tryz.sizeOf102
  v75 := Tryz.zeroValue102
  t164 := Tryz.underlying167
  a164 := Tryz.isAgg167
  z164 := Tryz.sizeOf167
  v164 := Tryz.zeroValue167 }
theorem shWriteX : Builder.Extra Tryz.prog shWrite_ren := {
  sizeBuilder := by kernel_rfl
  liesBuilder := by kernel_rfl
  t5 := Tryz.underlying5
  a5 := Tryz.isAgg5
  z5 := Tryz.sizeOf5
  v5 := Tryz.zeroValue5
  infoByte := by kernel_rfl
  cellsByte := by kernel_rfl
  sizeByte := by kernel_rfl
  neB5 := by decide }
def shString_ren : Go.Shelf.Ren := ⟨fun | 169 => 56 | n => n, fun | 0 => 0 | 3 => 3 | 9 => 9 | 37 => 98 | 70 => 97 | 72 => 100 | 127 => 141 | 5 => 5 | n => n, fun | n => n⟩
theorem shString : Go.Proofs.Lays.n169 Tryz.prog shString_ren := {
  mixed := by kernel_rfl
  f169 := Tryz.func56.trans (congrArg some (by kernel_rfl))
  t0 := Tryz.underlying0
  a0 := Tryz.isAgg0
  z0 := Tryz.sizeOf0
  v0 := Tryz.zeroValue0
  t3 := Tryz.underlying3
  a3 := Tryz.isAgg3
  z3 := Tryz.sizeOf3
  v3 := Tryz.zeroValue3
  t9 := Tryz.underlying9
  a9 := Tryz.isAgg9
  z9 := Tryz.sizeOf9
  v9 := Tryz.zeroValue9
  t37 := Tryz.underlying98
  a37 := Tryz.isAgg98
  z37 := Tryz.sizeOf98
  v37 := Tryz.zeroValue98
  t70 := Tryz.underlying97
  a70 := Tryz.isAgg97
  z70 := Tryz.sizeOf97
  v70 := Tryz.zeroValue97
  t72 := Tryz.underlying100
  a72 := Tryz.isAgg100
  z72 := Tryz.sizeOf100
  v72 := Tryz.zeroValue100
  t127 := Tryz.underlying141
  a127 := Tryz.isAgg141
  z127 := Tryz.sizeOf141
  v127 := Tryz.zeroValue141 }
theorem shStringX : Builder.Extra Tryz.prog shString_ren := {
  sizeBuilder := by kernel_rfl
  liesBuilder := by kernel_rfl
  t5 := Tryz.underlying5
  a5 := Tryz.isAgg5
  z5 := Tryz.sizeOf5
  v5 := Tryz.zeroValue5
  infoByte := by kernel_rfl
  cellsByte := by kernel_rfl
  sizeByte := by kernel_rfl
  neB5 := by decide }
/-- the builder at b holds these bytes; what lies ahead of B is not its own -/
def Bld (B b : Nat) (l : List UInt8) (w : World) : Prop := Lib.IsBuilderF 100 5 B b (Lib.byteCells l) w
theorem strCells_eq (s : ByteArray) : Lib.strCells s = Lib.byteCells s.data.toList := by
  unfold Lib.strCells Lib.byteCells
  rfl
theorem write_any (B b : Nat) (l : List UInt8) (s : ByteArray) (w : World) (h : Bld B b l w) (hlen : l.length + s.size ≤ 140737488355328) (hBw : B ≤ w.heap.size) :
    Calls Tryz.prog 55 #[.pointer (some ⟨b, 0, none⟩), .string s] w fun e w' => e = .returned (.tuple #[.int .i64 s.size, .nilIface]) ∧ Bld B b (l ++ s.data.toList) w' ∧ Below B w w' ∧ Lib.OthersKept 5 (some b) w w' := by
  refine (Any.Builder_WriteString_k shWrite shWriteX B b (Lib.byteCells l) s w h (by rw [Lib.byteCells_length]; exact hlen) hBw).mono ?_
  rintro e w' ⟨he, h1, h2, h3⟩
  refine ⟨he, ?_, h2, h3⟩
  have e : Lib.byteCells (l ++ s.data.toList) = Lib.byteCells l ++ Lib.strCells s := by rw [Lib.byteCells_append, strCells_eq]
  unfold Bld
  rw [e]
  exact .inr h1
theorem string_any (B b : Nat) (l : List UInt8) (w : World) (h : Bld B b l w) (hBw : B ≤ w.heap.size) :
    Calls Tryz.prog 56 #[.pointer (some ⟨b, 0, none⟩)] w fun e w' => e = .returned (.string ⟨l.toArray⟩) ∧ Bld B b l w' ∧ Below B w w' ∧ Lib.OthersKept 5 (some b) w w' :=
  Any.Builder_String_any_k shString shStringX B b l w h hBw
theorem Bld.fresh (w : World) : Bld w.heap.size w.heap.size [] (w.alloc (.cells #[.pointer none, .slice none 0 0] 100)) := Lib.IsBuilderF.of (Lib.fresh_isBuilder 100 5 w)
end Go.Proofs.YtgkcnocfijckoaaGreat
namespace Go.Proofs.YtgkcnocfijckoaaGreat
open Go.RowKit
set_option linter.unusedVariables false
theorem ownsF_block {w w' : World} {base : Nat} {e : TypeId} {size n : Nat} {v : Value} {xs : List Value} (h : w.ownsRowF base e size v n xs) (hb : ∀ k, v.ownBlock = some k → w'.heap[k]? = w.heap[k]?) : w'.ownsRowF base e size v n xs := by
  obtain ⟨h1, h2⟩ := h
  refine ⟨h1, ?_⟩
  rcases h2 with h2 | ⟨g, cap, cur, fz, rfl, hg, hh, r⟩
  · exact .inl h2
  · exact .inr ⟨g, cap, cur, fz, rfl, hg, (hb g (by simp [Value.ownBlock])).trans hh, r⟩
theorem ownsF_lt {w : World} {base : Nat} {e : TypeId} {size n : Nat} {v : Value} {xs : List Value} (h : w.ownsRowF base e size v n xs) {k : Nat} (hk : v.ownBlock = some k) : k < w.heap.size := by
  obtain ⟨h1, h2⟩ := h
  rcases h2 with ⟨h3, _⟩ | ⟨g, cap, cur, fz, h3, hg, hh, r⟩
  · rw [h3] at hk; simp [Value.ownBlock] at hk
  · rw [h3] at hk
    simp only [Value.ownBlock, Option.some.injEq] at hk
    subst hk
    exact (Array.getElem?_eq_some_iff.1 hh).1
theorem Bld.blocks {B b : Nat} {l : List UInt8} {w w' : World} (h : Bld B b l w) (hb : ∀ k, k < w.heap.size → w'.heap[k]? = w.heap[k]?) : Bld B b l w' := by
  have at_ : ∀ p, Lib.BuilderAtF 100 5 B b p (Lib.byteCells l) w → Lib.BuilderAtF 100 5 B b p (Lib.byteCells l) w' := by
    rintro p ⟨h1, v, h2, h3, h4⟩
    exact ⟨h1, v, (hb b (Array.getElem?_eq_some_iff.1 h2).1).trans h2, ownsF_block h3 (fun k hk => hb k (ownsF_lt h3 hk)), h4⟩
  exact h.elim (fun h => .inl (at_ _ h)) (fun h => .inr (at_ _ h))
theorem Bld.next {B b : Nat} {l : List UInt8} {w w' : World} (h : Bld B b l w) (hb : Below w.heap.size w w') : Bld B b l w' := h.blocks hb.block
theorem Bld.drew {B b : Nat} {l : List UInt8} {w : World} (h : Bld B b l w) : Bld B b l w.drew := h.blocks (fun _ _ => rfl)
theorem Bld.alloc {B b : Nat} {l : List UInt8} {w : World} (h : Bld B b l w) (o : Obj) : Bld B b l (w.alloc o) := h.blocks (fun k hk => Below.heap_alloc _ _ _ hk)
theorem Bld.lt {B b : Nat} {l : List UInt8} {w : World} (h : Bld B b l w) : b < w.heap.size := by
  rcases h with ⟨_, v, h2, _⟩ | ⟨_, v, h2, _⟩
  · exact (Array.getElem?_eq_some_iff.1 h2).1
  · exact (Array.getElem?_eq_some_iff.1 h2).1
theorem Bld.le {B b : Nat} {l : List UInt8} {w : World} (h : Bld B b l w) : B ≤ b := by
  rcases h with ⟨h1, _⟩ | ⟨h1, _⟩ <;> exact h1
theorem Blk.others {w w' : World} {p b : Nat} {cs : List Value} {t : TypeId} (h : Blk w p cs t) (ho : Lib.OthersKept 5 (some b) w w') (hp : p ≠ b) (ht : t ≠ 5) : Blk w' p cs t :=
  ho p _ h (by simpa using hp) (fun c fz e => by injection e with _ e2 _; exact ht e2)
theorem owns_others {w w' : World} {b base : Nat} {e : TypeId} {size n : Nat} {v : Value} {xs : List Value} (h : w.ownsRow base e size v n xs) (ho : Lib.OthersKept 5 (some b) w w') (hv : ∀ j, v.ownBlock = some j → j ≠ b) (he : e ≠ 5) : w'.ownsRow base e size v n xs := by
  obtain ⟨h1, h2⟩ := h
  refine ⟨h1, ?_⟩
  rcases h2 with h2 | ⟨g, cap, cur, rfl, hg, hh, r⟩
  · exact .inl h2
  · exact .inr ⟨g, cap, cur, rfl, hg, ho g _ hh (by simpa using hv g (by simp [Value.ownBlock])) (fun c fz e2 => by injection e2 with _ e3 _; exact he e3), r⟩
/-- numbers' bytes, texts' bytes -/
def numsL (L : List Int) : List UInt8 := L.flatMap fun x => numL x.toNat
def textsL (T : List ByteArray) : List UInt8 := T.flatMap fun t => t.data.toList
theorem numsL_take (L : List Int) (k : Nat) (x : Int) (h : L[k]? = some x) : numsL (L.take (k + 1)) = numsL (L.take k) ++ numL x.toNat := by
  obtain ⟨hk, rfl⟩ := List.getElem?_eq_some_iff.1 h
  unfold numsL
  rw [List.take_succ_eq_append_getElem hk, List.flatMap_append]
  simp
theorem textsL_take (T : List ByteArray) (k : Nat) (x : ByteArray) (h : T[k]? = some x) : textsL (T.take (k + 1)) = textsL (T.take k) ++ x.data.toList := by
  obtain ⟨hk, rfl⟩ := List.getElem?_eq_some_iff.1 h
  unfold textsL
  rw [List.take_succ_eq_append_getElem hk, List.flatMap_append]
  simp
theorem numsL_len (L : List Int) (h : ∀ x ∈ L, x ≤ 4611686018427387903) : (numsL L).length ≤ 9 * L.length := by
  induction L with
  | nil => simp [numsL]
  | cons x L ih =>
    have h1 := numL_le9 x.toNat (by have := h x (by simp); omega)
    have h2 := ih (fun y hy => h y (by simp [hy]))
    unfold numsL at *
    rw [List.flatMap_cons, List.length_append, List.length_cons]
    omega
theorem textsL_len (T : List ByteArray) (n : Nat) (h : ∀ x ∈ T, x.size ≤ n) : (textsL T).length ≤ n * T.length := by
  induction T with
  | nil => simp [textsL]
  | cons x T ih =>
    have h1 := h x (by simp)
    have h2 := ih (fun y hy => h y (by simp [hy]))
    unfold textsL at *
    rw [List.flatMap_cons, List.length_append, List.length_cons, Nat.mul_add]
    have : x.data.toList.length = x.size := by rw [Array.length_toList]; rfl
    omega
end Go.Proofs.YtgkcnocfijckoaaGreat
