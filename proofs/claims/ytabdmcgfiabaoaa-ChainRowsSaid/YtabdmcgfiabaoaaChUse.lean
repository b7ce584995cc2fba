/- Deltas held in variables; Compose, where all is right. Conditions: as named in each theorem. -/
import Derived.Test.YtabdmcgfiabaoaaChRow
import Derived.Test.YtabdmcgfiabaoaaChPlain
import Derived.Test.YtabdmcgfiabaoaaChCompose
namespace Go.Proofs.Ytabdmcgfiabaoaa
open Go.RowKit Sg
set_option linter.unusedVariables false
set_option linter.unusedSimpArgs false
theorem getD_size {ts : List ByteArray} (h : ∀ x ∈ ts, x.size ≤ 1000) (i : Nat) : (ts.getD i ByteArray.empty).size ≤ 1000 := by
  rw [List.getD_eq_getElem?_getD]
  cases hx : ts[i]? with
  | none => exact Nat.zero_le _
  | some x => exact h x (List.mem_of_getElem? hx)
theorem dAt_mks (S : Bk) (ts : List ByteArray) (B i : Nat) (hB : 0 < B) (h : ∀ x ∈ ts, x.size ≤ 1000) : Mks (ts.getD i ByteArray.empty) (ts.getD (i + 1) ByteArray.empty) (dAt S ts B i) := by
  have h1 := getD_size h i
  have h2 := getD_size h (i + 1)
  obtain ⟨p1, p2, p3, p4, p5⟩ := stepsI_right (ts.getD i ByteArray.empty) (ts.getD (i + 1) ByteArray.empty) B (S.idxOf (bytesOf (ts.getD i ByteArray.empty)) + 1) (S.idxOf (bytesOf (ts.getD (i + 1) ByteArray.empty)) + 1) hB (by omega) (by omega)
  obtain ⟨q1, q2, q3, q4⟩ := stepsI_made (ts.getD i ByteArray.empty) (ts.getD (i + 1) ByteArray.empty) B hB (by omega)
  exact ⟨p1, rfl, q1, q2, q3⟩
/-- a delta in a variable on the heap -/
def VarD (w wx : World) (p : Value) (d : Dl) : Prop := ∃ q a k, p = .pointer (some ⟨q, 0, none⟩) ∧ Blk wx q [.string d.basis, .string d.mark, .int .i64 d.size, .slice a d.steps.length k] 25 ∧ Own wx w.heap.size (.slice a d.steps.length k) d.steps
theorem VarD.below {w wx wy : World} {p : Value} {d : Dl} (h : VarD w wx p d) (hb : Below wx.heap.size wx wy) : VarD w wy p d := by
  obtain ⟨q, a, k, h1, h2, h3⟩ := h
  exact ⟨q, a, k, h1, h2.below hb h2.lt, h3.below hb⟩
theorem VarD.new {w w5 : World} {d : Dl} {a : Option Addr} {k : Nat} (hO : Own w5 w.heap.size (.slice a d.steps.length k) d.steps) : VarD w (w5.alloc (Obj.cells #[.string d.basis, .string d.mark, .int .i64 d.size, .slice a d.steps.length k] 25)) (.pointer (some ⟨w5.heap.size, 0, none⟩)) d :=
  ⟨_, a, k, rfl, Blk.new _ _ _, hO.alloc _⟩
theorem VarD.store {w w5 : World} {d : Dl} {a : Option Addr} {k q base : Nat} {c0 c1 c2 c3 : Value} (hQ : Blk w5 q [c0, c1, c2, c3] 25) (hO : Own w5 base (.slice a d.steps.length k) d.steps) (hq : q < base) (hb : w.heap.size ≤ base) :
    VarD w ((((w5.setCell ⟨q, 0, none⟩ (.string d.basis)).setCell ⟨q, 1, none⟩ (.string d.mark)).setCell ⟨q, 2, none⟩ (.int .i64 d.size)).setCell ⟨q, 3, none⟩ (.slice a d.steps.length k)) (.pointer (some ⟨q, 0, none⟩)) d :=
  ⟨q, a, k, rfl, (((hQ.set 0 _).set 1 _).set 2 _).set 3 _, owns_mono ((((hO.setFar hq 0 _).setFar hq 1 _).setFar hq 2 _).setFar hq 3 _) hb⟩
theorem below_set4 {wr w5 : World} {q : Nat} (h : Below wr.heap.size wr w5) (hq : wr.heap.size ≤ q) (v0 v1 v2 v3 : Value) : Below wr.heap.size wr ((((w5.setCell ⟨q, 0, none⟩ v0).setCell ⟨q, 1, none⟩ v1).setCell ⟨q, 2, none⟩ v2).setCell ⟨q, 3, none⟩ v3) :=
  (((h.setCell hq v0).setCell hq v1).setCell hq v2).setCell hq v3
/-- two deltas as one -/
def cmpD (d e : Dl) : Dl := ⟨d.basis, e.mark, e.size, stepsB (compB d.steps e.steps)⟩
def CmpP (d e : Dl) (w : World) (r : Ending) (w' : World) : Prop := ∃ a k, r = .returned (.tuple #[.agg #[.string d.basis, .string e.mark, .int .i64 e.size, .slice a (cmpD d e).steps.length k], .int .i64 0]) ∧ Own w' w.heap.size (.slice a (cmpD d e).steps.length k) (cmpD d e).steps ∧ Below w.heap.size w w'
theorem compose_mks (W : World) {ta tb tc : ByteArray} {d e : Dl} (h : Mks ta tb d) (k : Mks tb tc e) (hm : d.mark = e.basis) (hta : ta.size ≤ 524288) (aa : Option Addr) (na ca : Nat) (ab : Option Addr) (nb cb : Nat) (hRa : Rs W aa na ca 3 d.steps St.c) (hRb : Rs W ab nb cb 3 e.steps St.c) (oka : d.ok) (okb : e.ok) :
    Calls Try.prog 17 #[.agg #[.string d.basis, .string d.mark, .int .i64 d.size, .slice aa na ca], .agg #[.string e.basis, .string e.mark, .int .i64 e.size, .slice ab nb cb]] W (CmpP d e W) := by
  refine (compose_any W d.basis d.mark e.basis e.mark d.size e.size d.steps e.steps aa na ca ab nb cb hRa hRb oka okb).mono ?_
  rintro r w' ⟨E, D, v, rfl, hC, hO, hB⟩
  obtain ⟨rfl, rfl⟩ := h.comp_one k hm hta hC
  obtain ⟨a, kk, rfl⟩ := owns_slice hO
  exact ⟨a, kk, rfl, hO, hB⟩
def CmpQ (b m : ByteArray) (z : Int) (L : List St) (w : World) (r : Ending) (w' : World) : Prop := ∃ a k, r = .returned (.tuple #[.agg #[.string b, .string m, .int .i64 z, .slice a L.length k], .int .i64 0]) ∧ Own w' w.heap.size (.slice a L.length k) L ∧ Below w.heap.size w w'
theorem cmp_q {args : Array Value} {b m b' m' : ByteArray} {z z' : Int} {l l' L : List St} {W : World} (h : Calls Try.prog 17 args W (CmpP ⟨b, m, z, l⟩ ⟨b', m', z', l'⟩ W)) (hL : L = (cmpD ⟨b, m, z, l⟩ ⟨b', m', z', l'⟩).steps) : Calls Try.prog 17 args W (CmpQ b m' z' L W) := by
  refine h.mono ?_
  rintro r w' ⟨a, k, h1, h2, h3⟩
  rw [← hL] at h1 h2
  exact ⟨a, k, h1, h2, h3⟩
theorem cmp_ok {ta tb tc : ByteArray} {d e : Dl} (h : Mks ta tb d) (k : Mks tb tc e) (hm : d.mark = e.basis) (hta : ta.size ≤ 524288) (oka : d.ok) (okb : e.ok) : (cmpD d e).ok ∧ Mks ta tc (cmpD d e) ∧ (cmpD d e).steps.length ≤ 1000000 := by
  obtain ⟨h1, h2⟩ := h.comp k hm hta
  refine ⟨h2.ok oka okb, h1, ?_⟩
  have h3 := sum2_len h1.right.2.2.2.2.1
  have h4 := h1.right.2.2.2.2.2
  have h5 := h1.right.2.2.2.1
  show (stepsB (compB d.steps e.steps)).length ≤ 1000000
  simp only at h3 h4 h5
  omega
theorem VarD.rs {w wx : World} {q : Nat} {a : Option Addr} {k : Nat} {L : List St} {base : Nat} (h : Own wx base (.slice a L.length k) L) : Rs wx a L.length k 3 L St.c := Own.rs rfl h
/-- two deltas that read alike are the same -/
theorem same_true (w : World) (b m : ByteArray) (s : Int) (l : List St) (u v : Value) {base base2 : Nat} (hl : l.length ≤ 1000000000) (ha : Own w base u l) (hb : Own w base2 v l) :
    Calls Try.prog 19 #[.agg #[.string b, .string m, .int .i64 s, u], .agg #[.string b, .string m, .int .i64 s, v]] w fun e w' => e = .returned (.bool true) ∧ Below w.heap.size w w' := by
  obtain ⟨ao, ca, rfl⟩ := owns_slice ha
  obtain ⟨bo, cb, rfl⟩ := owns_slice hb
  obtain ⟨V, hV⟩ : ∃ V, V = w.alloc (Obj.cells #[.string b, .string m, .int .i64 s, .slice ao l.length ca] 25) := ⟨_, rfl⟩
  obtain ⟨W, hW⟩ : ∃ W, W = V.alloc (Obj.cells #[.string b, .string m, .int .i64 s, .slice bo l.length cb] 25) := ⟨_, rfl⟩
  have hA : Blk W w.heap.size [.string b, .string m, .int .i64 s, .slice ao l.length ca] 25 := by rw [hW, hV]; exact (Blk.new w _ _).alloc _
  have hC : Blk W (w.heap.size + 1) [.string b, .string m, .int .i64 s, .slice bo l.length cb] 25 := by
    have := Blk.new V [.string b, .string m, .int .i64 s, .slice bo l.length cb] 25
    rw [hV, World.size_alloc] at this
    rw [hW, hV]; exact this
  have hB : Below w.heap.size w W := by rw [hW, hV]; exact (below_alloc w _).alloc (by simp) _
  have hOa := ha.below hB
  have hOb := hb.below hB
  have q0 := hA.cell (i := 0) rfl
  have q1 := hA.cell (i := 1) rfl
  have q2 := hA.cell (i := 2) rfl
  have q3 := hA.cell (i := 3) rfl
  have y0 := hC.cell (i := 0) rfl
  have y1 := hC.cell (i := 1) rfl
  have y2 := hC.cell (i := 2) rfl
  have y3 := hC.cell (i := 3) rfl
  rw [hW, hV] at q0 q1 q2 q3 y0 y1 y2 y3
  have HW := Lib.hid hW
  have HV := Lib.hid hV
  clear hA hC hW hV ha hb
  go_enter Try.func19, Try.ntmps19
  go_wp2_with fail
  rw [← HV.out, ← HW.out]
  refine (steps_true W l _ _ hl hOa hOb).mono ?_
  rintro e w3 ⟨rfl, hb3⟩
  have hB3 := below_then hB hb3
  clear q0 q1 q2 q3 y0 y1 y2 y3 hOa hOb hB hb3
  go_wp2
  go_ret
  exact ⟨rfl, hB3⟩
end Go.Proofs.Ytabdmcgfiabaoaa
