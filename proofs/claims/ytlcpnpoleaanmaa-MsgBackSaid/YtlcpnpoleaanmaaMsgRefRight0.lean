/- What the document's Right and Same lean on. Conditions: as named in each theorem. -/
import Derived.Test.YtlcpnpoleaanmaaMsgRightA
import Derived.Deep.RegionHeld3
import Derived.Deep.DeepCutAuto
namespace Go.Proofs.Ytlcpnpoleaanmaa
open Go.RowKit
set_option linter.unusedVariables false

theorem fldS_ne {k : Int} (h : flds k ≠ []) : ((fldS k).toList == []) = false := by
  refine strNe' ?_
  intro e
  apply h
  exact List.eq_nil_of_length_eq_zero e
theorem fldS_nil {k : Int} (h : flds k = []) : fldS k = ByteArray.empty := by unfold fldS; rw [h]; rfl
theorem mg_cells {w : World} {p : Nat} {m : Mg} {v : Value} {T : TypeId} (h : Blk w p (mgC m v) T) :
    w.cell? ⟨p, 0, none⟩ = some (.int .i64 m.kind) ∧ w.cell? ⟨p, 1, none⟩ = some (.int .i64 m.src) ∧ w.cell? ⟨p, 2, none⟩ = some (.int .i64 m.dst) ∧ w.cell? ⟨p, 3, none⟩ = some (.int .i64 m.ballot) ∧ w.cell? ⟨p, 4, none⟩ = some (.int .i64 m.gen) ∧ w.cell? ⟨p, 5, none⟩ = some (.int .i64 m.basis) ∧ w.cell? ⟨p, 6, none⟩ = some (.int .i64 m.floor) ∧ w.cell? ⟨p, 7, none⟩ = some (.int .i64 m.top) ∧ w.cell? ⟨p, 8, none⟩ = some (.int .i64 m.read) ∧ w.cell? ⟨p, 9, none⟩ = some (.string m.mark) ∧ w.cell? ⟨p, 10, none⟩ = some (.int .i64 m.pat) ∧ w.cell? ⟨p, 11, none⟩ = some (.int .i64 m.pof) ∧ w.cell? ⟨p, 12, none⟩ = some (.string m.ptext) ∧ w.cell? ⟨p, 13, none⟩ = some v :=
  ⟨h.cell rfl, h.cell rfl, h.cell rfl, h.cell rfl, h.cell rfl, h.cell rfl, h.cell rfl, h.cell rfl, h.cell rfl, h.cell rfl, h.cell rfl, h.cell rfl, h.cell rfl, h.cell rfl⟩
def sixL : List UInt8 := [66, 71, 83, 70, 84, 82]
def sixS : ByteArray := ⟨sixL.toArray⟩
theorem okNums_iff (m : Mg) : okNums m ↔ ∀ c ∈ sixL, okNum m.kind c (numM m c) = true := by
  unfold okNums sixL
  constructor
  · rintro ⟨h1, h2, h3, h4, h5, h6⟩ c hc
    simp only [List.mem_cons, List.not_mem_nil, or_false] at hc
    rcases hc with rfl | rfl | rfl | rfl | rfl | rfl
    · exact h1
    · exact h2
    · exact h3
    · exact h4
    · exact h5
    · exact h6
  · intro h
    exact ⟨h 66 (by decide), h 71 (by decide), h 83 (by decide), h 70 (by decide), h 84 (by decide), h 82 (by decide)⟩
theorem rhas_is (w : World) (k : Int) (u : UInt8) (b : Bool) (h : Hid (hasF k u = b)) (x : Int) (hx : x = (u.toNat : Nat)) :
    Calls Try.prog 33 #[.int .i64 k, .int .u8 x] w fun e w' => e = .returned (.bool b) ∧ w = w' := by
  rw [hx, ← h.out]; exact rhas_any w k u
theorem fits_is (w : World) (n : Int) (b : Bool) (h : Hid (inNum n = b)) :
    Calls Try.prog 34 #[.int .i64 n] w fun e w' => e = .returned (.bool b) ∧ w = w' := by
  rw [← h.out]; exact fits_any w n
theorem number_below (w : World) (m : Mg) (ao : Option Addr) (n cap : Nat) (c : UInt8) :
    Calls Try.prog 32 #[.agg (mgC m (.slice ao n cap)).toArray, .int .u8 (c.toNat : Nat)] w fun e w' => e = .returned (.int .i64 (numM m c)) ∧ Below w.heap.size w w' :=
  (number_any w m ao n cap c).mono fun e w' ⟨h1, h2⟩ => ⟨h1, by rw [h2]; exact below_alloc' _ _⟩
theorem number_is (w : World) (m : Mg) (ao : Option Addr) (n cap : Nat) (c : UInt8) (x : Int) (hx : x = (c.toNat : Nat)) :
    Calls Try.prog 32 #[.agg (mgC m (.slice ao n cap)).toArray, .int .u8 x] w fun e w' => e = .returned (.int .i64 (numM m c)) ∧ Below w.heap.size w w' := by
  rw [hx]; exact number_below w m ao n cap c
end Go.Proofs.Ytlcpnpoleaanmaa
