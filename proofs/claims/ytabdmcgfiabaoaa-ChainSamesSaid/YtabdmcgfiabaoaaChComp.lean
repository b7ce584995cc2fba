/- Two deltas as one: the plain law, and chain's Compose. Conditions: as named in each theorem. -/
import Derived.Test.YtabdmcgfiabaoaaDlOf
import Derived.Test.YtabdmcgfiabaoaaChPiece
import Derived.Test.YtabdmcgfiabaoaaDlRights
import Derived.Deep.RegionHeld3
import Derived.Laws.ResultCell
namespace Go.Proofs.Ytabdmcgfiabaoaa
open Go.RowKit
set_option linter.unusedVariables false
def Dl.v (d : Dl) (ao : Option Addr) (len cap : Nat) : Value := .agg #[.string d.basis, .string d.mark, .int .i64 d.size, .slice ao len cap]
def Dl.ok (d : Dl) : Prop := (Lit.int .i64 d.size).wf = true ∧ d.basis.size ≤ maxLen ∧ d.mark.size ≤ maxLen ∧ ∀ x ∈ d.steps, x.ok
def zeroD : Dl := ⟨ByteArray.empty, ByteArray.empty, 0, []⟩
/-- bytes of the second text, as bytes of the first one's basis -/
def sub (B : List By) : By → List By
  | .told c => [.told c]
  | .src a => (B[a.toNat]?).toList
def compB (a b : List St) : List By := (bytesL b).flatMap (sub (bytesL a))
def Far (a b : Dl) : Prop := ∃ x ∈ b.steps, x.text.size = 0 ∧ a.size < x.pos + x.len
def CompR (a b : Dl) (E : Int) (D : Dl) : Prop :=
  (¬ (RightP a ∧ RightP b) ∧ E = 1 ∧ D = zeroD) ∨
  (RightP a ∧ RightP b ∧ a.mark ≠ b.basis ∧ E = 13 ∧ D = zeroD) ∨
  (RightP a ∧ RightP b ∧ a.mark = b.basis ∧ Far a b ∧ E = 2 ∧ D = zeroD) ∨
  (RightP a ∧ RightP b ∧ a.mark = b.basis ∧ ¬ Far a b ∧ E = 0 ∧ D = ⟨a.basis, b.mark, b.size, stepsB (compB a.steps b.steps)⟩)
theorem CompR.one {a b : Dl} {E E' : Int} {D D' : Dl} (h : CompR a b E D) (h' : CompR a b E' D') : E = E' ∧ D = D' := by
  rcases h with ⟨h1, h2, h3⟩ | ⟨h1, h2, h3, h4, h5⟩ | ⟨h1, h2, h3, h4, h5, h6⟩ | ⟨h1, h2, h3, h4, h5, h6⟩ <;>
  rcases h' with ⟨k1, k2, k3⟩ | ⟨k1, k2, k3, k4, k5⟩ | ⟨k1, k2, k3, k4, k5, k6⟩ | ⟨k1, k2, k3, k4, k5, k6⟩ <;>
  first
    | (subst_vars; exact ⟨rfl, rfl⟩)
    | (exfalso; first | exact h1 ⟨k1, k2⟩ | exact k1 ⟨h1, h2⟩ | exact h3 k3 | exact k3 h3 | exact h4 k4 | exact k4 h4)
def CompPost (a b : Dl) (w : World) (e : Ending) (w' : World) : Prop :=
  ∃ (E : Int) (D : Dl) (v : Value), e = .returned (.tuple #[.agg #[.string D.basis, .string D.mark, .int .i64 D.size, v], .int .i64 E]) ∧ CompR a b E D ∧ Own w' w.heap.size v D.steps ∧ Below w.heap.size w w'
theorem CompPost.fail {a b : Dl} {w w' : World} {E : Int} (h : CompR a b E zeroD) (hB : Below w.heap.size w w') : CompPost a b w (.returned (.tuple #[.agg #[.string ByteArray.empty, .string ByteArray.empty, .int .i64 0, .slice none 0 0], .int .i64 E])) w' :=
  ⟨E, zeroD, _, rfl, h, Own.nil _ _, hB⟩
theorem sub_told (B : List By) (s : ByteArray) : (toldL s).flatMap (sub B) = toldL s := by
  unfold toldL
  generalize s.data.toList = l
  induction l with
  | nil => rfl
  | cons c l ih => rw [List.map_cons, List.flatMap_cons, ih]; rfl
theorem sub_src (B : List By) (p n : Nat) (h : p + n ≤ B.length) (hb : B.length ≤ 1000000000) : (srcL p n).flatMap (sub B) = (B.drop p).take n := by
  induction n with
  | zero => simp [srcL]
  | succ n ih =>
    rw [srcL_succ, List.flatMap_append, ih (by omega), List.take_add_one, List.getElem?_drop]
    congr 1
    have hw : w64 ((p : Int) + (n : Nat)) = ((p + n : Nat) : Int) := by
      rw [w64_in (WalkArith.wf_i64 (by omega))]; omega
    simp only [List.flatMap_cons, List.flatMap_nil, List.append_nil, sub, hw, Int.toNat_natCast]
theorem chRightS_pos {x : St} (h : rightS x) : posOk x ∧ (x.text.size = 0 → 0 ≤ x.pos ∧ 1 ≤ x.len ∧ x.pos + x.len ≤ 524288) := by
  unfold posOk
  by_cases ht : x.text.size = 0
  · have := h.2 ht
    unfold copyS at this
    exact ⟨WalkArith.wf_i64 (by omega), fun _ => by omega⟩
  · have := h.1 ht
    unfold textS at this
    exact ⟨by rw [this.1]; rfl, fun h2 => absurd h2 ht⟩
/-- one step of the second delta -/
theorem sub_step {B : List By} {x : St} (hx : rightS x) (hb : B.length ≤ 1000000000) (hf : x.text.size = 0 → x.pos + x.len ≤ B.length) : (bytes1 x).flatMap (sub B) = if x.text.size ≠ 0 then bytes1 x else (B.drop x.pos.toNat).take x.len.toNat := by
  by_cases ht : x.text.size ≠ 0
  · rw [if_pos ht]; unfold bytes1; rw [if_pos ht]; exact sub_told _ _
  · rw [if_neg ht]
    have h0 : x.text.size = 0 := by omega
    have h1 := (chRightS_pos hx).2 h0
    have h2 := hf h0
    unfold bytes1; rw [if_neg ht]
    obtain ⟨q, hq⟩ : ∃ q : Nat, x.pos = q := ⟨x.pos.toNat, by omega⟩
    rw [hq, Int.toNat_natCast]
    exact sub_src B q x.len.toNat (by omega) hb
theorem compB_succ (a l : List St) (k : Nat) (hk : k < l.length) : compB a (l.take (k + 1)) = compB a (l.take k) ++ (bytes1 l[k]).flatMap (sub (bytesL a)) := by
  unfold compB; rw [bytesL_succ l k hk, List.flatMap_append]
theorem compB_len (a b : List St) : (compB a b).length ≤ (bytesL b).length := by
  unfold compB
  generalize bytesL b = l
  induction l with
  | nil => simp
  | cons x l ih =>
    rw [List.flatMap_cons, List.length_append, List.length_cons]
    have : (sub (bytesL a) x).length ≤ 1 := by
      cases x with
      | told c => exact Nat.le_refl _
      | src f => unfold sub; cases (bytesL a)[f.toNat]? <;> simp
    omega
end Go.Proofs.Ytabdmcgfiabaoaa
