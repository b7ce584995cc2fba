/- A text's blocks, their weak sums and marks: the plain law. Conditions: as named in each theorem. -/
import Derived.Test.YtfcfgkhdlpgbdaaSumC
import Derived.Test.YtfcfgkhdlpgbdaaSeen
namespace Go.Proofs.Ytfcfgkhdlpgbdaa
open Go.RowKit
set_option linter.unusedVariables false

/-- how many blocks a text of a size has -/
def cnt (size block : Nat) : Nat := (size + block - 1) / block
def piece (s : ByteArray) (block i : Nat) : ByteArray := s.extract (i * block) ((i + 1) * block)
def pieces (s : ByteArray) (block n : Nat) : List ByteArray := (List.range n).map (piece s block)
theorem pieces_succ (s : ByteArray) (block n : Nat) : pieces s block (n + 1) = pieces s block n ++ [piece s block n] := by unfold pieces; rw [List.range_succ, List.map_append]; rfl
theorem pieces_len (s : ByteArray) (block n : Nat) : (pieces s block n).length = n := by simp [pieces]
theorem piece_end (s : ByteArray) (block i : Nat) : s.extract (i * block) (min ((i + 1) * block) s.size) = piece s block i := by
  unfold piece
  apply ByteArray.ext
  rw [ByteArray.data_extract, ByteArray.data_extract]
  have : s.data.size = s.size := rfl
  apply Array.ext
  · simp only [Array.size_extract]; omega
  · intro k h1 h2; simp
theorem cnt_spec {size block : Nat} (hb : 0 < block) (i : Nat) : i < cnt size block ↔ i * block < size := by
  unfold cnt
  rw [Nat.lt_div_iff_mul_lt hb]
  omega
theorem cnt_le {size block : Nat} (hb : 0 < block) : cnt size block ≤ size := by
  unfold cnt
  rw [Nat.div_le_iff_le_mul_add_pred hb]
  have : size ≤ block * size := Nat.le_mul_of_pos_left _ hb
  omega
def bytesOf (s : ByteArray) : List UInt8 := s.data.toList
def weakI (s : ByteArray) : Int := ((weak (bytesOf s) : Nat) : Int)
/-- texts are marked, one behind the other -/
abbrev Bk := List (List UInt8)
def markS (z : Bk × List ByteArray) (p : ByteArray) : Bk × List ByteArray := (addS z.1 (bytesOf p), z.2 ++ [numS (z.1.idxOf (bytesOf p) + 1)])
def marksOf (seen : Bk) (l : List ByteArray) : Bk × List ByteArray := l.foldl markS (seen, [])
theorem marksOf_snoc (seen : Bk) (l : List ByteArray) (p : ByteArray) : marksOf seen (l ++ [p]) = markS (marksOf seen l) p := by unfold marksOf; rw [List.foldl_append]; rfl
theorem marksOf_len (seen : Bk) (l : List ByteArray) : (marksOf seen l).2.length = l.length := by
  have h : ∀ (l : List ByteArray) (z : Bk × List ByteArray), (l.foldl markS z).2.length = z.2.length + l.length := by
    intro l
    induction l with
    | nil => intro z; rfl
    | cons p l ih => intro z; rw [List.foldl_cons, ih]; unfold markS; simp; omega
  unfold marksOf
  rw [h]; simp
theorem marksOf_seen (seen : Bk) (l : List ByteArray) : (marksOf seen l).1 = (l.map bytesOf).foldl addS seen := by
  have h : ∀ (l : List ByteArray) (z : Bk × List ByteArray), (l.foldl markS z).1 = (l.map bytesOf).foldl addS z.1 := by
    intro l
    induction l with
    | nil => intro z; rfl
    | cons p l ih => intro z; rw [List.foldl_cons, ih]; rfl
  exact h l _
theorem fold_addS_len (l : Bk) : ∀ seen : Bk, (l.foldl addS seen).length ≤ seen.length + l.length := by
  induction l with
  | nil => intro seen; simp
  | cons s l ih => intro seen; rw [List.foldl_cons]; have := ih (addS seen s); have := addS_len seen s; simp only [List.length_cons]; omega
end Go.Proofs.Ytfcfgkhdlpgbdaa
