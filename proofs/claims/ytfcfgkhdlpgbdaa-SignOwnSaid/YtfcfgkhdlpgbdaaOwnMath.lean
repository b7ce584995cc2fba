/- Each block of a signed text is matched by itself: the plain law. No conditions. -/
import Derived.Test.YtfcfgkhdlpgbdaaMatchMath
namespace Go.Proofs.Ytfcfgkhdlpgbdaa
set_option linter.unusedVariables false

theorem blk_mem {s : ByteArray} {B n k : Nat} {SN : Bk} {T : List ByteArray} (hT : (SN, T) = marksOf [] (pieces s B n)) (hk : k < n) : bytesOf (piece s B k) ∈ SN := by
  have h1 : SN = (marksOf [] (pieces s B n)).1 := by rw [← hT]
  have h2 : T = (marksOf [] (pieces s B n)).2 := by rw [← hT]
  have hl : T.length = n := by rw [h2, marksOf_len, pieces_len]
  obtain ⟨mk, hmk⟩ : ∃ mk, T[k]? = some mk := ⟨_, List.getElem?_eq_getElem (by omega)⟩
  have := marks_take [] (pieces s B n) k (piece s B k) mk (pieces_get s B n k hk) (by rw [← h2]; exact hmk)
  rw [h1]; exact this.1
/-- a block that is not whole is the last one -/
theorem blk_short {s : ByteArray} {B n k : Nat} (hB : 0 < B) (hn : n = cnt s.size B) (hk : k < n) (hs : ¬ (piece s B k).size = B) : 0 < s.size % B ∧ bytesOf (piece s B k) = bytesOf (s.extract (s.size - s.size % B) s.size) := by
  have h1 : ¬ k < s.size / B := fun h => hs ((piece_sizeB s B k hB).2 h)
  have h2 : k * B < s.size := (cnt_spec hB k).1 (by rw [← hn]; exact hk)
  have hd := Nat.div_add_mod s.size B
  have hm := Nat.mod_lt s.size hB
  have h3 : k = s.size / B := by
    rcases Nat.lt_or_ge (s.size / B) k with h | h
    · have h4 : (s.size / B + 1) * B ≤ k * B := Nat.mul_le_mul_right B h
      rw [Nat.add_mul, Nat.one_mul, Nat.mul_comm] at h4
      omega
    · omega
  have hr : 0 < s.size % B := by
    rw [h3, Nat.mul_comm] at h2
    omega
  refine ⟨hr, ?_⟩
  rw [h3]
  exact (piece_last s B hB hr).2.2
theorem okAt_self (s : ByteArray) (B k : Nat) (hs : (piece s B k).size = B) : okAt s B (piece s B k) (weakI (piece s B k)) k = true := by
  unfold okAt; exact decide_eq_true ⟨hs, rfl, rfl⟩
theorem own_is {s : ByteArray} {B n k : Nat} (hk : k < n) (hs : (piece s B k).size = B) : lawIs s B (piece s B k) (weakI (piece s B k)) (k : Int) n 0 = true := by
  unfold lawIs
  rw [List.any_eq_true]
  exact ⟨k, mem_upFrom.2 ⟨hk, okAt_self s B k hs⟩, by simp⟩
theorem own_not (s : ByteArray) (B n : Nat) (t : ByteArray) (weak : Int) : lawIs s B t weak (-1) n 0 = false := by
  unfold lawIs
  rw [List.any_eq_false]
  intro k _
  simp
theorem own_first {s : ByteArray} {B n k : Nat} (hk : k < n) (hs : (piece s B k).size = B) : ∃ j : Nat, lawM s B (piece s B k) (weakI (piece s B k)) n 0 = (j : Int) ∧ j ≤ k ∧ bytesOf (piece s B j) = bytesOf (piece s B k) := by
  have hm := mem_upFrom.2 ⟨hk, okAt_self s B k hs⟩
  have hp : (upFrom s B (piece s B k) (weakI (piece s B k)) n 0).Pairwise (· < ·) := List.Pairwise.sublist List.filter_sublist (List.pairwise_lt_range' (s := 0) (n := n - 0) 1 (by omega))
  unfold lawM
  cases hl : upFrom s B (piece s B k) (weakI (piece s B k)) n 0 with
  | nil => rw [hl] at hm; cases hm
  | cons j l =>
    rw [hl] at hm hp
    refine ⟨j, rfl, ?_, ?_⟩
    · rcases List.mem_cons.1 hm with e | e
      · omega
      · have := (List.pairwise_cons.1 hp).1 k e; omega
    · have hj : j ∈ upFrom s B (piece s B k) (weakI (piece s B k)) n 0 := by rw [hl]; simp
      have := (mem_upFrom.1 hj).2
      unfold okAt at this
      exact (of_decide_eq_true this).2.1
end Go.Proofs.Ytfcfgkhdlpgbdaa
