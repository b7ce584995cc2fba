/- chapter 6's blocks. Conditions: as named in each theorem. -/
import Derived.Test.YtgemhgllifhckaaSgRef
import Derived.Test.YtgemhgllifhckaaQF
namespace Go.Proofs.Ytgemhgllifhckaa
open Go.RowKit Sg
set_option linter.unusedVariables false
set_option linter.unusedSimpArgs false
def winsL (s : ByteArray) (B k : Nat) : List ByteArray := (List.range k).map (fun i => s.extract i (i + B))
theorem winsL_succ (s : ByteArray) (B k : Nat) : winsL s B (k + 1) = winsL s B k ++ [s.extract k (k + B)] := by unfold winsL; rw [List.range_succ, List.map_append]; rfl
set_option maxRecDepth 100000 in
set_option maxHeartbeats 1000000 in
theorem dlBlocks_any (w : World) (b s : ByteArray) (B : Nat) (hbs : b.size ≤ 150) (hs : s.size ≤ 150) (hb : 16 ≤ B) (hb2 : B ≤ 1024) :
    Calls Try.prog 36 #[.string b, .string s, .int .i64 B] w fun e w' => ∃ v, e = .returned v ∧ RowS w' w.heap.size v (blksL b s B) ∧ (blksL b s B).length ≤ 100000 ∧ Below w.heap.size w w' := by
  obtain ⟨i1, hj, hy0, hy1, hy2⟩ := info_parts infoStrS
  obtain ⟨P, hP⟩ : ∃ P, P = pieces b B (cnt b.size B) := ⟨_, rfl⟩
  have hPl : P.length ≤ 150 := by rw [hP, pieces_len]; exact Nat.le_trans (cnt_le (by omega)) hbs
  have HP := Lib.hid hP
  have HRB := Lib.hid (refBlocks_any w b B (by omega) hb hb2)
  rw [← hP] at HRB
  clear hP
  obtain ⟨r, hr⟩ : ∃ r, r = b.size % B := ⟨_, rfl⟩
  have hmod : Int.tmod (b.size : Int) (B : Int) = (r : Int) := by rw [hr]; rfl
  have hrl : r ≤ b.size := by rw [hr]; exact Nat.mod_le _ _
  have hwr : IntKind.i64.wrap (r : Int) = (r : Int) := IntWalk.i64_in _ (by omega)
  have HR := Lib.hid hr
  clear hr
  go_enter Try.func36, Try.ntmps36
  go_wp2_with fail
  refine HRB.out.mono ?_
  rintro e w1 ⟨v1, rfl, hO1, hB1⟩
  go_wp2_with fail
  go_loopw [7, 8] (fun v i wr => ∃ k : Nat, k ≤ s.size + 1 - B ∧ i = .int .i64 k ∧ RowS wr w.heap.size v (P ++ winsL s B k) ∧ Below w.heap.size w wr) (fun _ i _ => s.size + 1 - (intOf i).toNat)
  case atStart => exact ⟨0, by omega, by simp, by simpa [winsL] using hO1, hB1⟩
  case round =>
    obtain ⟨k, hk, rfl, hO, hB⟩ := hrel
    have hwl : (winsL s B k).length = k := by simp [winsL]
    have hll : (P ++ winsL s B k).length = P.length + k := by rw [List.length_append, hwl]
    have hS := hB.size
    by_cases hlt : k + B ≤ s.size
    · have hws := winsL_succ s B k
      have hLs : P ++ winsL s B (k + 1) = (P ++ winsL s B k) ++ [s.extract k (k + B)] := by rw [hws, List.append_assoc]
      obtain ⟨L, hL⟩ : ∃ L, L = P ++ winsL s B k := ⟨_, rfl⟩
      rw [← hL] at hO hll hLs
      have HLS := Lib.hid hLs
      have HLL := Lib.hid hll
      obtain ⟨ao, kw, rfl⟩ := slice_of hO
      have hO2 : wr.ownsRow w.heap.size 9 1 (.slice ao L.length kw) L.length (L.map Value.string) := hO
      clear hO hws hLs hll hwl hL
      go_wp2_with (at_builtin; refine wpList_append_own _ rfl _ _ 36 rfl w.heap.size 9 i1 (.string ByteArray.empty) 1 16 Try.underlying36 hj hy0 hy1 hy2 rfl (by decide) _ _ _ rfl (hO2.alloc _) ⟨wr.heap.size, 0, none⟩ 1 1 [.string (s.extract k (k + B))] rfl rfl (cell1_new _ _ _) (one1 _ rfl) (by unfold maxLen; have := HLL.out; omega) (by have := HLL.out; omega) (by simp; omega) ?_)
      intro v' w3 hO3 hg3 _
      have hO4 : RowS w3 w.heap.size v' (P ++ winsL s B (k + 1)) := by rw [HLS.out]; exact RowS.snoc hO3
      have hB4 : Below w.heap.size w w3 := (hB.alloc (by omega) _).grown hg3 (by simp; omega) (fun j hj => by have := World.ownsRow.lt hO2 j hj; omega)
      clear hO3 hg3 hO2 hB
      go_wp2
      go_roundw
      case rel => exact ⟨k + 1, by omega, by go_num, hO4, hB4⟩
      case measure => simp [intOf]; omega
    · have hke : k = s.size + 1 - B := by omega
      obtain ⟨L, hL⟩ : ∃ L, L = P ++ winsL s B k := ⟨_, rfl⟩
      rw [← hL] at hO hll
      have HLL := Lib.hid hll
      have hbl : blksL b s B = L ++ (if r ≤ s.size then [s.extract (s.size - r) s.size] else []) := by
        unfold blksL
        rw [hL, HP.out, HR.out, hke]; rfl
      have HBL := Lib.hid hbl
      obtain ⟨ao, kw, rfl⟩ := slice_of hO
      clear hL hll hwl hbl hke
      by_cases hrs : r ≤ s.size
      · have hrs2 : (r : Int) ≤ (s.size : Int) := by omega
        have d1 : decide ((r : Int) ≤ (s.size : Int)) = true := decide_eq_true hrs2
        rw [if_pos hrs] at HBL
        obtain ⟨sr, hsr⟩ : ∃ sr, sr = s.size - r := ⟨_, rfl⟩
        have esr : (s.size : Int) - (r : Int) = (sr : Int) := by omega
        have wsr : IntKind.i64.wrap (sr : Int) = (sr : Int) := IntWalk.i64_in _ (by omega)
        have hO2 : wr.ownsRow w.heap.size 9 1 (.slice ao L.length kw) L.length (L.map Value.string) := hO
        have hlt2 : ¬ ((k : Int) + (B : Int) ≤ (s.size : Int)) := by omega
        clear hO
        go_wp2_with (at_builtin; refine wpList_append_own _ rfl _ _ 36 rfl w.heap.size 9 i1 (.string ByteArray.empty) 1 16 Try.underlying36 hj hy0 hy1 hy2 rfl (by decide) _ _ _ rfl (hO2.alloc _) ⟨wr.heap.size, 0, none⟩ 1 1 [.string (s.extract (s.size - r) s.size)] rfl rfl (cell1_new _ _ _) (one1 _ rfl) (by unfold maxLen; have := HLL.out; omega) (by have := HLL.out; omega) (by simp; omega) ?_)
        intro v' w3 hO3 hg3 _
        have hO4 : RowS w3 w.heap.size v' (blksL b s B) := by rw [HBL.out]; exact RowS.snoc hO3
        have hB4 : Below w.heap.size w w3 := (hB.alloc (by omega) _).grown hg3 (by simp; omega) (fun j hj => by have := World.ownsRow.lt hO2 j hj; omega)
        clear hO3 hg3 hO2 hB
        go_wp2
        go_ret
        exact ⟨_, rfl, hO4, by rw [HBL.out, List.length_append, HLL.out]; simp; omega, hB4⟩
      · have hrs2 : ¬ (r : Int) ≤ (s.size : Int) := by omega
        have d1 : decide ((r : Int) ≤ (s.size : Int)) = false := decide_eq_false hrs2
        rw [if_neg hrs, List.append_nil] at HBL
        have hlt2 : ¬ ((k : Int) + (B : Int) ≤ (s.size : Int)) := by omega
        go_wp2
        go_ret
        exact ⟨_, rfl, by rw [HBL.out]; exact hO, by rw [HBL.out, HLL.out]; omega, hB⟩
end Go.Proofs.Ytgemhgllifhckaa
