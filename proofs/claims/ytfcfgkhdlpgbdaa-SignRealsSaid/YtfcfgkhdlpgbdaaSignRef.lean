/- the document's Blocks and Sign, with any book. Conditions: as named in each theorem. -/
import Derived.Test.YtfcfgkhdlpgbdaaBookish
import Derived.Test.YtfcfgkhdlpgbdaaSignSign
namespace Go.Proofs.Ytfcfgkhdlpgbdaa
open Go.RowKit
set_option linter.unusedVariables false

theorem cell_new0 (w : World) (x : Value) (e : TypeId) : ∀ j u, [x][j]? = some u → (w.alloc (.cells #[x] e)).cell? ((⟨w.heap.size, 0, none⟩ : Addr).add j) = some u := sg_new w x e
set_option maxRecDepth 100000 in
set_option maxHeartbeats 600000 in
theorem refBlocks_any (w : World) (s : ByteArray) (block : Nat) (hs : s.size ≤ 524288) (hb : 16 ≤ block) (hb2 : block ≤ 1024) :
    Calls Try.prog 22 #[.string s, .int .i64 block] w fun e w' => ∃ v, e = .returned v ∧ RowS w' w.heap.size v (pieces s block (cnt s.size block)) ∧ Below w.heap.size w w' := by
  obtain ⟨i1, hj, hy0, hy1, hy2⟩ := info_parts infoStrS
  obtain ⟨n, hn⟩ : ∃ n, n = cnt s.size block := ⟨_, rfl⟩
  have hcs := @cnt_spec s.size block (by omega)
  have hnl : n ≤ 524288 := by rw [hn]; exact Nat.le_trans (cnt_le (by omega)) hs
  have HN := Lib.hid hn
  rw [← hn] at hcs
  rw [← hn]
  have HC := Lib.hid hcs
  clear hn hcs
  go_enter Try.func22, Try.ntmps22
  go_wp2
  go_loopw [5, 6] (fun v i wr => ∃ k : Nat, k ≤ n ∧ i = .int .i64 (k * block : Nat) ∧ RowS wr w.heap.size v (pieces s block k) ∧ Below w.heap.size w wr) (fun _ i _ => s.size + block - (intOf i).toNat)
  case atStart => exact ⟨0, by omega, by simp, World.ownsRow_nil _ _ _ _, Below.refl _ _⟩
  case round =>
    obtain ⟨k, hk, rfl, hO, hB⟩ := hrel
    have hpl : (pieces s block k).length = k := pieces_len _ _ _
    have hps := pieces_succ s block k
    have hS := hB.size
    have hm : (k + 1) * block = k * block + block := by rw [Nat.add_mul, Nat.one_mul]
    have hpe := piece_end s block k
    by_cases hlt : k < n
    · have hkb : k * block < s.size := (HC.out k).1 hlt
      have hkn : k + 1 ≤ n := hlt
      rw [hm] at hpe
      obtain ⟨a, ha⟩ : ∃ a, a = k * block := ⟨_, rfl⟩
      rw [← ha] at hkb hpe hm
      rw [← ha]
      obtain ⟨L, hL⟩ : ∃ L, L = pieces s block k := ⟨_, rfl⟩
      rw [← hL] at hO hpl hps
      obtain ⟨p, hp⟩ : ∃ p, p = piece s block k := ⟨_, rfl⟩
      rw [← hp] at hpe hps
      have HP := Lib.hid hps
      have HM := Lib.hid hm
      have HA := Lib.hid ha
      have HL := Lib.hid hpl
      clear hp hL ha hps hm hpl hk
      obtain ⟨ao, kw, rfl⟩ := slice_of hO
      have hO2 : wr.ownsRow w.heap.size 9 1 (.slice ao L.length kw) L.length (L.map Value.string) := hO
      clear hO
      by_cases he : s.size < a + block
      · have hmn : min (a + block) s.size = s.size := by omega
        rw [hmn] at hpe
        clear hmn
        go_wp2_with (at_builtin; refine wpList_append_own _ rfl _ _ 29 rfl w.heap.size 9 i1 (.string ByteArray.empty) 1 16 Try.underlying29 hj hy0 hy1 hy2 rfl (by decide) _ _ _ rfl (hO2.alloc _) ⟨wr.heap.size, 0, none⟩ 1 1 [.string p] rfl rfl (cell1_new _ _ _) (one1 _ rfl) (by unfold maxLen; have := HL.out; omega) (by have := HL.out; omega) (by simp; omega) ?_)
        intro v' w3 hO3 hg3 _
        have hO4 : RowS w3 w.heap.size v' (pieces s block (k + 1)) := by rw [HP.out]; exact RowS.snoc hO3
        have hB4 : Below w.heap.size w w3 := (hB.alloc (by omega) _).grown hg3 (by simp; omega) (fun j hj => by have := World.ownsRow.lt hO2 j hj; omega)
        clear hO3 hg3 hO2 hB
        go_wp2
        go_roundw
        case rel => exact ⟨k + 1, by omega, by rw [HM.out]; go_num, hO4, hB4⟩
        case measure => simp [intOf]; omega
      · have hmn : min (a + block) s.size = a + block := by omega
        rw [hmn] at hpe
        clear hmn
        go_wp2_with (at_builtin; refine wpList_append_own _ rfl _ _ 29 rfl w.heap.size 9 i1 (.string ByteArray.empty) 1 16 Try.underlying29 hj hy0 hy1 hy2 rfl (by decide) _ _ _ rfl (hO2.alloc _) ⟨wr.heap.size, 0, none⟩ 1 1 [.string p] rfl rfl (cell1_new _ _ _) (one1 _ rfl) (by unfold maxLen; have := HL.out; omega) (by have := HL.out; omega) (by simp; omega) ?_)
        intro v' w3 hO3 hg3 _
        have hO4 : RowS w3 w.heap.size v' (pieces s block (k + 1)) := by rw [HP.out]; exact RowS.snoc hO3
        have hB4 : Below w.heap.size w w3 := (hB.alloc (by omega) _).grown hg3 (by simp; omega) (fun j hj => by have := World.ownsRow.lt hO2 j hj; omega)
        clear hO3 hg3 hO2 hB
        go_wp2
        go_roundw
        case rel => exact ⟨k + 1, by omega, by rw [HM.out]; go_num, hO4, hB4⟩
        case measure => simp [intOf]; omega
    · have hkn : k = n := by omega
      have hnb : ¬ k * block < s.size := fun e => hlt ((HC.out k).2 e)
      subst hkn
      have h2 : k * block ≤ 1000000000 := by
        have : k * block ≤ 524288 * 1024 := Nat.mul_le_mul hnl hb2
        omega
      obtain ⟨a, ha⟩ : ∃ a, a = k * block := ⟨_, rfl⟩
      rw [← ha] at hnb h2
      rw [← ha]
      clear ha hm hpe hps
      go_wp2
      go_ret
      exact ⟨_, rfl, hO, hB⟩
end Go.Proofs.Ytfcfgkhdlpgbdaa
