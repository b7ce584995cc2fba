/- the reference's Bytes of a signature. Conditions: as named in each theorem. -/
import Derived.Test.YtfcfgkhdlpgbdaaSignBytesA
import Derived.Deep.RegionHeld3
namespace Go.Proofs.Ytfcfgkhdlpgbdaa
open Go.RowKit
set_option linter.unusedVariables false

theorem appL (a b : ByteArray) : (a ++ b).data.toList = a.data.toList ++ b.data.toList := by simp
theorem bsz (a : ByteArray) : a.data.toList.length = a.size := by rw [Array.length_toList]; rfl
theorem bmk {a : ByteArray} {l : List UInt8} (h : a.data.toList = l) : a = ⟨l.toArray⟩ := by
  subst h
  rfl
theorem bl_drw {w W : World} (h : Below w.heap.size w W) : Below w.heap.size w W.drew := ⟨h.os, h.tape, h.output, h.size, h.block⟩
set_option maxRecDepth 100000 in
set_option maxHeartbeats 2000000 in
theorem refSgBytes_ok (w : World) (b z : Nat) (ao : Option Addr) (n cap : Nat) (bo : Option Addr) (m cap2 : Nat) (W : List Int) (T : List ByteArray)
    (hW : Rs w ao n cap 1 W (fun x => [.int .i64 x])) (hT : Rs w bo m cap2 1 T (fun x => [.string x])) (hok : sigOk b z W T) :
    Calls Try.prog 27 #[.agg #[.int .i64 b, .int .i64 z, .slice ao n cap, .slice bo m cap2]] w fun e w' => e = .returned (.tuple #[.string ⟨(sigL b z W T).toArray⟩, .int .i64 0]) ∧ Below w.heap.size w w' := by
  have hb1 := hok.1
  have hb2 := hok.2.1
  have hz3 := hok.2.2.1
  have hz4 := hok.2.2.2.1
  have lW : W.length = n := hW.2.2.1
  have lT : T.length = m := hT.2.2.1
  have hmn : m = n := by rw [← lW, ← lT]; exact hok.2.2.2.2.2.1
  have hn : n ≤ 524288 := by
    have h1 := hok.2.2.2.2.1
    have h2 := cnt_le (size := (z : Int).toNat) (block := (b : Int).toNat) (by omega)
    omega
  obtain ⟨V1, hV1⟩ : ∃ V, V = w.alloc (Obj.cells #[.int .i64 b, .int .i64 z, .slice ao n cap, .slice bo m cap2] 31) := ⟨_, rfl⟩
  obtain ⟨p1, hp1⟩ : ∃ p, p = w.heap.size := ⟨_, rfl⟩
  have hG1 : Blk V1 p1 [.int .i64 b, .int .i64 z, .slice ao n cap, .slice bo m cap2] 31 := by rw [hV1, hp1]; exact Blk.new _ _ _
  have hB1 : Below w.heap.size w V1 := by rw [hV1]; exact bel_alloc _ _
  have HR := Lib.hid (refRight_any V1 b z ao n cap bo m cap2 W T (wfI _ (by omega) (by omega)) (wfI _ (by omega) (by omega)) (hW.next hB1) (hT.next hB1) (sigOk_wfW hok) (fun x hx => by rw [sigOk_32 hok x hx]; decide) (by omega) (by omega))
  have HOK := Lib.hid hok
  have HP := Lib.hid (And.intro hG1 (And.intro hB1 (And.intro hW (And.intro hT (And.intro lW (And.intro lT hmn))))))
  have c0 := hG1.cell (i := 0) rfl
  have c1 := hG1.cell (i := 1) rfl
  have c2 := hG1.cell (i := 2) rfl
  have c3 := hG1.cell (i := 3) rfl
  have HV1 := Lib.hid hV1
  have HP1 := Lib.hid hp1
  clear hV1 hp1 hG1 hB1 hW hT hok lW lT hmn
  go_enter Try.func27, Try.ntmps27
  go_upto_region 1 with fail
  rw [← HP1.out, ← HV1.out]
  go_wp2_with fail
  refine HR.out.mono ?_
  rintro e w2 ⟨⟨r, rfl, hr⟩, hb2'⟩
  have hr1 : r = true := hr.2 HOK.out
  subst hr1
  have hG2 := HP.out.1.belowB hb2'
  have HG2 := Lib.hid (And.intro hG2 (bl_nx HP.out.2.1 hb2'))
  have HRW := Lib.hid (And.intro ((HP.out.2.2.1.next HP.out.2.1).next hb2') ((HP.out.2.2.2.1.next HP.out.2.1).next hb2'))
  have d0 := hG2.cell (i := 0) rfl
  have d1 := hG2.cell (i := 1) rfl
  have hlt2 := hG2.lt
  have hsb : (numBs b).size ≤ 9 := by rw [numBs_size]; exact numL_le9 b (by omega)
  have hsz : (numBs z).size ≤ 9 := by rw [numBs_size]; exact numL_le9 z (by omega)
  have hsum : ¬ 9223372036854775807 < (numBs b).size + (numBs z).size := by omega
  clear c0 c1 c2 c3 hr hb2' hG2
  go_wp2_with fail
  go_region_held3 (fun w' => w'.cell? ⟨p1, 0, none⟩ = some (.int .i64 b) ∧ w'.cell? ⟨p1, 1, none⟩ = some (.int .i64 z) ∧ Below w2.heap.size w2 w')
    (first | exact ⟨e0, e1, hbq⟩ | exact ⟨d0, d1, bl_drw (Below.refl _ w2)⟩)
    (first
      | (go_at_call 53; refine (refBytes_any _ _ (by omega)).mono ?_; rintro e w4 ⟨rfl, hb4⟩; obtain ⟨e0', e1', eb'⟩ := ‹World.cell? _ _ = _ ∧ World.cell? _ _ = _ ∧ Below _ _ _›; have e0 := (hb4.cell (p := ⟨p1, 0, none⟩) (World.block_lt_of_cell? _ _ e0')).trans e0'; have e1 := (hb4.cell (p := ⟨p1, 1, none⟩) (World.block_lt_of_cell? _ _ e1')).trans e1'; have hbq := bl_nx eb' hb4; clear e0' e1' eb' hb4))
  have HA : Hid (Below w2.heap.size w2 w4) := Lib.hid hbq
  clear e0 e1 hbq
  have HN := Lib.hid (sigNums_bd HOK.out)
  have hS1 : (numBs b ++ numBs z).data.toList = numsL (sigNums b z (W.take 0)) := by simp [appL, sigNums, numsL, numBs_list]
  obtain ⟨S1, hS1e⟩ : ∃ s, s = numBs b ++ numBs z := ⟨_, rfl⟩
  rw [← hS1e] at hS1
  rw [← hS1e]
  have HS1 := Lib.hid hS1
  clear hS1 hS1e hsb hsz hsum d0 d1
  go_wp2_with fail
  go_loopw [4, 5] (fun o i wr => ∃ (k : Nat) (s : ByteArray), k ≤ n ∧ i = .int .i64 k ∧ o = .string s ∧ s.data.toList = numsL (sigNums b z (W.take k)) ∧ Below w2.heap.size w2 wr) (fun _ i _ => n - (intOf i).toNat)
  case atStart => exact ⟨0, S1, by omega, rfl, rfl, HS1.out, HA.out⟩
  case round =>
    clear HA HS1
    obtain ⟨k, s, hk, rfl, rfl, hs, hB⟩ := hrel
    have hG := HG2.out.1.belowB hB
    have a2 := hG.cell (i := 2) rfl
    have hlen : s.size ≤ 9 * (k + 2) := by
      have h1 := numsL_len (sigNums b z (W.take k)) (fun y hy => (HN.out y (by simp only [sigNums, List.mem_cons] at hy ⊢; rcases hy with h | h | h; exact .inl h; exact .inr (.inl h); exact .inr (.inr (List.mem_of_mem_take h)))).2)
      rw [← hs, bsz] at h1
      have h2 := List.length_take_le k W
      simp only [sigNums, List.length_cons] at h1
      omega
    by_cases hlt : k < n
    · obtain ⟨bb, off, x, rfl, hx, a1⟩ := (HRW.out.1.next hB).one hlt
      have hxb := HN.out x (by simp only [sigNums, List.mem_cons]; exact .inr (.inr (List.mem_of_getElem? hx)))
      obtain ⟨X, rfl⟩ : ∃ X : Nat, x = X := ⟨x.toNat, by omega⟩
      have hX : X ≤ 4611686018427387903 := by omega
      have hS9 : (numBs X).size ≤ 9 := by rw [numBs_size]; exact numL_le9 X hX
      have hsum : ¬ 9223372036854775807 < s.size + (numBs X).size := by omega
      have hnx : (s ++ numBs X).data.toList = numsL (sigNums b z (W.take (k + 1))) := by
        have h1 := numsL_take W k _ hx
        rw [appL, hs, numBs_list]
        simp only [sigNums, numsL, List.flatMap_cons] at h1 ⊢
        rw [h1]
        simp [List.append_assoc]
      have HNX := Lib.hid hnx
      have HB := Lib.hid hB
      clear hnx hB hs hx hxb hG hS9
      go_wp2_with fail
      refine (refBytes_any X _ hX).mono ?_
      rintro e w5 ⟨rfl, hb5⟩
      have hB5 : Below w2.heap.size w2 w5 := bl_nx HB.out hb5
      clear hb5 a1 a2
      go_wp2
      go_roundw
      case rel => exact ⟨k + 1, _, by omega, by go_num, rfl, HNX.out, hB5⟩
      case measure => simp [intOf]; omega
    · have hkn : k = n := by omega
      have htk : W.take k = W := List.take_of_length_le (by have := HP.out.2.2.2.2.1; omega)
      rw [htk] at hs
      have HS := Lib.hid hs
      have HB := Lib.hid hB
      have hm : m ≤ 524288 := by have := HP.out.2.2.2.2.2.2; omega
      have hls : s.size ≤ 9437220 := by omega
      have HT32 := Lib.hid (sigOk_32 HOK.out)
      clear hs hG hB htk hlen
      go_wp2_with fail
      go_loopw [4, 6] (fun o i wr => ∃ (j : Nat) (s : ByteArray), j ≤ m ∧ i = .int .i64 j ∧ o = .string s ∧ s.data.toList = numsL (sigNums b z W) ++ textsL (T.take j) ∧ s.size ≤ 9437220 + 32 * j ∧ Below w2.heap.size w2 wr) (fun _ i _ => m - (intOf i).toNat)
      case atStart => exact ⟨0, s, by omega, rfl, rfl, by rw [HS.out]; simp [textsL], by omega, HB.out⟩
      case round =>
        clear HB a2 HS hls
        obtain ⟨j, s, hj, rfl, rfl, hs, hls, hB⟩ := hrel
        have hG := HG2.out.1.belowB hB
        have a3 := hG.cell (i := 3) rfl
        by_cases hlt2 : j < m
        · obtain ⟨bb, off, x, rfl, hx, a1⟩ := (HRW.out.2.next hB).one hlt2
          have hx32 := HT32.out x (List.mem_of_getElem? hx)
          have hsum : ¬ 9223372036854775807 < s.size + x.size := by omega
          have hxl : x.size ≤ 32 := by omega
          have hnx : (s ++ x).data.toList = numsL (sigNums b z W) ++ textsL (T.take (j + 1)) := by
            rw [appL, hs, textsL_take T j x hx, List.append_assoc]
          have hnl : (s ++ x).size ≤ 9437220 + 32 * (j + 1) := by rw [ByteArray.size_append]; omega
          have HNX := Lib.hid (And.intro hnx hnl)
          have HB := Lib.hid hB
          clear hnx hnl hB hs hx hG hx32
          go_wp2
          go_roundw
          case rel => exact ⟨j + 1, _, by omega, by go_num, rfl, HNX.out.1, HNX.out.2, HB.out⟩
          case measure => simp [intOf]; omega
        · have htk : T.take j = T := List.take_of_length_le (by have := HP.out.2.2.2.2.2.1; omega)
          rw [htk] at hs
          have HS := Lib.hid (bmk hs)
          have HB := Lib.hid hB
          clear hs hB hG htk
          go_wp2
          go_ret2
          exact ⟨by rw [HS.out]; rfl, bl_nx HG2.out.2 HB.out⟩

set_option maxHeartbeats 1000000 in
theorem refSgBytes_bad (w : World) (b z : Int) (ao : Option Addr) (n cap : Nat) (bo : Option Addr) (m cap2 : Nat) (W : List Int) (T : List ByteArray) (wb : (Lit.int .i64 b).wf = true) (wz : (Lit.int .i64 z).wf = true)
    (hW : Rs w ao n cap 1 W (fun x => [.int .i64 x])) (hT : Rs w bo m cap2 1 T (fun x => [.string x])) (hw : ∀ x ∈ W, (Lit.int .i64 x).wf = true) (ht : ∀ x ∈ T, x.size ≤ maxLen) (hn : n ≤ 1000000) (hm : m ≤ 1000000) (hok : ¬ sigOk b z W T) :
    Calls Try.prog 27 #[.agg #[.int .i64 b, .int .i64 z, .slice ao n cap, .slice bo m cap2]] w fun e w' => e = .returned (.tuple #[.string ByteArray.empty, .int .i64 1]) ∧ Below w.heap.size w w' := by
  obtain ⟨V1, hV1⟩ : ∃ V, V = w.alloc (Obj.cells #[.int .i64 b, .int .i64 z, .slice ao n cap, .slice bo m cap2] 31) := ⟨_, rfl⟩
  obtain ⟨p1, hp1⟩ : ∃ p, p = w.heap.size := ⟨_, rfl⟩
  have hG1 : Blk V1 p1 [.int .i64 b, .int .i64 z, .slice ao n cap, .slice bo m cap2] 31 := by rw [hV1, hp1]; exact Blk.new _ _ _
  have hB1 : Below w.heap.size w V1 := by rw [hV1]; exact bel_alloc _ _
  have HR := Lib.hid (refRight_any V1 b z ao n cap bo m cap2 W T wb wz (hW.next hB1) (hT.next hB1) hw ht hn hm)
  have HB1 := Lib.hid hB1
  have HOK := Lib.hid hok
  have c0 := hG1.cell (i := 0) rfl
  have c1 := hG1.cell (i := 1) rfl
  have c2 := hG1.cell (i := 2) rfl
  have c3 := hG1.cell (i := 3) rfl
  have HV1 := Lib.hid hV1
  have HP1 := Lib.hid hp1
  clear hV1 hp1 hG1 hB1 hW hT hok hw ht
  go_enter Try.func27, Try.ntmps27
  go_upto_region 1 with fail
  rw [← HP1.out, ← HV1.out]
  go_wp2_with fail
  refine HR.out.mono ?_
  rintro e w2 ⟨⟨r, rfl, hr⟩, hb2'⟩
  have hr1 : r = false := by
    cases r
    · rfl
    · exact absurd (hr.1 rfl) HOK.out
  subst hr1
  clear hr
  go_wp2
  go_ret2
  exact ⟨rfl, bl_nx HB1.out hb2'⟩
end Go.Proofs.Ytfcfgkhdlpgbdaa
