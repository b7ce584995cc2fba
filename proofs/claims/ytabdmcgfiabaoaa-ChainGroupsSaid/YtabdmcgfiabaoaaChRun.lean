/- chain's Run under an ideal book. Conditions: as named in each theorem. -/
import Derived.Test.YtabdmcgfiabaoaaChRow
import Derived.Test.YtabdmcgfiabaoaaDlApplyI
import Derived.OwnWalk
namespace Go.Proofs.Ytabdmcgfiabaoaa
open Go.RowKit Sg
set_option linter.unusedVariables false
set_option linter.unusedSimpArgs false
/-- what a row of deltas makes of a text, where it stops and why -/
noncomputable def runC (S : Bk) (a : ByteArray) : List Dl → Nat → ByteArray × Nat × Int
  | [], i => (a, i, 0)
  | d :: l, i => if (applyI S a d).2 = 0 then runC (applyB S a d) (applyI S a d).1 l (i + 1) else (ByteArray.empty, i, (applyI S a d).2)
noncomputable def runB (S : Bk) (a : ByteArray) : List Dl → Bk
  | [] => S
  | d :: l => if (applyI S a d).2 = 0 then runB (applyB S a d) (applyI S a d).1 l else applyB S a d
theorem applyB_len (S : Bk) (a : ByteArray) (d : Dl) : (applyB S a d).length ≤ S.length + 2 := by
  have h1 := addS_len S (bytesOf a)
  have h2 := addS_len (addS S (bytesOf a)) (bytesOf (runS a d.steps ByteArray.empty).1)
  unfold applyB
  split
  · split <;> omega
  · omega
theorem applyI_size (S : Bk) (a : ByteArray) (d : Dl) : (applyI S a d).1.size ≤ 524288 := by
  have h := runI_size a d.steps ByteArray.empty (by decide)
  unfold applyI
  split
  · split
    · split
      · split
        · exact h
        · exact Nat.zero_le _
      · exact Nat.zero_le _
    · exact Nat.zero_le _
  · exact Nat.zero_le _
theorem RowD.cells {w : World} {base n cap : Nat} {ao : Option Addr} {l : List DV} (h : RowD w base (.slice ao n cap) l) (hn : l.length = n) (h0 : 0 < n) :
    ∃ b off, ao = some ⟨b, off, none⟩ ∧ b < w.heap.size ∧ base ≤ b ∧ ∀ k, (hk : k < l.length) → w.cell? ⟨b, off + k * 4, none⟩ = some (.string l[k].d.basis) ∧ w.cell? ⟨b, off + k * 4 + 1, none⟩ = some (.string l[k].d.mark) ∧ w.cell? ⟨b, off + k * 4 + 2, none⟩ = some (.int .i64 l[k].d.size) ∧ w.cell? ⟨b, off + k * 4 + 3, none⟩ = some (.slice l[k].ao l[k].len l[k].cap) := by
  obtain ⟨b, off, rfl, hb, hc⟩ := rs_d (h.rs hn) h0
  exact ⟨b, off, rfl, hb, (World.ownsRow.lt h.1 b rfl).1, hc⟩
set_option maxRecDepth 100000 in
set_option maxHeartbeats 2000000 in
theorem chRun_any (w : World) (p m : Nat) (S : Bk) (hI : BookI w p m S) (hS : S.length ≤ 90000000) (a0 : ByteArray) (ha : a0.size ≤ 524288) (ao : Option Addr) (n cap base : Nat) (l : List DV) (hD : RowD w base (.slice ao n cap) l) (hl : l.length = n) (hm : m < base) (hn : n ≤ 1000) (hsl : ∀ x ∈ l, x.len ≤ 1000000) :
    Calls Try.prog 25 #[.pointer (some ⟨p, 0, none⟩), .string a0, .slice ao n cap] w fun e w' => e = .returned (.tuple #[.string (runC S a0 (dls l) 0).1, .int .i64 (runC S a0 (dls l) 0).2.1, .int .i64 (runC S a0 (dls l) 0).2.2]) ∧ BookI w' p m (runB S a0 (dls l)) ∧ Kept (fun k => some m = some k) w w' := by
  have hdz := dlZ_run
  have HD := Lib.hid hD
  have HL := Lib.hid hl
  have HSL := Lib.hid hsl
  obtain ⟨RC, hRC⟩ : ∃ R, R = runC S a0 (dls l) 0 := ⟨_, rfl⟩
  obtain ⟨RB, hRB⟩ : ∃ R, R = runB S a0 (dls l) := ⟨_, rfl⟩
  have HR0 : Hid (RC = runC S a0 ((dls l).drop 0) 0 ∧ RB = runB S a0 ((dls l).drop 0)) := Lib.hid ⟨hRC, hRB⟩
  rw [← hRC, ← hRB]
  obtain ⟨R1, R2, R3⟩ := RC
  simp only
  clear hRC hRB hD hl hsl
  go_enter Try.func25, Try.ntmps25
  go_wp2_with fail
  go_loopw [1, 15] (fun b i wr => ∃ (k : Nat) (a : ByteArray) (S' : Bk), b = .string a ∧ i = .int .i64 k ∧ k ≤ n ∧ a.size ≤ 524288 ∧ S'.length ≤ S.length + 2 * k ∧ ((R1, R2, R3) = runC S' a ((dls l).drop k) k ∧ RB = runB S' a ((dls l).drop k)) ∧ BookI wr p m S' ∧ Kept (fun k => some m = some k) w wr) (fun _ i _ => n - (intOf i).toNat)
  case atStart => exact ⟨0, a0, S, rfl, by go_num, Nat.zero_le _, ha, by omega, HR0.out, hI, Kept.refl _ _⟩
  case round =>
    clear hI
    obtain ⟨k, a, S', rfl, rfl, hk, ha', hS', hRR, hI, hK⟩ := hrel
    have HRR := Lib.hid hRR
    clear hRR
    by_cases hlt : k < n
    case neg =>
      have hkn : k = n := by omega
      subst hkn
      have HE : Hid ((R1, R2, R3) = (a, k, (0 : Int)) ∧ RB = S') := Lib.hid (by
        have h := HRR.out
        rw [List.drop_of_length_le (by unfold dls; rw [List.length_map, HL.out]; exact Nat.le_refl _)] at h
        exact h)
      have HI := Lib.hid hI
      have HK := Lib.hid hK
      clear hI hK
      go_wp2
      go_ret3
      have h := HE.out.1
      injection h with h1 h2
      injection h2 with h2 h3
      refine ⟨by rw [h1, h2, h3]; rfl, by rw [HE.out.2]; exact HI.out, HK.out⟩
    case pos =>
      obtain ⟨g, off, rfl, hgw, hgb, hc⟩ := HD.out.cells HL.out (by omega)
      have hks : k < l.length := by rw [HL.out]; exact hlt
      obtain ⟨c0, c1, c2, c3⟩ := hc k hks
      have hgm : ¬ (some m = some g) := fun e => by injection e with e; omega
      rw [← hK.cell hgw hgm] at c0 c1 c2 c3
      have hgood := (HD.out.kept hm hK).good l[k] (List.getElem_mem hks)
      have hdr : (dls l).drop k = l[k].d :: (dls l).drop (k + 1) := by
        unfold dls
        rw [List.drop_eq_getElem_cons (by rw [List.length_map]; exact hks), List.getElem_map]
      have hkp : ∀ W, Kept (fun k => some m = some k) wr W → Rs W l[k].ao l[k].len l[k].cap 3 l[k].d.steps St.c := fun W hW => ((HD.out.kept hm hK).kept hm hW |>.good l[k] (List.getElem_mem hks)).1
      have hnl := HSL.out l[k] (List.getElem_mem hks)
      obtain ⟨x, hx⟩ : ∃ x, x = l[k] := ⟨_, rfl⟩
      rw [← hx] at c0 c1 c2 c3 hgood hdr hkp hnl
      obtain ⟨⟨bx, mx, sx, lx⟩, ax, nx, kx⟩ := x
      simp only at c0 c1 c2 c3 hdr hkp hnl
      rw [hdr] at HRR
      obtain ⟨V, hV⟩ : ∃ V, V = wr.alloc (Obj.cells #[.string bx, .string mx, .int .i64 sx, .slice ax nx kx] 25) := ⟨_, rfl⟩
      obtain ⟨q, hq⟩ : ∃ q, q = wr.heap.size := ⟨_, rfl⟩
      have hG : Blk V q [.string bx, .string mx, .int .i64 sx, .slice ax nx kx] 25 := by rw [hV, hq]; exact Blk.new wr _ _
      have hbV : Below wr.heap.size wr V := by rw [hV]; exact below_alloc _ _
      have hkV : Kept (fun k => some m = some k) wr V := Kept.of_below _ hbV
      obtain ⟨hg1, hg2, hg3, hg4, hg5⟩ := hgood
      simp only at hg1 hg2 hg3 hg4 hg5
      have hnx : nx = lx.length := hg1.2.2.1.symm
      have HAP : Hid (nx ≤ 1000000 → Calls Try.prog 29 #[.pointer (some ⟨p, 0, none⟩), .string a, .agg #[.string bx, .string mx, .int .i64 sx, .slice ax nx kx]] V fun e w' => e = .returned (.tuple #[.string (applyI S' a ⟨bx, mx, sx, lx⟩).1, .int .i64 (applyI S' a ⟨bx, mx, sx, lx⟩).2]) ∧ BookI w' p m (applyB S' a ⟨bx, mx, sx, lx⟩) ∧ Kept (fun k => some m = some k) V w') :=
        Lib.hid (fun hnx => apply_i V p m S' (hI.next hbV) (by omega) a bx mx sx ax nx kx lx hg2 hg3 hg4 (hkp V hkV) hg5 hnx ha' (fun W hW => hkp W (hkV.trans hW (fun _ _ h => h))))
      have hxs := hg3
      have HV := Lib.hid hV
      have HQ := Lib.hid hq
      have HG := Lib.hid (And.intro hI (And.intro hK (And.intro hkV (And.intro hS' ha'))))
      have q0 := hG.cell (i := 0) rfl
      have q1 := hG.cell (i := 1) rfl
      have q2 := hG.cell (i := 2) rfl
      have q3 := hG.cell (i := 3) rfl
      have i0 : (k : Int) < (n : Int) := by omega
      obtain ⟨AI, hAI⟩ : ∃ A, A = applyI S' a ⟨bx, mx, sx, lx⟩ := ⟨_, rfl⟩
      obtain ⟨AB, hAB⟩ : ∃ A, A = applyB S' a ⟨bx, mx, sx, lx⟩ := ⟨_, rfl⟩
      rw [← hAI, ← hAB] at HAP
      have HA := Lib.hid (And.intro hAI hAB)
      clear hV hq hG hbV hkV hg1 hg2 hg3 hg4 hg5 hnx hI hK hdr hkp hx hAI hAB hc hks hxs
      obtain ⟨A1, A2⟩ := AI
      simp only at HAP
      go_wp2_with fail
      rw [← HV.out]
      refine (HAP.out hnl).mono ?_
      rintro e w5 ⟨rfl, hI5, hk5⟩
      obtain ⟨hI, hK, hkV, hS', ha'⟩ := HG.out
      have hK5 : Kept (fun k => some m = some k) w w5 := (hK.trans hkV (fun _ _ h => h)).trans hk5 (fun _ _ h => h)
      have HX := Lib.hid (And.intro hI5 hK5)
      have hAs : A1.size ≤ 524288 := by rw [show A1 = (applyI S' a ⟨bx, mx, sx, lx⟩).1 from congrArg Prod.fst HA.out.1]; exact applyI_size _ _ _
      have hBs : AB.length ≤ S'.length + 2 := by rw [HA.out.2]; exact applyB_len _ _ _
      have hSS := hS'
      clear hI hK hkV hI5 hk5 hK5 hS' ha' HAP q0 q1 q2 q3 c0 c1 c2 c3
      by_cases hA2 : A2 = 0
      case neg =>
        have hne : (A2 != 0) = true := by simpa using hA2
        have HE : Hid ((R1, R2, R3) = (ByteArray.empty, k, A2) ∧ RB = AB) := Lib.hid (by
          have h := HRR.out
          unfold runC runB at h
          rw [← HA.out.1, ← HA.out.2] at h
          rw [if_neg hA2, if_neg hA2] at h
          exact h)
        go_wp2
        go_ret3
        have h := HE.out.1
        injection h with h1 h2
        injection h2 with h2 h3
        refine ⟨by rw [h1, h2, h3]; rfl, by rw [HE.out.2]; exact HX.out.1, HX.out.2⟩
      case pos =>
        subst hA2
        have HE : Hid ((R1, R2, R3) = runC AB A1 ((dls l).drop (k + 1)) (k + 1) ∧ RB = runB AB A1 ((dls l).drop (k + 1))) := Lib.hid (by
          have h := HRR.out
          unfold runC runB at h
          rw [← HA.out.1, ← HA.out.2] at h
          rw [if_pos rfl, if_pos rfl] at h
          exact h)
        go_wp2
        go_roundw
        case rel => exact ⟨k + 1, A1, AB, rfl, by go_num, by omega, hAs, by omega, HE.out, HX.out.1, HX.out.2⟩
        case measure => simp [intOf]; omega
end Go.Proofs.Ytabdmcgfiabaoaa
