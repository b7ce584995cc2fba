/- DeltaApplies: the walk. Conditions: none. -/
import Derived.Test.YtgemhgllifhckaaDlRefReal
import Derived.Test.YtgemhgllifhckaaDlFew
namespace Go.Proofs.Ytgemhgllifhckaa
open Go.RowKit Sg
set_option linter.unusedVariables false
set_option linter.unusedSimpArgs false

theorem refR_run (w : World) : (zeroValue 38).run Try.prog w = .ok (.agg #[.bool false, .slice none 0 0]) w := by kernel_rfl
set_option maxRecDepth 100000 in
set_option maxHeartbeats 2000000 in
theorem deltaApplies_walk (w : World) (s : ByteArray) (hs : s.size ≤ 140737488351232) (c : Array Value) (o : Kd.ok w (.agg [.str, .str, .int .i64, .sl (.agg [.int .i64, .int .i64, .str])]) c.toList) :
    Calls Try.prog 12 #[.string s, .agg c] w fun e w' => e = .returned (.bool true) ∧ Below w.heap.size w w' := by
  obtain ⟨b, m, z, ao, n0, cap, L0, rfl, hb, hm, ws, hW0, hok0⟩ := delta_of o
  clear o
  have hW := hW0.few
  have hok : ∀ x ∈ L0.take (cut200 n0), x.ok := fun x hx => hok0 x (List.mem_of_mem_take hx)
  obtain ⟨V1, hV1⟩ : ∃ V, V = w.alloc (Obj.cells #[.string b, .string m, .int .i64 z, .slice ao n0 cap] 25) := ⟨_, rfl⟩
  obtain ⟨p1, hp1⟩ : ∃ p, p = w.heap.size := ⟨_, rfl⟩
  have hG1 : Blk V1 p1 [.string b, .string m, .int .i64 z, .slice ao n0 cap] 25 := by rw [hV1, hp1]; exact Blk.new _ _ _
  have hB1 : Below w.heap.size w V1 := by rw [hV1]; exact below_alloc _ _
  have HF : Hid (∀ W, Below w.heap.size w W → _) := Lib.hid (fun W h => few_any W b m z ao n0 cap L0 (hW0.next h))
  obtain ⟨n, hn⟩ : ∃ n, n = cut200 n0 := ⟨_, rfl⟩
  obtain ⟨L, hL⟩ : ∃ L, L = L0.take n := ⟨_, rfl⟩
  rw [← hn] at hW hok HF
  rw [← hL] at hW hok
  have hn200 : n ≤ 1000000 := by rw [hn]; have := (cut200_le n0).2; omega
  have HCU := Lib.hid (cut_any s 2000 V1 (by omega) (by decide))
  have hcs := cutS_size s 2000
  obtain ⟨S, hS⟩ : ∃ S, S = cutS s 2000 := ⟨_, rfl⟩
  rw [← hS] at HCU hcs
  have HA1 := Lib.hid (fun wx p (h : Below w.heap.size w wx) (hI : RealB wx p) => apply_real wx p hI S b m z ao n cap L ws hb hm (hW.next h) hok hn200 (by omega))
  have HA2 := Lib.hid (fun wx p (h : Below w.heap.size w wx) (hI : RefReal wx p) => rapply_real wx p hI S b m z ao n cap L ws hb hm (hW.next h) hok hn200 (by omega))
  obtain ⟨A, hA⟩ : ∃ A, A = applyR S ⟨b, m, z, L⟩ := ⟨_, rfl⟩
  rw [← hA] at HA1 HA2
  obtain ⟨T, K⟩ := A
  simp only at HA1 HA2
  have HV1 := Lib.hid hV1
  have HP1 := Lib.hid hp1
  have HGB := Lib.hid (And.intro hG1 hB1)
  have hz := refR_run
  have c0 := hG1.cell (i := 0) rfl
  have c1 := hG1.cell (i := 1) rfl
  have c2 := hG1.cell (i := 2) rfl
  have c3 := hG1.cell (i := 3) rfl
  clear hV1 hp1 hG1 hB1 hW0 hok0 hn hL hW hok hb hm hA hS
  go_enter Try.func12, Try.ntmps12
  go_upto_region 1 with fail
  rw [← HP1.out, ← HV1.out]
  go_wp2_with fail
  refine HCU.out.mono ?_
  rintro e w1 ⟨rfl, rfl⟩
  go_wp2_with fail
  refine (HF.out V1 HGB.out.2).mono ?_
  rintro e w2 ⟨rfl, hb2⟩
  have hG2 := HGB.out.1.below hb2 HGB.out.1.lt
  have HG2 := Lib.hid (And.intro hG2 (bl_nx HGB.out.2 hb2))
  have f0 := hG2.frozen 0
  have f1 := hG2.frozen 1
  have f2 := hG2.frozen 2
  have f3 := hG2.frozen 3
  have d0 := hG2.cell (i := 0) rfl
  have d1 := hG2.cell (i := 1) rfl
  have d2 := hG2.cell (i := 2) rfl
  have d3 := hG2.cell (i := 3) rfl
  clear c0 c1 c2 c3 hb2 hG2
  go_upto_region 3 with fail
  obtain ⟨V3, hV3⟩ : ∃ V, V = (((w2.setCell ⟨p1, 0, none⟩ (.string b)).setCell ⟨p1, 1, none⟩ (.string m)).setCell ⟨p1, 2, none⟩ (.int .i64 z)).setCell ⟨p1, 3, none⟩ (.slice ao n cap) := ⟨_, rfl⟩
  have hG3 : Blk V3 p1 [.string b, .string m, .int .i64 z, .slice ao n cap] 25 := by rw [hV3]; exact (((HG2.out.1.set 0 _).set 1 _).set 2 _).set 3 _
  have hB3 : Below w.heap.size w V3 := by
    have hp : w.heap.size ≤ p1 := by rw [HP1.out]; exact Nat.le_refl _
    rw [hV3]; exact (((HG2.out.2.setCell hp _).setCell hp _).setCell hp _).setCell hp _
  rw [← hV3]
  have hbw : Below w.heap.size w V3.drew := below_drewN' hB3 1
  have hH : Blk V3.drew p1 [.string b, .string m, .int .i64 z, .slice ao n cap] 25 := hG3
  clear hV3 hG3 hB3 d0 d1 d2 d3 f0 f1 f2 f3 HF
  go_region_held3 (fun w' => w'.cell? ⟨p1, 0, none⟩ = some (.string b) ∧ w'.cell? ⟨p1, 1, none⟩ = some (.string m) ∧ w'.cell? ⟨p1, 2, none⟩ = some (.int .i64 z) ∧ w'.cell? ⟨p1, 3, none⟩ = some (.slice ao n cap))
    (exact ⟨hH.cell (i := 0) rfl, hH.cell (i := 1) rfl, hH.cell (i := 2) rfl, hH.cell (i := 3) rfl⟩)
    (first
      | (go_at_call 31; ((with_reducible refine (real_any _).mono ?_)); rintro e w6 ⟨p, rfl, hI, hpp, hb6⟩; replace hH := hH.below hb6 hH.lt; replace hbw := below_then (by assumption : Below w.heap.size w _) hb6; clear hb6 hpp)
      | (go_at_call 24; ((with_reducible refine (HA1.out _ _ (by assumption) (by assumption)).mono ?_)); rintro e w6 ⟨rfl, hb6⟩; replace hH := hH.below hb6 hH.lt; replace hbw := below_then (by assumption : Below w.heap.size w _) hb6; clear hb6))
  all_goals
    obtain ⟨V7, hV7⟩ : ∃ V, V = w6.alloc (Obj.cells #[.bool true, .slice none 0 0] 38) := ⟨_, rfl⟩
    obtain ⟨q, hq⟩ : ∃ q, q = w6.heap.size := ⟨_, rfl⟩
    have hRR : RefReal V7 q := by rw [hV7, hq]; exact Blk.new w6 [.bool true, .slice none 0 0] _
    have hb7 : Below w6.heap.size w6 V7 := by rw [hV7]; exact below_alloc _ _
    have hH7 := hH.below hb7 hH.lt
    have hbw7 := below_then hbw hb7
    have d0 := hH7.cell (i := 0) rfl
    have d1 := hH7.cell (i := 1) rfl
    have d2 := hH7.cell (i := 2) rfl
    have d3 := hH7.cell (i := 3) rfl
    have HA3 := Lib.hid (HA2.out V7 q hbw7 hRR)
    have HB7 := Lib.hid hbw7
    have HV7 := Lib.hid hV7
    have HQ := Lib.hid hq
    have heq : (T.toList == T.toList) = true := by simp
    have hee : (K == K) = true := by simp
    rw [hV7] at d0 d1 d2 d3
    clear hV7 hq hRR hb7 hH7 hbw7 hH hbw hI HA1 HA2
    go_wp2_with fail
    rw [← HQ.out, ← HV7.out]
    refine HA3.out.mono ?_
    rintro e w8 ⟨rfl, hb8⟩
    have HB8 := Lib.hid (bl_nx HB7.out hb8)
    clear hb8 d0 d1 d2 d3 HA3
    go_wp2_with fail
    refine (awake_any w8).mono ?_
    rintro e w9 ⟨rfl, hb9⟩
    have HB9 := Lib.hid (bl_nx HB8.out hb9)
    clear hb9
    go_wp2
    go_ret
    exact ⟨rfl, HB9.out⟩
end Go.Proofs.Ytgemhgllifhckaa
