/- DeltaBytes: the walk. Conditions: as named in each theorem. -/
import Derived.Test.YtgemhgllifhckaaDlRefBytes
import Derived.Test.YtgemhgllifhckaaDlFew
namespace Go.Proofs.Ytgemhgllifhckaa
open Go.RowKit Sg
set_option linter.unusedVariables false
set_option linter.unusedSimpArgs false

open Classical in
noncomputable def rightD (d : Dl) : Bool := decide (RightP d)
open Classical in
theorem right_ret {d : Dl} {e : Ending} (h : RightR (RightP d) e) : e = .returned (.bool (rightD d)) := by
  obtain ⟨r, rfl, hr⟩ := h
  have : r = rightD d := by
    unfold rightD
    by_cases hp : RightP d
    · rw [decide_eq_true hp]; exact hr.2 hp
    · rw [decide_eq_false hp]; cases r with
      | false => rfl
      | true => exact absurd (hr.1 rfl) hp
  rw [this]
set_option maxRecDepth 100000 in
set_option maxHeartbeats 2000000 in
theorem deltaBytes_walk (w : World) (c : Array Value) (o : Kd.ok w (.agg [.str, .str, .int .i64, .sl (.agg [.int .i64, .int .i64, .str])]) c.toList) :
    Calls Try.prog 7 #[.agg c] w fun e w' => e = .returned (.bool true) ∧ Below w.heap.size w w' := by
  obtain ⟨b, m, s, ao, n0, cap, L0, rfl, hb, hm, ws, hW0, hok0⟩ := delta_of o
  clear o
  have hW := hW0.few
  have hok : ∀ x ∈ L0.take (cut200 n0), x.ok := fun x hx => hok0 x (List.mem_of_mem_take hx)
  obtain ⟨V1, hV1⟩ : ∃ V, V = w.alloc (Obj.cells #[.string b, .string m, .int .i64 s, .slice ao n0 cap] 25) := ⟨_, rfl⟩
  obtain ⟨p1, hp1⟩ : ∃ p, p = w.heap.size := ⟨_, rfl⟩
  have hG1 : Blk V1 p1 [.string b, .string m, .int .i64 s, .slice ao n0 cap] 25 := by rw [hV1, hp1]; exact Blk.new _ _ _
  have hB1 : Below w.heap.size w V1 := by rw [hV1]; exact below_alloc _ _
  have HF := Lib.hid (few_any V1 b m s ao n0 cap L0 (hW0.next hB1))
  obtain ⟨n, hn⟩ : ∃ n, n = cut200 n0 := ⟨_, rfl⟩
  obtain ⟨L, hL⟩ : ∃ L, L = L0.take n := ⟨_, rfl⟩
  rw [← hn] at hW hok HF
  rw [← hL] at hW hok
  obtain ⟨D, hD⟩ : ∃ D : Dl, D = ⟨b, m, s, L⟩ := ⟨_, rfl⟩
  have HC1 : Hid (∀ wx, Below w.heap.size w wx → Calls Try.prog 26 #[.agg #[.string b, .string m, .int .i64 s, .slice ao n cap]] wx fun e w' => e = .returned (.tuple #[.string (bytesR D).1, .int .i64 (bytesR D).2]) ∧ Below wx.heap.size wx w') := Lib.hid (fun wx h => by rw [hD]; exact dlBytes_any wx b m s ao n cap L ws hb hm (hW.next h) hok)
  have HC2 : Hid (∀ wx, Below w.heap.size w wx → Calls Try.prog 27 #[.agg #[.string b, .string m, .int .i64 s, .slice ao n cap]] wx fun e w' => e = .returned (.tuple #[.string (bytesR D).1, .int .i64 (bytesR D).2]) ∧ Below wx.heap.size wx w') := Lib.hid (fun wx h => by rw [hD]; exact dlRefBytes_any wx b m s ao n cap L ws hb hm (hW.next h) hok)
  have HR1 : Hid (∀ wx, Below w.heap.size w wx → Calls Try.prog 28 #[.agg #[.string b, .string m, .int .i64 s, .slice ao n cap]] wx fun e w' => e = .returned (.bool (rightD D)) ∧ Below wx.heap.size wx w') := Lib.hid (fun wx h => by
    rw [hD]; exact (deltaRight_any wx b m s ao n cap L ws hb hm (hW.next h) hok).mono fun _ _ ⟨h1, h2⟩ => ⟨right_ret h1, h2⟩)
  have HR2 : Hid (∀ wx, Below w.heap.size w wx → Calls Try.prog 29 #[.agg #[.string b, .string m, .int .i64 s, .slice ao n cap]] wx fun e w' => e = .returned (.bool (rightD D)) ∧ Below wx.heap.size wx w') := Lib.hid (fun wx h => by
    rw [hD]; exact (refRight_any wx b m s ao n cap L ws hb hm (hW.next h) hok).mono fun _ _ ⟨h1, h2⟩ => ⟨right_ret h1, h2⟩)
  obtain ⟨S, hS⟩ : ∃ S, S = (bytesR D).1 := ⟨_, rfl⟩
  obtain ⟨E, hE⟩ : ∃ E, E = (bytesR D).2 := ⟨_, rfl⟩
  obtain ⟨R, hR⟩ : ∃ R, R = rightD D := ⟨_, rfl⟩
  rw [← hS, ← hE] at HC1 HC2
  rw [← hR] at HR1 HR2
  have HV1 := Lib.hid hV1
  have HP1 := Lib.hid hp1
  have HGB := Lib.hid (And.intro hG1 hB1)
  have c0 := hG1.cell (i := 0) rfl
  have c1 := hG1.cell (i := 1) rfl
  have c2 := hG1.cell (i := 2) rfl
  have c3 := hG1.cell (i := 3) rfl
  clear hV1 hp1 hG1 hB1 hW0 hok0 hn hL hW hok hD hS hE hR hb hm
  go_enter Try.func7, Try.ntmps7
  go_upto_region 1 with fail
  rw [← HP1.out, ← HV1.out]
  go_wp2_with fail
  refine HF.out.mono ?_
  rintro e w2 ⟨rfl, hb2⟩
  have hG2 := HGB.out.1.below hb2 HGB.out.1.lt
  have HG2 := Lib.hid (And.intro hG2 (bl_nx HGB.out.2 hb2))
  have f0 := hG2.frozen 0
  have f1 := hG2.frozen 1
  have f2 := hG2.frozen 2
  have f3 := hG2.frozen 3
  have d0 := hG2.cell (i := 0) rfl
  have d1 := hG2.cell (i := 1) rfl
  have d2 := hG2.cell (i := 2) rfl
  have d3 := hG2.cell (i := 3) rfl
  clear c0 c1 c2 c3 hb2 hG2
  go_upto_region 2 with fail
  obtain ⟨V3, hV3⟩ : ∃ V, V = (((w2.setCell ⟨p1, 0, none⟩ (.string b)).setCell ⟨p1, 1, none⟩ (.string m)).setCell ⟨p1, 2, none⟩ (.int .i64 s)).setCell ⟨p1, 3, none⟩ (.slice ao n cap) := ⟨_, rfl⟩
  have hG3 : Blk V3 p1 [.string b, .string m, .int .i64 s, .slice ao n cap] 25 := by rw [hV3]; exact (((HG2.out.1.set 0 _).set 1 _).set 2 _).set 3 _
  have hB3 : Below w.heap.size w V3 := by
    have hp : w.heap.size ≤ p1 := by rw [HP1.out]; exact Nat.le_refl _
    rw [hV3]; exact (((HG2.out.2.setCell hp _).setCell hp _).setCell hp _).setCell hp _
  have HB3 := Lib.hid (And.intro hG3 hB3)
  rw [← hV3]
  have c0 := hG3.cell (i := 0) rfl
  have c1 := hG3.cell (i := 1) rfl
  have c2 := hG3.cell (i := 2) rfl
  have c3 := hG3.cell (i := 3) rfl
  clear hV3 hG3 hB3 d0 d1 d2 d3 f0 f1 f2 f3 HF
  go_wp2_with fail
  refine (HC1.out V3 HB3.out.2).mono ?_
  rintro e w4 ⟨rfl, hb4⟩
  have hG4 := HB3.out.1.below hb4 HB3.out.1.lt
  have HG4 := Lib.hid (And.intro hG4 (bl_nx HB3.out.2 hb4))
  have d0 := hG4.cell (i := 0) rfl
  have d1 := hG4.cell (i := 1) rfl
  have d2 := hG4.cell (i := 2) rfl
  have d3 := hG4.cell (i := 3) rfl
  clear hb4 hG4 c0 c1 c2 c3
  go_wp2_with fail
  refine (HC2.out w4 HG4.out.2).mono ?_
  rintro e w5 ⟨rfl, hb5⟩
  have hG5 := HG4.out.1.below hb5 HG4.out.1.lt
  have hbw : Below w.heap.size w w5.drew := below_drewN' (bl_nx HG4.out.2 hb5) 1
  have hH : Blk w5.drew p1 [.string b, .string m, .int .i64 s, .slice ao n cap] 25 := hG5
  clear hb5 d0 d1 d2 d3 hG5 HC1 HC2
  have hEE : (R == R) = true := by simp
  go_wp2_with fail
  go_region_held3 (fun w' => w'.cell? ⟨p1, 0, none⟩ = some (.string b) ∧ w'.cell? ⟨p1, 1, none⟩ = some (.string m) ∧ w'.cell? ⟨p1, 2, none⟩ = some (.int .i64 s) ∧ w'.cell? ⟨p1, 3, none⟩ = some (.slice ao n cap))
    (exact ⟨hH.cell (i := 0) rfl, hH.cell (i := 1) rfl, hH.cell (i := 2) rfl, hH.cell (i := 3) rfl⟩)
    (first
      | (go_at_call 28; ((with_reducible refine (HR1.out _ (by assumption)).mono ?_)); rintro e w6 ⟨rfl, hb6⟩; replace hH := hH.below hb6 hH.lt; replace hbw := below_then (by assumption : Below w.heap.size w _) hb6; clear hb6)
      | (go_at_call 29; ((with_reducible refine (HR2.out _ (by assumption)).mono ?_)); rintro e w6 ⟨rfl, hb6⟩; replace hH := hH.below hb6 hH.lt; replace hbw := below_then (by assumption : Below w.heap.size w _) hb6; clear hb6)
      | (go_at_call 17; ((with_reducible refine (awake_any _).mono ?_)); rintro e w6 ⟨rfl, hb6⟩; replace hH := hH.below hb6 hH.lt; replace hbw := below_then (by assumption : Below w.heap.size w _) hb6; clear hb6))
  all_goals
    have HE := Lib.hid hbw
    clear hH hbw
    go_wp2
    go_ret
    exact ⟨rfl, HE.out⟩
end Go.Proofs.Ytgemhgllifhckaa
