/- The reference's block. Conditions: as named in each theorem. -/
import Derived.Test.YtjahdladcijhoaaShaRTurn
import Derived.Test.YtjahdladcijhoaaAppKeep
import Derived.Deep.RegionHeld3
import Derived.Deep.AppendLies
import Derived.Deep.QuietTactic
import Derived.BigQuiet
namespace Go.Proofs.Ytjahdladcijhoaa
open Go.RowKit
set_option linter.unusedVariables false
set_option linter.unusedSimpArgs false

def RBlkP (u : V8) (w : World) (e : Ending) (w' : World) : Prop := ∃ v, e = .returned v ∧ w'.ownsRow w.heap.size 3 1 v 8 (iV u.list) ∧ Below w.heap.size w w'
theorem iV_list (l : List Nat) : iV l = l.map fun x : Nat => Value.int .i64 (x : Nat) := rfl
theorem addV_take (v u : V8) {j : Nat} (h : j < 8) : ∃ x y, v.list[j]? = some x ∧ u.list[j]? = some y ∧ (addV v u).list.take (j + 1) = (addV v u).list.take j ++ [(x + y) % 4294967296] := by
  have hj : j = 0 ∨ j = 1 ∨ j = 2 ∨ j = 3 ∨ j = 4 ∨ j = 5 ∨ j = 6 ∨ j = 7 := by omega
  rcases hj with rfl | rfl | rfl | rfl | rfl | rfl | rfl | rfl <;> exact ⟨_, _, rfl, rfl, rfl⟩
theorem sum4_ok (a b c d : Nat) (ha : a < 4294967296) (hb : b < 4294967296) (hc : c < 4294967296) (hd : d < 4294967296) : IntKind.i64.wrap ((a : Int) + (b : Int)) = (a : Int) + (b : Int) ∧ IntKind.i64.wrap ((a : Int) + (b : Int) + (c : Int)) = (a : Int) + (b : Int) + (c : Int) ∧ IntKind.i64.wrap ((a : Int) + (b : Int) + (c : Int) + (d : Int)) = (a : Int) + (b : Int) + (c : Int) + (d : Int) := ⟨IntWalk.i64_in _ (by omega), IntWalk.i64_in _ (by omega), IntWalk.i64_in _ (by omega)⟩
theorem low_sum4 (a b c d X : Nat) (ha : a < 4294967296) (hb : b < 4294967296) (hc : c < 4294967296) (hd : d < 4294967296) (hX : X = (a + b + c + d) % 4294967296) (W : World) : Calls Try.prog 35 #[.int .i64 ((a : Int) + (b : Int) + (c : Int) + (d : Int))] W fun e w' => e = .returned (.int .i64 (X : Nat)) ∧ w' = W := by
  have h := low_any (a + b + c + d) (by omega) W
  rw [← hX, show ((a + b + c + d : Nat) : Int) = (a : Int) + (b : Int) + (c : Int) + (d : Int) by omega] at h
  exact h
theorem xor_shift (x y k : Nat) (hx : x < 4294967296) (hy : y < 4294967296) (hk : 0 < k) : bits .xor .i64 (x : Int) ((y : Int) / (k : Int)) = ((x ^^^ y / k : Nat) : Int) := by
  have h := i64_xor x (y / k) (Nat.lt_trans hx (by decide)) (Nat.lt_of_le_of_lt (Nat.div_le_self _ _) (Nat.lt_trans hy (by decide)))
  rw [show ((y / k : Nat) : Int) = (y : Int) / (k : Int) by simp] at h
  exact h
theorem x32 (x y : Nat) (hx : x < 4294967296) (hy : y < 4294967296) : bits .xor .i64 (x : Int) (y : Int) = ((x ^^^ y : Nat) : Int) := i64_xor x y (Nat.lt_trans hx (by decide)) (Nat.lt_trans hy (by decide))
theorem a32 (x y : Nat) (hx : x < 4294967296) (hy : y < 4294967296) : bits .and .i64 (x : Int) (y : Int) = ((x &&& y : Nat) : Int) := i64_and x y (Nat.lt_trans hx (by decide)) (Nat.lt_trans hy (by decide))

theorem quiet_dr {P : Program} {f : FuncId} {args : Array Value} {w : World} {n : Nat} {v : Value} (h : Calls P f args (w.drewN n) fun e w' => e = .returned v ∧ w' = (w.drewN n).drew) : Calls P f args (w.drewN n) fun e w'' => e = .returned v ∧ ∃ m, w'' = w.drewN m :=
  Calls.quiet_of (h.mono fun _ _ ⟨he, hm⟩ => ⟨he, 1, by rw [hm]; rfl⟩)

set_option maxRecDepth 100000 in
set_option maxHeartbeats 8000000 in
theorem refBlock_any (w : World) (B1 B2 : Nat) (vh vk : Value) (H : V8) (hH : H.lt) (KL : List Nat) (hKL : KL.length = 64) (hKb : ∀ x ∈ KL, x < 4294967296) (pb off cb : Nat) (B : Nat → Nat) (hBl : ∀ k, B k < 256) (hpb : pb < w.heap.size)
    (hcell : ∀ j, j < 64 → w.cell? ⟨pb, off + j, none⟩ = some (.int .u8 (B j : Nat))) (hh : w.ownsRow B1 3 1 vh 8 (iV H.list)) (hk : w.ownsRow B2 3 1 vk 64 (iV KL)) :
    Calls Try.prog 28 #[vh, vk, .slice (some ⟨pb, off, none⟩) 64 cb] w (RBlkP (blkV (fun i => KL.getD i 0) B H) w) := by
  obtain ⟨i0, hi, hz0, hz1, hz2⟩ := info_parts infoIntH
  obtain ⟨ah, ch, rfl⟩ := slice_own hh
  obtain ⟨ak, ck, rfl⟩ := slice_own hk
  obtain ⟨gh, rfl, _, hgh, hch, hcellh⟩ := own_cell hh (by decide)
  obtain ⟨gk, rfl, _, hgk, hck, hcellk⟩ := own_cell hk (by decide)
  obtain ⟨K, hK⟩ : ∃ K : Nat → Nat, K = fun i => KL.getD i 0 := ⟨_, rfl⟩
  rw [← hK]
  have hkk : ∀ n, n < 64 → KL[n]? = some (K n) := fun n hn => by rw [hK]; simp only; rw [List.getD_eq_getElem?_getD, List.getElem?_eq_getElem (by rw [hKL]; exact hn)]; rfl
  have HKK : Hid (∀ n, n < 64 → KL[n]? = some (K n) ∧ K n < 4294967296) := Lib.hid (fun n hn => ⟨hkk n hn, hKb _ (List.mem_of_getElem? (hkk n hn))⟩)
  have HC := Lib.hid hcell
  have HCH := Lib.hid hcellh
  have HCK := Lib.hid hcellk
  have HH := Lib.hid hH
  have HG := Lib.hid (And.intro hpb (And.intro hgh hgk))
  clear hcell hcellh hcellk hK hkk hh hk hKL hKb hH hpb hgh hgk
  go_enter Try.func28, Try.ntmps28
  go_wp2_with fail
  go_loopw [7, 8] (fun v iv wr => ∃ n : Nat, iv = .int .i64 n ∧ n ≤ 64 ∧ wr.ownsRow w.heap.size 3 1 v n (iV (wList B n)) ∧ Below w.heap.size w wr) (fun _ iv _ => 64 - (intOf iv).toNat)
  case atStart => exact ⟨0, by go_num, by omega, World.ownsRow_nil _ _ _ _, Below.refl _ _⟩
  case round =>
    obtain ⟨n, rfl, hn, hO, hB⟩ := hrel
    obtain ⟨av, cv, rfl⟩ := slice_own hO
    have hS := hB.size
    by_cases hlt : n < 64
    · by_cases h16 : n < 16
      · obtain ⟨q0, hq0⟩ : ∃ q, q = 4 * n := ⟨_, rfl⟩
        have i0' : 4 * (n : Int) = (q0 : Int) := by omega
        have hW := wW_lo B h16
        rw [← hq0] at hW
        have w0 : IntKind.i64.wrap (4 * (n : Int)) = 4 * (n : Int) := IntWalk.i64_in _ (by omega)
        have hq63 : q0 + 3 < 64 := by omega
        clear hq0
        obtain ⟨q1, hq1⟩ : ∃ q, q = q0 + 1 := ⟨_, rfl⟩
        obtain ⟨q2, hq2⟩ : ∃ q, q = q0 + 2 := ⟨_, rfl⟩
        obtain ⟨q3, hq3⟩ : ∃ q, q = q0 + 3 := ⟨_, rfl⟩
        rw [← hq1, ← hq2, ← hq3] at hW
        have k0 : q0 < 64 := by omega
        have k1 : q1 < 64 := by omega
        have k2 : q2 < 64 := by omega
        have k3 : q3 < 64 := by omega
        have e1 : (q0 : Int) + 1 = (q1 : Int) := by omega
        have e2 : (q0 : Int) + 2 = (q2 : Int) := by omega
        have e3 : (q0 : Int) + 3 = (q3 : Int) := by omega
        have v0 : IntKind.i64.wrap (q0 : Int) = (q0 : Int) := IntWalk.i64_in _ (by omega)
        have v1 : IntKind.i64.wrap (q1 : Int) = (q1 : Int) := IntWalk.i64_in _ (by omega)
        have v2 : IntKind.i64.wrap (q2 : Int) = (q2 : Int) := IntWalk.i64_in _ (by omega)
        have v3 : IntKind.i64.wrap (q3 : Int) = (q3 : Int) := IntWalk.i64_in _ (by omega)
        clear hq1 hq2 hq3 hq63
        have p0 : (0 : Int) ≤ (q0 : Int) := by omega
        have p1 : (0 : Int) ≤ (q1 : Int) := by omega
        have p2 : (0 : Int) ≤ (q2 : Int) := by omega
        have p3 : (0 : Int) ≤ (q3 : Int) := by omega
        have o0 : (q0 : Int) < 64 := by omega
        have o1 : (q1 : Int) < 64 := by omega
        have o2 : (q2 : Int) < 64 := by omega
        have o3 : (q3 : Int) < 64 := by omega
        have b0 := (hB.cell (p := ⟨pb, off + q0, none⟩) HG.out.1).trans (HC.out q0 k0)
        have b1 := (hB.cell (p := ⟨pb, off + q1, none⟩) HG.out.1).trans (HC.out q1 k1)
        have b2 := (hB.cell (p := ⟨pb, off + q2, none⟩) HG.out.1).trans (HC.out q2 k2)
        have b3 := (hB.cell (p := ⟨pb, off + q3, none⟩) HG.out.1).trans (HC.out q3 k3)
        have l0 := hBl q0
        have l1 := hBl q1
        have l2 := hBl q2
        have l3 := hBl q3
        obtain ⟨y0, hy0⟩ : ∃ y, y = B q0 := ⟨_, rfl⟩
        obtain ⟨y1, hy1⟩ : ∃ y, y = B q1 := ⟨_, rfl⟩
        obtain ⟨y2, hy2⟩ : ∃ y, y = B q2 := ⟨_, rfl⟩
        obtain ⟨y3, hy3⟩ : ∃ y, y = B q3 := ⟨_, rfl⟩
        rw [← hy0] at b0 l0 hW
        rw [← hy1] at b1 l1 hW
        rw [← hy2] at b2 l2 hW
        rw [← hy3] at b3 l3 hW
        have u0 : IntKind.i64.wrap (y0 : Int) = (y0 : Int) := IntWalk.i64_in _ (by omega)
        have u1 : IntKind.i64.wrap (y1 : Int) = (y1 : Int) := IntWalk.i64_in _ (by omega)
        have u2 : IntKind.i64.wrap (y2 : Int) = (y2 : Int) := IntWalk.i64_in _ (by omega)
        have u3 : IntKind.i64.wrap (y3 : Int) = (y3 : Int) := IntWalk.i64_in _ (by omega)
        have t0 : IntKind.i64.wrap ((y0 : Int) * 16777216) = (y0 : Int) * 16777216 := IntWalk.i64_in _ (by omega)
        have t1 : IntKind.i64.wrap ((y1 : Int) * 65536) = (y1 : Int) * 65536 := IntWalk.i64_in _ (by omega)
        have t2 : IntKind.i64.wrap ((y2 : Int) * 256) = (y2 : Int) * 256 := IntWalk.i64_in _ (by omega)
        have s1 : IntKind.i64.wrap ((y0 : Int) * 16777216 + (y1 : Int) * 65536) = (y0 : Int) * 16777216 + (y1 : Int) * 65536 := IntWalk.i64_in _ (by omega)
        have s2 : IntKind.i64.wrap ((y0 : Int) * 16777216 + (y1 : Int) * 65536 + (y2 : Int) * 256) = (y0 : Int) * 16777216 + (y1 : Int) * 65536 + (y2 : Int) * 256 := IntWalk.i64_in _ (by omega)
        have s3 : IntKind.i64.wrap ((y0 : Int) * 16777216 + (y1 : Int) * 65536 + (y2 : Int) * 256 + (y3 : Int)) = (y0 : Int) * 16777216 + (y1 : Int) * 65536 + (y2 : Int) * 256 + (y3 : Int) := IntWalk.i64_in _ (by omega)
        have HX : Hid ((y0 : Int) * 16777216 + (y1 : Int) * 65536 + (y2 : Int) * 256 + (y3 : Int) = ((wW B n : Nat) : Int)) := Lib.hid (by rw [hW]; omega)
        have HOB := Lib.hid (And.intro hO hB)
        clear hy0 hy1 hy2 hy3 hW hO hB
        go_upto_region 6 with fail
        go_region_held3 (fun w' => w'.cell? ⟨pb, off + q0, none⟩ = some (.int .u8 (y0 : Nat)) ∧ w'.cell? ⟨pb, off + q1, none⟩ = some (.int .u8 (y1 : Nat)) ∧ w'.cell? ⟨pb, off + q2, none⟩ = some (.int .u8 (y2 : Nat)) ∧ w'.cell? ⟨pb, off + q3, none⟩ = some (.int .u8 (y3 : Nat)))
          (first | exact ⟨b0, b1, b2, b3⟩ | exact ⟨cellA b0 _, cellA b1 _, cellA b2 _, cellA b3 _⟩ | exact ⟨d0, d1, d2, d3⟩)
          ((refine step_append_lies _ (by rfl) _ _ _ (by rfl) w.heap.size 3 i0 (.int .i64 0) 1 8 Try.underlying53 hi hz0 hz1 hz2 rfl (by decide) (.slice av n cv) n (iV (wList B n)) (by rfl) (drewO (World.ownsRow.alloc HOB.out.1 _)) ⟨wr.heap.size, 0, none⟩ 1 1 [.int .i64 ((y0 : Int) * 16777216 + (y1 : Int) * 65536 + (y2 : Int) * 256 + (y3 : Int))] (by rfl) (by rfl) (cell1_new _ _ _) (one1 _ rfl) (by decide) (by unfold maxLen; omega) (by omega) (by simp; omega) (wr.heap.size + 1) (by simp) ?_; intro gg cap w1 hown1 hgrow hat hlt'; have hB1 : Below w.heap.size w w1 := ((HOB.out.2.alloc HOB.out.2.size _).drew).grown hgrow (Nat.le_trans HOB.out.2.size (by simp)) (fun j hj => (World.ownsRow.lt HOB.out.1 j hj).1); have d0 := (hB1.cell (p := ⟨pb, off + q0, none⟩) HG.out.1).trans ((HOB.out.2.cell (p := ⟨pb, off + q0, none⟩) HG.out.1).symm.trans b0); have d1 := (hB1.cell (p := ⟨pb, off + q1, none⟩) HG.out.1).trans ((HOB.out.2.cell (p := ⟨pb, off + q1, none⟩) HG.out.1).symm.trans b1); have d2 := (hB1.cell (p := ⟨pb, off + q2, none⟩) HG.out.1).trans ((HOB.out.2.cell (p := ⟨pb, off + q2, none⟩) HG.out.1).symm.trans b2); have d3 := (hB1.cell (p := ⟨pb, off + q3, none⟩) HG.out.1).trans ((HOB.out.2.cell (p := ⟨pb, off + q3, none⟩) HG.out.1).symm.trans b3)))
        all_goals
          have hO4 : w1.ownsRow w.heap.size 3 1 (.slice (some ⟨gg, 0, none⟩) (n + 1) cap) (n + 1) (iV (wList B (n + 1))) := by
            rw [wList, iV_app]
            have := hown1
            rw [HX.out] at this
            exact this
          have HF := Lib.hid (And.intro hO4 hB1)
          clear d0 d1 d2 d3 hown1 hgrow hat hlt' hO4 hB1 HOB HX b0 b1 b2 b3
          go_wp2
          exact ⟨⟨n + 1, by go_num, by omega, HF.out⟩, by simp [intOf]; omega⟩
      · obtain ⟨gw, rfl, hgw1, hgw2, hcw, hcl⟩ := own_cell hO (by omega)
        have hW := wW_hi B h16
        obtain ⟨n16, hn16⟩ : ∃ m, m = n - 16 := ⟨_, rfl⟩
        obtain ⟨n15, hn15⟩ : ∃ m, m = n - 15 := ⟨_, rfl⟩
        obtain ⟨n7, hn7⟩ : ∃ m, m = n - 7 := ⟨_, rfl⟩
        obtain ⟨n2, hn2⟩ : ∃ m, m = n - 2 := ⟨_, rfl⟩
        rw [← hn16, ← hn15, ← hn7, ← hn2] at hW
        have c16 := hcl n16 _ (wList_at B (show n16 < n by omega))
        have c15 := hcl n15 _ (wList_at B (show n15 < n by omega))
        have c7 := hcl n7 _ (wList_at B (show n7 < n by omega))
        have c2 := hcl n2 _ (wList_at B (show n2 < n by omega))
        have hxl16 : (iV (wList B n))[n16]? = some (.int .i64 (wW B n16 : Nat)) := by unfold iV; rw [List.getElem?_map, wList_at B (show n16 < n by omega)]; rfl
        have hxl7 : (iV (wList B n))[n7]? = some (.int .i64 (wW B n7 : Nat)) := by unfold iV; rw [List.getElem?_map, wList_at B (show n7 < n by omega)]; rfl
        have l16 := wW_lt B hBl n16
        have l15 := wW_lt B hBl n15
        have l7 := wW_lt B hBl n7
        have l2 := wW_lt B hBl n2
        obtain ⟨A0, hA0⟩ : ∃ A, A = wW B n16 := ⟨_, rfl⟩
        obtain ⟨A1, hA1⟩ : ∃ A, A = wW B n15 := ⟨_, rfl⟩
        obtain ⟨A9, hA9⟩ : ∃ A, A = wW B n7 := ⟨_, rfl⟩
        obtain ⟨A14, hA14⟩ : ∃ A, A = wW B n2 := ⟨_, rfl⟩
        rw [← hA0] at c16 hW l16 hxl16
        rw [← hA1] at c15 hW l15
        rw [← hA9] at c7 hW l7 hxl7
        rw [← hA14] at c2 hW l2
        clear hA0 hA1 hA9 hA14
        have e16 : (n : Int) - 16 = (n16 : Int) := by omega
        have e15 : (n : Int) - 15 = (n15 : Int) := by omega
        have e7 : (n : Int) - 7 = (n7 : Int) := by omega
        have e2 : (n : Int) - 2 = (n2 : Int) := by omega
        have m16 : IntKind.i64.wrap (n16 : Int) = (n16 : Int) := IntWalk.i64_in _ (by omega)
        have m15 : IntKind.i64.wrap (n15 : Int) = (n15 : Int) := IntWalk.i64_in _ (by omega)
        have m7 : IntKind.i64.wrap (n7 : Int) = (n7 : Int) := IntWalk.i64_in _ (by omega)
        have m2 : IntKind.i64.wrap (n2 : Int) = (n2 : Int) := IntWalk.i64_in _ (by omega)
        have p16 : (0 : Int) ≤ (n16 : Int) := by omega
        have p15 : (0 : Int) ≤ (n15 : Int) := by omega
        have p7 : (0 : Int) ≤ (n7 : Int) := by omega
        have p2 : (0 : Int) ≤ (n2 : Int) := by omega
        have o16 : (n16 : Int) < (n : Int) := by omega
        have o15 : (n15 : Int) < (n : Int) := by omega
        have o7 : (n7 : Int) < (n : Int) := by omega
        have o2 : (n2 : Int) < (n : Int) := by omega
        have x1 := x32 (rot A1 7) (rot A1 18) (rot_lt _ _ l15) (rot_lt _ _ l15)
        have x2 : bits .xor .i64 ((rot A1 7 ^^^ rot A1 18 : Nat) : Int) ((A1 : Int) / 8) = ((g0 A1 : Nat) : Int) := xor_shift (rot A1 7 ^^^ rot A1 18) A1 8 (xor_lt (rot_lt _ _ l15) (rot_lt _ _ l15)) l15 (by decide)
        have x3 := x32 (rot A14 17) (rot A14 19) (rot_lt _ _ l2) (rot_lt _ _ l2)
        have x4 : bits .xor .i64 ((rot A14 17 ^^^ rot A14 19 : Nat) : Int) ((A14 : Int) / 1024) = ((g1 A14 : Nat) : Int) := xor_shift (rot A14 17 ^^^ rot A14 19) A14 1024 (xor_lt (rot_lt _ _ l2) (rot_lt _ _ l2)) l2 (by decide)
        have lG0 := g0_lt l15
        have lG1 := g1_lt l2
        obtain ⟨G0, hG0⟩ : ∃ G, G = g0 A1 := ⟨_, rfl⟩
        obtain ⟨G1, hG1⟩ : ∃ G, G = g1 A14 := ⟨_, rfl⟩
        rw [← hG0] at x2 lG0 hW
        rw [← hG1] at x4 lG1 hW
        clear hG0 hG1
        obtain ⟨s1, s2, s3⟩ := sum4_ok A0 G0 A9 G1 l16 lG0 l7 lG1
        have HLW := Lib.hid (fun W => low_sum4 A0 G0 A9 G1 _ l16 lG0 l7 lG1 hW W)
        obtain ⟨X, hX⟩ : ∃ X, X = wW B n := ⟨_, rfl⟩
        rw [← hX] at HLW
        have HX := Lib.hid hX
        have HOB := Lib.hid (And.intro hO hB)
        have f16 : (iV (wList B n))[n16]? = some (.int .i64 (A0 : Nat)) := hxl16
        have f7 : (iV (wList B n))[n7]? = some (.int .i64 (A9 : Nat)) := hxl7
        clear hxl16 hxl7 hX hW hcl hn16 hn15 hn7 hn2 hO hB
        go_upto_region 9 with fail
        go_region_held3 (fun w' => w'.cell? ⟨gw, n16, none⟩ = some (.int .i64 (A0 : Nat)) ∧ w'.cell? ⟨gw, n7, none⟩ = some (.int .i64 (A9 : Nat)))
          (first | exact ⟨c16, c7⟩ | exact ⟨cellA c16 _, cellA c7 _⟩ | exact ⟨hkp n16 _ f16, hkp n7 _ f7⟩)
          (first
            | (go_at_call_of 36 (Value.int .i64 7); ((with_reducible refine (right_7 A1 l15 _).mono ?_)); rintro e' w4 ⟨rfl, rfl⟩)
            | (go_at_call_of 36 (Value.int .i64 18); ((with_reducible refine (right_18 A1 l15 _).mono ?_)); rintro e' w4 ⟨rfl, rfl⟩)
            | (go_at_call_of 36 (Value.int .i64 17); ((with_reducible refine (right_17 A14 l2 _).mono ?_)); rintro e' w4 ⟨rfl, rfl⟩)
            | (go_at_call_of 36 (Value.int .i64 19); ((with_reducible refine (right_19 A14 l2 _).mono ?_)); rintro e' w4 ⟨rfl, rfl⟩)
            | (go_at_call 35; ((with_reducible refine (HLW.out _).mono ?_)); rintro e' w4 ⟨rfl, rfl⟩)
            | (refine step_append_keeps (by rfl) _ _ _ (by rfl) w.heap.size 3 i0 (.int .i64 0) 1 8 Try.underlying53 hi hz0 hz1 hz2 rfl (by decide) gw n cv (iV (wList B n)) (by rfl) (World.ownsRow.alloc (drewO (drewO (drewO (drewO (drewO HOB.out.1))))) _) ⟨wr.heap.size, 0, none⟩ 1 1 [.int .i64 (X : Nat)] (by rfl) (by rfl) (cell1_new _ _ _) (one1 _ rfl) (by unfold maxLen; omega) (by omega) (by simp; omega) ?_; intro v1 w1 hown1 hgrow hkp))
        all_goals
          have hO4 : w1.ownsRow w.heap.size 3 1 v1 (n + 1) (iV (wList B (n + 1))) := by
            rw [wList, iV_app]
            have := hown1
            rw [HX.out] at this
            exact this
          have hB1 : Below w.heap.size w w1 := ((HOB.out.2.alloc HOB.out.2.size (Obj.cells #[.int .i64 (X : Nat)] 3)).drew.drew.drew.drew.drew).grown hgrow (Nat.le_trans HOB.out.2.size (by simp)) (fun j hj => by cases hj; exact hgw1)
          have HF := Lib.hid (And.intro hO4 hB1)
          clear hown1 hgrow hkp hO4 hB1 HOB HX c16 c15 c7 c2 f16 f7 HLW x1 x2 x3 x4 s1 s2 s3
          go_wp2
          exact ⟨⟨n + 1, by go_num, by omega, HF.out⟩, by simp [intOf]; omega⟩
    · have hn64 : n = 64 := by omega
      subst hn64
      obtain ⟨gw, rfl, hgw1, hgw2, hcw, hcl⟩ := own_cell hO (by omega)
      have hE : (wr.alloc (Obj.cells #[] 3)).ownsRow wr.heap.size 3 1 (.slice (some ⟨wr.heap.size, 0, none⟩) 0 0) 0 [] := World.ownsRow_lit (base := wr.heap.size) (e := 3) (size := 1) wr #[] 0 (Nat.le_refl _) (by decide) rfl
      have hcc : 0 < 8 → ∃ ad, some (⟨gh, 0, none⟩ : Addr) = some ad ∧ ∀ j u, (iV H.list)[j]? = some u → (wr.alloc (Obj.cells #[] 3)).cell? (ad.add j) = some u := fun _ => ⟨_, rfl, fun j u hu => by
        rw [add_off', Nat.zero_add]
        unfold iV at hu
        rw [List.getElem?_map] at hu
        cases hx : H.list[j]? with
        | none => rw [hx] at hu; cases hu
        | some x =>
          rw [hx] at hu
          cases hu
          exact cellA ((hB.cell (p := ⟨gh, j, none⟩) HG.out.2.1).trans (HCH.out j x hx)) _⟩
      have h1 : ∀ u ∈ iV H.list, u.oneCell' = true := by
        intro u hu
        unfold iV at hu
        obtain ⟨x, _, rfl⟩ := List.mem_map.1 hu
        rfl
      have hl8 : (iV H.list).length = 8 * 1 := rfl
      obtain ⟨IH, hIH⟩ : ∃ IH, IH = iV H.list := ⟨_, rfl⟩
      rw [← hIH] at hcc h1 hl8
      have HCC := Lib.hid (And.intro hE (And.intro hcc (And.intro h1 hl8)))
      have HOB := Lib.hid (And.intro hO hB)
      have HIH := Lib.hid hIH
      clear hE hcc h1 hl8 hO hB hcl hIH
      go_wp2_with (at_builtin; refine wpList_append_row rfl _ _ 53 rfl wr.heap.size 3 i0 (.int .i64 0) 1 8 Try.underlying53 hi hz0 hz1 hz2 rfl (by decide) wr.heap.size rfl HCC.out.1 (some ⟨gh, 0, none⟩) 8 ch IH rfl HCC.out.2.2.2 HCC.out.2.1 HCC.out.2.2.1 (by unfold maxLen; omega) (by omega) (by simp) ?_)
      intro v' w1 hO1 hg1
      have hB1 : Below w.heap.size w w1 := (HOB.out.2.alloc HOB.out.2.size _).grown hg1 (by have := HOB.out.2.size; simp; omega) (fun j hj => by cases hj; exact HOB.out.2.size)
      have hW1 : w1.ownsRow w.heap.size 3 1 (.slice (some ⟨gw, 0, none⟩) 64 cv) 64 (iV (wList B 64)) := World.ownsRow.kept (World.ownsRow.alloc HOB.out.1 _) hg1 (by simp [Value.ownBlock]; omega)
      have hV1 : w1.ownsRow w.heap.size 3 1 v' 8 (iV H.list) := by rw [← HIH.out]; exact owns_mono hO1 HOB.out.2.size
      have HS := Lib.hid (And.intro hV1 (And.intro hW1 hB1))
      clear hO1 hg1 hB1 hW1 hV1 HOB HCC HIH
      go_wp2_with fail
      go_loopw [11, 12] (fun v iv wr => ∃ n : Nat, iv = .int .i64 n ∧ n ≤ 64 ∧ wr.ownsRow w.heap.size 3 1 v 8 (iV (rnds K B H n).list) ∧ wr.ownsRow w.heap.size 3 1 (.slice (some ⟨gw, 0, none⟩) 64 cv) 64 (iV (wList B 64)) ∧ Below w.heap.size w wr) (fun _ iv _ => 64 - (intOf iv).toNat)
      case atStart => exact ⟨0, by go_num, by omega, HS.out⟩
      case round =>
        clear HS
        obtain ⟨n, rfl, hn, hV, hW, hB⟩ := hrel
        obtain ⟨av, vc, rfl⟩ := slice_own hV
        obtain ⟨gv, rfl, hgv1, hgv2, hvc, hvl⟩ := own_cell hV (by omega)
        by_cases hlt : n < 64
        · have hul := rnds_lt (K := K) (B := B) HH.out n
          have hnx : rnds K B H (n + 1) = rnd (K n) (wW B n) (rnds K B H n) := rfl
          obtain ⟨u, hu⟩ : ∃ u, u = rnds K B H n := ⟨_, rfl⟩
          rw [← hu] at hul hnx hvl
          have HNX := Lib.hid hnx
          clear hu hnx
          obtain ⟨a, b, c, d, e, f, g, h⟩ := u
          obtain ⟨la, lb, lc, ld, le, lf, lg, lh⟩ := hul
          simp only at la lb lc ld le lf lg lh
          have c0 := hvl 0 a rfl
          have c1 := hvl 1 b rfl
          have c2 := hvl 2 c rfl
          have c3 := hvl 3 d rfl
          have c4 := hvl 4 e rfl
          have c5 := hvl 5 f rfl
          have c6 := hvl 6 g rfl
          have c7 := hvl 7 h rfl
          have lW := wW_lt B hBl n
          obtain ⟨gW', hgW', _, _, _, hcl⟩ := own_cell hW (by omega)
          have hgW2 : gW' = gw := by cases hgW'; rfl
          subst hgW2
          have cw := hcl n _ (wList_at B (show n < 64 by omega))
          have lK := (HKK.out n hlt).2
          have ck := (hB.cell (p := ⟨gk, n, none⟩) HG.out.2.2).trans (HCK.out n _ (HKK.out n hlt).1)
          obtain ⟨WN, hWN⟩ : ∃ WN, WN = wW B n := ⟨_, rfl⟩
          rw [← hWN] at lW HNX cw
          obtain ⟨KN, hKN⟩ : ∃ KN, KN = K n := ⟨_, rfl⟩
          rw [← hKN] at lK HNX ck
          have HS := Lib.hid (And.intro hW hB)
          have i1 : (0 : Int) ≤ (n : Int) := by omega
          have i2 : (n : Int) < 64 := by omega
          have x1 := x32 (rot e 6) (rot e 11) (rot_lt _ _ le) (rot_lt _ _ le)
          have x2 : bits .xor .i64 ((rot e 6 ^^^ rot e 11 : Nat) : Int) ((rot e 25 : Nat) : Int) = ((f1 e : Nat) : Int) := x32 (rot e 6 ^^^ rot e 11) (rot e 25) (xor_lt (rot_lt _ _ le) (rot_lt _ _ le)) (rot_lt _ _ le)
          have x3 := a32 e f le lf
          obtain ⟨E, hE⟩ : ∃ E, E = 4294967295 - e := ⟨_, rfl⟩
          have lE : E < 4294967296 := by omega
          have eE : (4294967295 : Int) - (e : Int) = (E : Int) := by omega
          have wE : IntKind.i64.wrap (E : Int) = (E : Int) := IntWalk.i64_in _ (by omega)
          have x4 := a32 E g lE lg
          have x5 : bits .xor .i64 ((e &&& f : Nat) : Int) ((E &&& g : Nat) : Int) = ((chN e f g : Nat) : Int) := by
            have hx := x32 (e &&& f) (E &&& g) (and_lt lf) (and_lt lg)
            rw [show (e &&& f) ^^^ (E &&& g) = chN e f g by rw [hE]; exact ch_eq le lf lg] at hx
            exact hx
          have lF := f1_lt le
          have lC := ch_lt (e := e) lf lg
          have HT : Hid (tOf KN WN ⟨a, b, c, d, e, f, g, h⟩ = h + f1 e + chN e f g + KN + WN) := Lib.hid rfl
          obtain ⟨F1, hF1⟩ : ∃ F, F = f1 e := ⟨_, rfl⟩
          obtain ⟨CH, hCH⟩ : ∃ C, C = chN e f g := ⟨_, rfl⟩
          rw [← hF1] at lF HT x2
          rw [← hCH] at lC HT x5
          obtain ⟨T, hT⟩ : ∃ T, T = tOf KN WN ⟨a, b, c, d, e, f, g, h⟩ := ⟨_, rfl⟩
          have hNX2 : rnds K B H (n + 1) = ⟨(T + (f0 a + majN a b c)) % 4294967296, a, b, c, (d + T) % 4294967296, e, f, g⟩ := by rw [HNX.out, hT]; rfl
          rw [← hT] at HT
          have lT : T < 21474836480 := by have := HT.out; omega
          have s1 : IntKind.i64.wrap ((h : Int) + (F1 : Int)) = (h : Int) + (F1 : Int) := IntWalk.i64_in _ (by omega)
          have s2 : IntKind.i64.wrap ((h : Int) + (F1 : Int) + (CH : Int)) = (h : Int) + (F1 : Int) + (CH : Int) := IntWalk.i64_in _ (by omega)
          have s3 : IntKind.i64.wrap ((h : Int) + (F1 : Int) + (CH : Int) + (KN : Int)) = (h : Int) + (F1 : Int) + (CH : Int) + (KN : Int) := IntWalk.i64_in _ (by omega)
          have s4 : IntKind.i64.wrap ((h : Int) + (F1 : Int) + (CH : Int) + (KN : Int) + (WN : Int)) = (T : Int) := by rw [IntWalk.i64_in _ (by omega)]; have := HT.out; omega
          have HNX2 := Lib.hid hNX2
          clear hV hW hB hvl hcl hWN hKN hF1 hCH hT hE hNX2 HNX HT hgW'
          go_upto_region 16 with fail
          go_quiet (first | (go_at_call_of 36 (Value.int .i64 6); refine quiet_dr (right_6 e le _)) | (go_at_call_of 36 (Value.int .i64 11); refine quiet_dr (right_11 e le _)) | (go_at_call_of 36 (Value.int .i64 25); refine quiet_dr (right_25 e le _)))
          obtain ⟨W2, hW2⟩ : ∃ W, W = wr.drewN nq := ⟨_, rfl⟩
          replace c1 : W2.cell? ⟨gv, 1, none⟩ = some (.int .i64 (b : Nat)) := by rw [hW2]; exact c1
          replace c2 : W2.cell? ⟨gv, 2, none⟩ = some (.int .i64 (c : Nat)) := by rw [hW2]; exact c2
          replace c3 : W2.cell? ⟨gv, 3, none⟩ = some (.int .i64 (d : Nat)) := by rw [hW2]; exact c3
          replace c5 : W2.cell? ⟨gv, 5, none⟩ = some (.int .i64 (f : Nat)) := by rw [hW2]; exact c5
          replace c6 : W2.cell? ⟨gv, 6, none⟩ = some (.int .i64 (g : Nat)) := by rw [hW2]; exact c6
          have HS2 : Hid (W2.ownsRow w.heap.size 3 1 (.slice (some ⟨gW', 0, none⟩) 64 cv) 64 (iV (wList B 64)) ∧ Below w.heap.size w W2) := Lib.hid (by rw [hW2]; exact ⟨HS.out.1, below_drewN' HS.out.2 nq⟩)
          rw [← hW2]
          clear hW2 HS c0 c4 c7 cw ck x1 x2 x3 x4 x5 s1 s2 s3 s4 eE wE
          have y1 := x32 (rot a 2) (rot a 13) (rot_lt _ _ la) (rot_lt _ _ la)
          have y2 : bits .xor .i64 ((rot a 2 ^^^ rot a 13 : Nat) : Int) ((rot a 22 : Nat) : Int) = ((f0 a : Nat) : Int) := x32 (rot a 2 ^^^ rot a 13) (rot a 22) (xor_lt (rot_lt _ _ la) (rot_lt _ _ la)) (rot_lt _ _ la)
          have y3 := a32 a b la lb
          have y4 := a32 a c la lc
          have y5 := x32 (a &&& b) (a &&& c) (and_lt lb) (and_lt lc)
          have y6 := a32 b c lb lc
          have y7 : bits .xor .i64 ((a &&& b ^^^ a &&& c : Nat) : Int) ((b &&& c : Nat) : Int) = ((majN a b c : Nat) : Int) := by
            have hx := x32 (a &&& b ^^^ a &&& c) (b &&& c) (xor_lt (and_lt lb) (and_lt lc)) (and_lt lc)
            rw [maj_eq] at hx
            exact hx
          have lF0 := f0_lt la
          have lMJ := maj_lt (c := c) la lb
          have hNX2 := HNX2.out
          obtain ⟨F0, hF0⟩ : ∃ F, F = f0 a := ⟨_, rfl⟩
          obtain ⟨MJ, hMJ⟩ : ∃ C, C = majN a b c := ⟨_, rfl⟩
          rw [← hF0] at lF0 hNX2 y2
          rw [← hMJ] at lMJ hNX2 y7
          obtain ⟨U, hU⟩ : ∃ U, U = F0 + MJ := ⟨_, rfl⟩
          rw [← hU] at hNX2
          have s5 : IntKind.i64.wrap ((F0 : Int) + (MJ : Int)) = (U : Int) := by rw [IntWalk.i64_in _ (by omega)]; omega
          have lU : U < 8589934592 := by omega
          obtain ⟨TU, hTU⟩ : ∃ TU, TU = T + U := ⟨_, rfl⟩
          obtain ⟨DT, hDT⟩ : ∃ DT, DT = d + T := ⟨_, rfl⟩
          rw [← hTU, ← hDT] at hNX2
          have s6 : IntKind.i64.wrap ((T : Int) + (U : Int)) = (TU : Int) := by rw [IntWalk.i64_in _ (by omega)]; omega
          have s7 : IntKind.i64.wrap ((d : Int) + (T : Int)) = (DT : Int) := by rw [IntWalk.i64_in _ (by omega)]; omega
          have lTU : TU < 4611686018427387904 := by omega
          have lDT : DT < 4611686018427387904 := by omega
          obtain ⟨M1, hM1⟩ : ∃ M, M = TU % 4294967296 := ⟨_, rfl⟩
          obtain ⟨M2, hM2⟩ : ∃ M, M = DT % 4294967296 := ⟨_, rfl⟩
          have HL1 : Hid (∀ W, Calls Try.prog 35 #[.int .i64 TU] W fun e w' => e = .returned (.int .i64 (M1 : Nat)) ∧ w' = W) := Lib.hid (fun W => by rw [hM1]; exact low_any TU lTU W)
          have HL2 : Hid (∀ W, Calls Try.prog 35 #[.int .i64 DT] W fun e w' => e = .returned (.int .i64 (M2 : Nat)) ∧ w' = W) := Lib.hid (fun W => by rw [hM2]; exact low_any DT lDT W)
          rw [← hM1, ← hM2] at hNX2
          have HNX := Lib.hid hNX2
          clear HNX2 hNX2 hF0 hMJ hU hTU hDT hM1 hM2 lTU lDT
          go_upto_region 17 with fail
          go_quiet (first | (go_at_call_of 36 (Value.int .i64 2); refine quiet_dr (right_2 a la _)) | (go_at_call_of 36 (Value.int .i64 13); refine quiet_dr (right_13 a la _)) | (go_at_call_of 36 (Value.int .i64 22); refine quiet_dr (right_22 a la _)))
          obtain ⟨W3, hW3⟩ : ∃ W, W = W2.drewN nq := ⟨_, rfl⟩
          replace c1 : W3.cell? ⟨gv, 1, none⟩ = some (.int .i64 (b : Nat)) := by rw [hW3]; exact c1
          replace c2 : W3.cell? ⟨gv, 2, none⟩ = some (.int .i64 (c : Nat)) := by rw [hW3]; exact c2
          replace c3 : W3.cell? ⟨gv, 3, none⟩ = some (.int .i64 (d : Nat)) := by rw [hW3]; exact c3
          replace c5 : W3.cell? ⟨gv, 5, none⟩ = some (.int .i64 (f : Nat)) := by rw [hW3]; exact c5
          replace c6 : W3.cell? ⟨gv, 6, none⟩ = some (.int .i64 (g : Nat)) := by rw [hW3]; exact c6
          have HS3 : Hid (W3.ownsRow w.heap.size 3 1 (.slice (some ⟨gW', 0, none⟩) 64 cv) 64 (iV (wList B 64)) ∧ Below w.heap.size w W3) := Lib.hid (by rw [hW3]; exact ⟨HS2.out.1, below_drewN' HS2.out.2 nq⟩)
          rw [← hW3]
          clear hW3 HS2 y1 y2 y3 y4 y5 y6 y7 s5
          go_upto_region 18 with fail
          go_region_held3 (fun w' => w'.cell? ⟨gv, 1, none⟩ = some (.int .i64 (b : Nat)) ∧ w'.cell? ⟨gv, 2, none⟩ = some (.int .i64 (c : Nat)) ∧ w'.cell? ⟨gv, 3, none⟩ = some (.int .i64 (d : Nat)) ∧ w'.cell? ⟨gv, 5, none⟩ = some (.int .i64 (f : Nat)) ∧ w'.cell? ⟨gv, 6, none⟩ = some (.int .i64 (g : Nat)))
            (first | exact ⟨c1, c2, c3, c5, c6⟩ | exact ⟨cellA c1 _, cellA c2 _, cellA c3 _, cellA c5 _, cellA c6 _⟩)
            (first
              | (go_at_call_of 35 (Value.int .i64 (TU : Nat)); ((with_reducible refine (HL1.out _).mono ?_)); rintro e' w4 ⟨rfl, rfl⟩)
              | (go_at_call_of 35 (Value.int .i64 (DT : Nat)); ((with_reducible refine (HL2.out _).mono ?_)); rintro e' w4 ⟨rfl, rfl⟩))
          all_goals
            have hLit : (W3.alloc (Obj.cells #[.int .i64 (M1 : Nat), .int .i64 (a : Nat), .int .i64 (b : Nat), .int .i64 (c : Nat), .int .i64 (M2 : Nat), .int .i64 (e : Nat), .int .i64 (f : Nat), .int .i64 (g : Nat)] 3)).ownsRow w.heap.size 3 1 (.slice (some ⟨W3.heap.size, 0, none⟩) 8 8) 8 (iV (rnds K B H (n + 1)).list) := by
              rw [HNX.out]
              exact World.ownsRow_lit (base := w.heap.size) (e := 3) (size := 1) W3 #[.int .i64 (M1 : Nat), .int .i64 (a : Nat), .int .i64 (b : Nat), .int .i64 (c : Nat), .int .i64 (M2 : Nat), .int .i64 (e : Nat), .int .i64 (f : Nat), .int .i64 (g : Nat)] 8 HS3.out.2.size (by decide) rfl
            have HF := Lib.hid (And.intro hLit (And.intro (World.ownsRow.alloc HS3.out.1 (Obj.cells #[.int .i64 (M1 : Nat), .int .i64 (a : Nat), .int .i64 (b : Nat), .int .i64 (c : Nat), .int .i64 (M2 : Nat), .int .i64 (e : Nat), .int .i64 (f : Nat), .int .i64 (g : Nat)] 3)) (HS3.out.2.alloc HS3.out.2.size (Obj.cells #[.int .i64 (M1 : Nat), .int .i64 (a : Nat), .int .i64 (b : Nat), .int .i64 (c : Nat), .int .i64 (M2 : Nat), .int .i64 (e : Nat), .int .i64 (f : Nat), .int .i64 (g : Nat)] 3))))
            clear hLit HS3 HNX HL1 HL2 c1 c2 c3 c5 c6 s6 s7
            go_wp2
            exact ⟨⟨n + 1, by go_num, by omega, HF.out.1, HF.out.2.1, HF.out.2.2.drew⟩, by simp [intOf]; omega⟩
        · have hn64 : n = 64 := by omega
          obtain ⟨u, hu⟩ : ∃ u, u = rnds K B H n := ⟨_, rfl⟩
          have hfin : blkV K B H = addV H u := by rw [hu, hn64]; rfl
          have hul : u.lt := by rw [hu]; exact rnds_lt HH.out n
          rw [← hu] at hvl
          have HFIN := Lib.hid hfin
          obtain ⟨W0, hW0⟩ : ∃ W0, W0 = wr := ⟨_, rfl⟩
          have hG2 : ∀ j x, H.list[j]? = some x → W0.cell? ⟨gh, j, none⟩ = some (.int .i64 (x : Nat)) := fun j x hx => by rw [hW0]; exact (hB.cell (p := ⟨gh, j, none⟩) HG.out.2.1).trans (HCH.out j x hx)
          have hgh0 : gh < W0.heap.size := by rw [hW0]; exact Nat.lt_of_lt_of_le HG.out.2.1 hB.size
          rw [← hW0] at hvl hgv2 hB
          have HR := Lib.hid (And.intro hG2 (And.intro hvl (And.intro hgh0 (And.intro hgv2 hB))))
          have HUL := Lib.hid hul
          have HB0 := Lib.hid (hW0 ▸ Below.refl _ _ : Below W0.heap.size W0 wr)
          clear hn64 hu hfin hul hV hW hB hvl hG2 hgh0 hgv2 hW0
          go_wp2_with fail
          go_loopw [17, 18] (fun v iv wr => ∃ j : Nat, iv = .int .i64 j ∧ j ≤ 8 ∧ wr.ownsRow W0.heap.size 3 1 v j (iV ((addV H u).list.take j)) ∧ Below W0.heap.size W0 wr) (fun _ iv _ => 8 - (intOf iv).toNat)
          case atStart => exact ⟨0, by go_num, by omega, World.ownsRow_nil _ _ _ _, HB0.out⟩
          case round =>
            clear HB0
            obtain ⟨j, rfl, hj, hO, hB⟩ := hrel
            obtain ⟨ao, co, rfl⟩ := slice_own hO
            by_cases hlt : j < 8
            · obtain ⟨x, y, hx, hy, hset⟩ := addV_take H u hlt
              have gx := HR.out.1 j x hx
              have gy := HR.out.2.1 j y hy
              have cx := (hB.cell (p := ⟨gh, j, none⟩) HR.out.2.2.1).trans gx
              have cy := (hB.cell (p := ⟨gv, j, none⟩) HR.out.2.2.2.1).trans gy
              have lx : x < 4294967296 := V8.lt_at HH.out hx
              have ly : y < 4294967296 := V8.lt_at HUL.out hy
              obtain ⟨XY, hXY⟩ : ∃ XY, XY = x + y := ⟨_, rfl⟩
              have s1 : IntKind.i64.wrap ((x : Int) + (y : Int)) = (XY : Int) := by rw [IntWalk.i64_in _ (by omega)]; omega
              have lXY : XY < 4611686018427387904 := by omega
              rw [← hXY] at hset
              obtain ⟨M, hM⟩ : ∃ M, M = XY % 4294967296 := ⟨_, rfl⟩
              have HL : Hid (∀ W, Calls Try.prog 35 #[.int .i64 XY] W fun e w' => e = .returned (.int .i64 (M : Nat)) ∧ w' = W) := Lib.hid (fun W => by rw [hM]; exact low_any XY lXY W)
              rw [← hM] at hset
              have HSET := Lib.hid hset
              have HOB := Lib.hid (And.intro hO hB)
              have GX := Lib.hid (And.intro gx gy)
              have i1 : (0 : Int) ≤ (j : Int) := by omega
              have i2 : (j : Int) < 8 := by omega
              clear hM hXY hx hy hset hO hB gx gy lXY
              go_upto_region 23 with fail
              go_region_held3 (fun w' => w'.cell? ⟨gh, j, none⟩ = some (.int .i64 (x : Nat)) ∧ w'.cell? ⟨gv, j, none⟩ = some (.int .i64 (y : Nat)))
                (first | exact ⟨cx, cy⟩ | exact ⟨cellA cx _, cellA cy _⟩ | exact ⟨d0, d1⟩)
                (first
                  | (go_at_call 35; ((with_reducible refine (HL.out _).mono ?_)); rintro e' w4 ⟨rfl, rfl⟩)
                  | (refine step_append_lies _ (by rfl) _ _ _ (by rfl) W0.heap.size 3 i0 (.int .i64 0) 1 8 Try.underlying53 hi hz0 hz1 hz2 rfl (by decide) (.slice ao j co) j (iV ((addV H u).list.take j)) (by rfl) (drewO (World.ownsRow.alloc HOB.out.1 _)) ⟨wr.heap.size, 0, none⟩ 1 1 [.int .i64 (M : Nat)] (by rfl) (by rfl) (cell1_new _ _ _) (one1 _ rfl) (by decide) (by unfold maxLen; omega) (by omega) (by have := HOB.out.2.size; simp; omega) (wr.heap.size + 1) (by simp) ?_; intro gg cap w1 hown1 hgrow hat hlt'; have hB1 : Below W0.heap.size W0 w1 := ((HOB.out.2.alloc HOB.out.2.size _).drew).grown hgrow (Nat.le_trans HOB.out.2.size (by simp)) (fun q hq => (World.ownsRow.lt HOB.out.1 q hq).1); have d0 := (hB1.cell (p := ⟨gh, j, none⟩) HR.out.2.2.1).trans GX.out.1; have d1 := (hB1.cell (p := ⟨gv, j, none⟩) HR.out.2.2.2.1).trans GX.out.2))
              all_goals
                have hO4 : w1.ownsRow W0.heap.size 3 1 (.slice (some ⟨gg, 0, none⟩) (j + 1) cap) (j + 1) (iV ((addV H u).list.take (j + 1))) := by
                  rw [HSET.out, iV_app]; exact hown1
                have HF := Lib.hid (And.intro hO4 hB1)
                clear d0 d1 hown1 hgrow hat hlt' hO4 hB1 HOB GX HSET cx cy s1 HL
                go_wp2
                exact ⟨⟨j + 1, by go_num, by omega, HF.out.1, HF.out.2⟩, by simp [intOf]; omega⟩
            · have hj8 : j = 8 := by omega
              subst hj8
              have hO8 : wr.ownsRow W0.heap.size 3 1 (.slice ao 8 co) 8 (iV (blkV K B H).list) := by rw [HFIN.out]; exact hO
              have HF := Lib.hid (And.intro hO8 hB)
              clear hO hB hO8
              go_wp2
              go_ret
              exact ⟨_, rfl, owns_mono HF.out.1 HR.out.2.2.2.2.size, HR.out.2.2.2.2.trans (HF.out.2.mono HR.out.2.2.2.2.size)⟩
end Go.Proofs.Ytjahdladcijhoaa
