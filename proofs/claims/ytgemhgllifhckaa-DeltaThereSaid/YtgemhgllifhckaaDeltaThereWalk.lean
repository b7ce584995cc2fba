/- DeltaThere: the walk. Conditions: as named in each theorem. -/
import Derived.Test.YtgemhgllifhckaaDlThere
import Derived.Test.YtgemhgllifhckaaDlFew
namespace Go.Proofs.Ytgemhgllifhckaa
open Go.RowKit Sg
set_option linter.unusedVariables false
set_option linter.unusedSimpArgs false

theorem bytesR_size {d : Dl} (h : d.steps.length ≤ 200) : (bytesR d).1.size ≤ 1000000 := by
  by_cases hp : RightP d
  · rw [bytesR_yes hp]
    have := bytes_size hp
    simp only [ByteArray.size, List.size_toArray]
    exact Nat.le_trans this (by omega)
  · rw [bytesR_no hp]; decide
theorem there1 (d : Dl) : ((bytesR d).2 = 0 ∧ readD (bytesR d).1.data.toList = (d, 0)) ∨ (bytesR d).2 = 1 := by
  by_cases hp : RightP d
  · rw [bytesR_yes hp]
    exact .inl ⟨rfl, readD_back d hp⟩
  · rw [bytesR_no hp]; exact .inr rfl
theorem there2 (s : ByteArray) : ((readD s.data.toList).2 = 0 ∧ bytesR (readD s.data.toList).1 = (s, 0)) ∨ (readD s.data.toList).2 ≠ 0 := by
  by_cases h : (readD s.data.toList).2 = 0
  · obtain ⟨a, b⟩ := readD_there _ h
    refine .inl ⟨h, ?_⟩
    rw [bytesR_yes a, b]
  · exact .inr h
theorem readD_ok (l : List UInt8) : (Lit.int .i64 (readD l).1.size).wf = true ∧ (readD l).1.basis.size ≤ maxLen ∧ (readD l).1.mark.size ≤ maxLen ∧ ∀ x ∈ (readD l).1.steps, x.ok := by
  unfold readD
  rcases rdTail_right (mkB (stRaw 32 (l, 0)).1) (mkB (stRaw 32 (stRaw 32 (l, 0)).2).1) ((stNum (stRaw 32 (stRaw 32 (l, 0)).2).2).1 : Nat) (rdSteps (stNum (stNum (stRaw 32 (stRaw 32 (l, 0)).2).2).2).1 [] (stNum (stNum (stRaw 32 (stRaw 32 (l, 0)).2).2).2).2) with h | ⟨h, _⟩
  · rw [h]
    exact ⟨rfl, by decide, by decide, by simp [dl0]⟩
  · obtain ⟨h1, h2, h3, h4, h5, h6⟩ := h
    exact ⟨wfI _ (by omega) (by omega), by rw [h1]; decide, by rw [h2]; decide, fun x hx => rightS_ok (h5 x hx)⟩

set_option maxRecDepth 100000 in
set_option maxHeartbeats 4000000 in
theorem deltaThere_walk (w : World) (c : Array Value) (o : Kd.ok w (.agg [.str, .str, .int .i64, .sl (.agg [.int .i64, .int .i64, .str])]) c.toList) (s0 : ByteArray) (hs0 : s0.size ≤ 140737488351232) :
    Calls Try.prog 13 #[.agg c, .string s0] w fun e w' => e = .returned (.bool true) ∧ Below w.heap.size w w' := by
  have hcs := cutS_size s0 6000
  obtain ⟨b, m, z, ao, n0, cap, L0, rfl, hb, hm, ws, hW0, hok0⟩ := delta_of o
  clear o
  have hW := hW0.few
  have hok : ∀ x ∈ L0.take (cut200 n0), x.ok := fun x hx => hok0 x (List.mem_of_mem_take hx)
  obtain ⟨V1, hV1⟩ : ∃ V, V = w.alloc (Obj.cells #[.string b, .string m, .int .i64 z, .slice ao n0 cap] 25) := ⟨_, rfl⟩
  obtain ⟨p1, hp1⟩ : ∃ p, p = w.heap.size := ⟨_, rfl⟩
  have hG1 : Blk V1 p1 [.string b, .string m, .int .i64 z, .slice ao n0 cap] 25 := by rw [hV1, hp1]; exact Blk.new _ _ _
  have hB1 : Below w.heap.size w V1 := by rw [hV1]; exact below_alloc _ _
  have HF := Lib.hid (few_any V1 b m z ao n0 cap L0 (hW0.next hB1))
  obtain ⟨n, hn⟩ : ∃ n, n = cut200 n0 := ⟨_, rfl⟩
  obtain ⟨L, hL⟩ : ∃ L, L = L0.take n := ⟨_, rfl⟩
  rw [← hn] at hW hok HF
  rw [← hL] at hW hok
  obtain ⟨D, hD⟩ : ∃ D : Dl, D = ⟨b, m, z, L⟩ := ⟨_, rfl⟩
  have HC1 : Hid (∀ wx, Below w.heap.size w wx → Calls Try.prog 26 #[.agg #[.string b, .string m, .int .i64 z, .slice ao n cap]] wx fun e w' => e = .returned (.tuple #[.string (bytesR D).1, .int .i64 (bytesR D).2]) ∧ Below wx.heap.size wx w') := Lib.hid (fun wx h => by rw [hD]; exact dlBytes_any wx b m z ao n cap L ws hb hm (hW.next h) hok)
  have hL200 : L.length ≤ 200 := by
    have h1 := (cut200_le n0).2
    rw [hL, List.length_take]; omega
  obtain ⟨s, hs⟩ : ∃ s, s = cutS s0 6000 := ⟨_, rfl⟩
  rw [← hs] at hcs
  have HCUT := Lib.hid (fun W => cut_any s0 6000 W (by omega) (by decide))
  rw [← hs] at HCUT
  have hA := bytesR_size (d := D) (by rw [hD]; exact hL200)
  have HT1 := Lib.hid (there1 D)
  obtain ⟨A, hAe⟩ : ∃ A, A = (bytesR D).1 := ⟨_, rfl⟩
  obtain ⟨E, hE⟩ : ∃ E, E = (bytesR D).2 := ⟨_, rfl⟩
  rw [← hAe, ← hE] at HC1 HT1
  rw [← hAe] at hA
  have HRF := Lib.hid (fun W => read_d W A hA)
  obtain ⟨F, hF⟩ : ∃ F, F = readD A.data.toList := ⟨_, rfl⟩
  rw [← hF] at HT1 HRF
  have HRH := Lib.hid (fun W => read_d W s (by omega))
  have HT2 := Lib.hid (there2 s)
  have hok2 := readD_ok s.data.toList
  obtain ⟨G, hG⟩ : ∃ G, G = readD s.data.toList := ⟨_, rfl⟩
  rw [← hG] at HT2 HRH hok2
  obtain ⟨BR, hBR⟩ : ∃ BR, BR = bytesR G.1 := ⟨_, rfl⟩
  rw [← hBR] at HT2
  have HBG : Hid (∀ (W : World) (ao : Option Addr) (cap : Nat), Own W w.heap.size (.slice ao G.1.steps.length cap) G.1.steps → Calls Try.prog 26 #[.agg #[.string G.1.basis, .string G.1.mark, .int .i64 G.1.size, .slice ao G.1.steps.length cap]] W fun e w' => e = .returned (.tuple #[.string BR.1, .int .i64 BR.2]) ∧ Below W.heap.size W w') := Lib.hid (fun W ao cap h => by
    rw [hBR]; exact dlBytes_any W G.1.basis G.1.mark G.1.size ao G.1.steps.length cap G.1.steps hok2.1 hok2.2.1 hok2.2.2.1 (Own.rs rfl h) hok2.2.2.2)
  have HRW := Lib.hid (fun (W : World) (h : Below w.heap.size w W) => hW.next h)
  obtain ⟨⟨gb, gm, gz, gl⟩, ge⟩ := G
  obtain ⟨BS, BE⟩ := BR
  try simp only at HRH
  try simp only at HBG
  obtain ⟨⟨fb, fm, fz, fl⟩, fe⟩ := F
  have hln : L.length = n := hW.2.2.1
  subst hD
  try simp only at HT1
  try simp only at HRF
  have HV1 := Lib.hid hV1
  have HP1 := Lib.hid hp1
  have HGB := Lib.hid (And.intro hG1 hB1)
  have c0 := hG1.cell (i := 0) rfl
  have c1 := hG1.cell (i := 1) rfl
  have c2 := hG1.cell (i := 2) rfl
  have c3 := hG1.cell (i := 3) rfl
  have HLN := Lib.hid (And.intro hln hL200)
  clear hV1 hp1 hG1 hB1 hW0 hok0 hn hL hW hok hb hm hs hs0 hok2 hG hBR hF hAe hE hA ws hln hL200
  go_enter Try.func13, Try.ntmps13
  go_upto_region 1 with fail
  rw [← HP1.out, ← HV1.out]
  go_wp2_with fail
  refine HF.out.mono ?_
  rintro e w2 ⟨rfl, hb2⟩
  have hG2 := HGB.out.1.below hb2 HGB.out.1.lt
  have HG2 := Lib.hid (And.intro hG2 (bl_nx HGB.out.2 hb2))
  have f0 := hG2.frozen 0
  have f1 := hG2.frozen 1
  have f2 := hG2.frozen 2
  have f3 := hG2.frozen 3
  have d0 := hG2.cell (i := 0) rfl
  have d1 := hG2.cell (i := 1) rfl
  have d2 := hG2.cell (i := 2) rfl
  have d3 := hG2.cell (i := 3) rfl
  clear c0 c1 c2 c3 hb2 hG2
  go_upto_region 2 with fail
  obtain ⟨V3, hV3⟩ : ∃ V, V = (((w2.setCell ⟨p1, 0, none⟩ (.string b)).setCell ⟨p1, 1, none⟩ (.string m)).setCell ⟨p1, 2, none⟩ (.int .i64 z)).setCell ⟨p1, 3, none⟩ (.slice ao n cap) := ⟨_, rfl⟩
  have hG3 : Blk V3 p1 [.string b, .string m, .int .i64 z, .slice ao n cap] 25 := by rw [hV3]; exact (((HG2.out.1.set 0 _).set 1 _).set 2 _).set 3 _
  have hB3 : Below w.heap.size w V3 := by
    have hp : w.heap.size ≤ p1 := by rw [HP1.out]; exact Nat.le_refl _
    rw [hV3]; exact (((HG2.out.2.setCell hp _).setCell hp _).setCell hp _).setCell hp _
  have HB3 := Lib.hid (And.intro hG3 hB3)
  rw [← hV3]
  have c0 := hG3.cell (i := 0) rfl
  have c1 := hG3.cell (i := 1) rfl
  have c2 := hG3.cell (i := 2) rfl
  have c3 := hG3.cell (i := 3) rfl
  clear hV3 hG3 hB3 d0 d1 d2 d3 f0 f1 f2 f3 HF
  go_wp2_with fail
  refine (HCUT.out V3).mono ?_
  rintro e w' ⟨rfl, rfl⟩
  go_wp2_with fail
  refine (HC1.out V3 HB3.out.2).mono ?_
  rintro e w4 ⟨rfl, hb4⟩
  have HG4 := Lib.hid (And.intro (HB3.out.1.below hb4 HB3.out.1.lt) (bl_nx HB3.out.2 hb4))
  clear hb4 c0 c1 c2 c3
  go_wp2_with fail
  refine (HRF.out w4).mono ?_
  rintro e w5 ⟨v5, rfl, hO5, hb5⟩
  simp only at hO5
  obtain ⟨a5, k5, rfl⟩ := owns_slice hO5
  obtain ⟨V6, hV6⟩ : ∃ V, V = w5.alloc (Obj.cells #[.string fb, .string fm, .int .i64 fz, .slice a5 fl.length k5] 25) := ⟨_, rfl⟩
  obtain ⟨p7, hp7⟩ : ∃ p, p = w5.heap.size := ⟨_, rfl⟩
  have hb6 : Below w5.heap.size w5 V6 := by rw [hV6]; exact below_alloc _ _
  have HX6 : Hid (Blk V6 p7 [.string fb, .string fm, .int .i64 fz, .slice a5 fl.length k5] 25) := by rw [hV6, hp7]; exact Lib.hid (Blk.new _ _ _)
  have HG6 := Lib.hid (And.intro ((HG4.out.1.below hb5 HG4.out.1.lt).below hb6 (Nat.lt_of_lt_of_le HG4.out.1.lt hb5.size)) (bl_nx (bl_nx HG4.out.2 hb5) hb6))
  have HO6 := Lib.hid (hO5.below hb6)
  have HV6 := Lib.hid hV6
  have HP7 := Lib.hid hp7
  have HWS : Hid (w.heap.size ≤ w4.heap.size) := Lib.hid HG4.out.2.size
  clear hV6 hp7 hb6 hb5 hO5 HG4
  go_upto_region 5 with fail
  rw [← HP7.out, ← HV6.out]
  go_wp2_with fail
  refine (HRH.out V6).mono ?_
  rintro e w7 ⟨v7, rfl, hO7, hb7⟩
  simp only at hO7
  obtain ⟨a7, k7, rfl⟩ := owns_slice hO7
  obtain ⟨V8, hV8⟩ : ∃ V, V = w7.alloc (Obj.cells #[.string gb, .string gm, .int .i64 gz, .slice a7 gl.length k7] 25) := ⟨_, rfl⟩
  obtain ⟨p9, hp9⟩ : ∃ p, p = w7.heap.size := ⟨_, rfl⟩
  have hb8 : Below w7.heap.size w7 V8 := by rw [hV8]; exact below_alloc _ _
  have hX8 : Blk V8 p9 [.string gb, .string gm, .int .i64 gz, .slice a7 gl.length k7] 25 := by rw [hV8, hp9]; exact Blk.new _ _ _
  have HG8 := Lib.hid (And.intro ((HG6.out.1.below hb7 HG6.out.1.lt).below hb8 (Nat.lt_of_lt_of_le HG6.out.1.lt hb7.size)) (bl_nx (bl_nx HG6.out.2 hb7) hb8))
  have HX68 := Lib.hid ((HX6.out.below hb7 HX6.out.lt).below hb8 (Nat.lt_of_lt_of_le HX6.out.lt hb7.size))
  have HO8 := Lib.hid ((HO6.out.below hb7).below hb8)
  have HBX := Lib.hid (HBG.out V8 a7 k7 (owns_mono (hO7.below hb8) (by have := HG6.out.2.size; exact this)))
  have HV8 := Lib.hid hV8
  have HP9 := Lib.hid hp9
  have x0 := hX8.cell (i := 0) rfl
  have x1 := hX8.cell (i := 1) rfl
  have x2 := hX8.cell (i := 2) rfl
  have x3 := hX8.cell (i := 3) rfl
  clear hV8 hp9 hb8 hb7 hO7 hX8 HX6 HO6 HG6 HBG
  go_upto_region 6 with fail
  rw [← HP9.out, ← HV8.out]
  go_wp2_with fail
  refine HBX.out.mono ?_
  rintro e w9 ⟨rfl, hb9⟩
  have HG9 := Lib.hid (And.intro (HG8.out.1.below hb9 HG8.out.1.lt) (bl_nx HG8.out.2 hb9))
  have HX9 := Lib.hid (HX68.out.below hb9 HX68.out.lt)
  have HO9 := Lib.hid (HO8.out.below hb9)
  clear hb9 x0 x1 x2 x3 HG8 HX68 HO8 HBX
  rcases HT2.out with ⟨g1, g2⟩ | g1
  case' inl =>
    injection g2 with g2 g3
    subst g1 g2 g3
    have k1 : (BS.toList == BS.toList) = true := by simp
  case' inr =>
    have k1 : (((ge : Nat) : Int) != 0) = true := by simp [g1]
    clear g1
  all_goals
    rcases HT1.out with ⟨e1, e2⟩ | e1
    case inl =>
      injection e2 with e2 e3
      injection e2 with e4 e5 e6 e7
      subst e1 e3 e4 e5 e6 e7
      have HS := Lib.hid (same_rs w9 fb fm fz fl fl.length a5 ao k5 cap (by have := HLN.out; omega) (HO9.out.rs rfl) (by have := HRW.out w9 HG9.out.2; rw [← HLN.out.1] at this; exact this))
      have hnn : n = fl.length := HLN.out.1.symm
      subst hnn
      have c0 := HG9.out.1.cell (i := 0) rfl
      have c1 := HG9.out.1.cell (i := 1) rfl
      have c2 := HG9.out.1.cell (i := 2) rfl
      have c3 := HG9.out.1.cell (i := 3) rfl
      have x0 := HX9.out.cell (i := 0) rfl
      have x1 := HX9.out.cell (i := 1) rfl
      have x2 := HX9.out.cell (i := 2) rfl
      have x3 := HX9.out.cell (i := 3) rfl
      go_wp2_with fail
      refine HS.out.mono ?_
      rintro e wa ⟨rfl, hba⟩
      have HBA := Lib.hid (bl_nx HG9.out.2 hba)
      clear c0 c1 c2 c3 x0 x1 x2 x3 hba
      go_wp2_with fail
      refine (awake_any _).mono ?_
      rintro e wb ⟨rfl, hbb⟩
      have HBB := Lib.hid (bl_nx HBA.out hbb)
      clear hbb
      go_wp2
      go_ret
      exact ⟨rfl, HBB.out⟩
    case inr =>
      subst e1
      go_wp2_with fail
      refine (awake_any _).mono ?_
      rintro e wb ⟨rfl, hbb⟩
      have HBB := Lib.hid (bl_nx HG9.out.2 hbb)
      clear hbb
      go_wp2
      go_ret
      exact ⟨rfl, HBB.out⟩
end Go.Proofs.Ytgemhgllifhckaa
