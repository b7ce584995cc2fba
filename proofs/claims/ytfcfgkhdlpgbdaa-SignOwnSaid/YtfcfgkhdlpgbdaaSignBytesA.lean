/- sign.Bytes. Conditions: as named in each theorem. -/
import Derived.Test.YtfcfgkhdlpgbdaaSignRight2
import Derived.Test.YtfcfgkhdlpgbdaaBldUse
import Derived.Test.YtfcfgkhdlpgbdaaCodeNum
import Derived.Test.YtfcfgkhdlpgbdaaAppendRow2
import Derived.Deep.Cut
namespace Go.Proofs.Ytfcfgkhdlpgbdaa
open Go.RowKit
set_option linter.unusedVariables false

def sigNums (b z : Nat) (W : List Int) : List Int := (b : Int) :: (z : Int) :: W
def sigL (b z : Nat) (W : List Int) (T : List ByteArray) : List UInt8 := numsL (sigNums b z W) ++ textsL T
theorem sigNums_bd {b z : Nat} {W : List Int} {T : List ByteArray} (h : sigOk b z W T) : ∀ x ∈ sigNums b z W, 0 ≤ x ∧ x ≤ 4611686018427387903 := by
  intro x hx
  simp only [sigNums, List.mem_cons] at hx
  rcases hx with rfl | rfl | hx
  · have := h.1; have := h.2.1; omega
  · have := h.2.2.1; have := h.2.2.2.1; omega
  · obtain ⟨i, hi, rfl⟩ := List.getElem_of_mem hx
    have hT : i < T.length := by have := h.2.2.2.2.2.1; omega
    have := h.2.2.2.2.2.2 i hi _ _ (List.getElem?_eq_getElem hi) (List.getElem?_eq_getElem hT)
    omega
theorem sigOk_32 {b z : Int} {W : List Int} {T : List ByteArray} (h : sigOk b z W T) : ∀ t ∈ T, t.size = 32 := by
  intro t ht
  obtain ⟨i, hi, rfl⟩ := List.getElem_of_mem ht
  have hW : i < W.length := by have := h.2.2.2.2.2.1; omega
  exact (h.2.2.2.2.2.2 i hW _ _ (List.getElem?_eq_getElem hW) (List.getElem?_eq_getElem hi)).2.2
theorem wfI (n : Int) (h0 : -9223372036854775808 ≤ n) (h : n ≤ 9223372036854775807) : (Lit.int .i64 n).wf = true := Go.WalkArith.wf_i64 ⟨h0, h⟩
theorem sigOk_wfW {b z : Int} {W : List Int} {T : List ByteArray} (h : sigOk b z W T) : ∀ x ∈ W, (Lit.int .i64 x).wf = true := by
  intro x hx
  obtain ⟨i, hi, rfl⟩ := List.getElem_of_mem hx
  have hT : i < T.length := by have := h.2.2.2.2.2.1; omega
  have := h.2.2.2.2.2.2 i hi _ _ (List.getElem?_eq_getElem hi) (List.getElem?_eq_getElem hT)
  exact wfI _ (by omega) (by omega)
theorem intsFlat (L : List Int) : L.flatMap (fun x => [Value.int .i64 x]) = L.map (Value.int .i64) := by
  induction L with
  | nil => rfl
  | cons x l ih => rw [List.flatMap_cons, ih]; rfl

theorem bl_alloc' {w W : World} (h : Below w.heap.size w W) (o : Obj) : Below w.heap.size w (W.alloc o) := h.alloc h.size o
theorem bl_nx {w W X : World} (h : Below w.heap.size w W) (k : Below W.heap.size W X) : Below w.heap.size w X := h.trans (k.mono h.size)
theorem Blk.belowB {W w1 : World} {q : Nat} {cs : List Value} {t : TypeId} (h : Blk W q cs t) (hb : Below W.heap.size W w1) : Blk w1 q cs t := h.below hb h.lt
theorem owns_newL (w : World) (xs : List Value) (e : TypeId) (n : Nat) (hn : xs.length = n) (hm : n ≤ maxLen) : (w.alloc (.cells xs.toArray e)).ownsRow w.heap.size e 1 (.slice (some ⟨w.heap.size, 0, none⟩) n n) n xs := by
  subst hn
  refine ⟨by simp, .inr ⟨w.heap.size, xs.length, xs.toArray, rfl, Nat.le_refl _, heap_alloc_new w _, Nat.le_refl _, hm, by simp, by simp⟩⟩
theorem one_ints (L : List Int) : ∀ u ∈ L.flatMap (fun x => [Value.int .i64 x]), u.oneCell' = true := by
  intro u hu
  simp only [List.mem_flatMap, List.mem_singleton] at hu
  obtain ⟨x, _, rfl⟩ := hu
  rfl
theorem numsL_nat (L : List Int) (k : Nat) (x : Nat) (h : L[k]? = some (x : Int)) : numsL (L.take (k + 1)) = numsL (L.take k) ++ (numBs x).data.toList := by
  rw [numsL_take L k x h]; rfl
theorem slice_of5 {w : World} {base : Nat} {e : TypeId} {size n : Nat} {v : Value} {xs : List Value} (h : w.ownsRow base e size v n xs) : ∃ ao cap, v = .slice ao n cap := owns_slice h
theorem RowI.rs' {w : World} {base n cap : Nat} {ao : Option Addr} {l : List Int} (h : RowI w base (.slice ao n cap) l) (hn : l.length = n) : Rs w ao n cap 1 l (fun x => [.int .i64 x]) := by
  refine Rs.of_owns (f := fun x : Int => [Value.int .i64 x]) (size := 1) (base := base) (e := 3) (fun _ => rfl) hn ?_
  rw [intsFlat]; subst hn; exact h
set_option maxRecDepth 100000 in
set_option maxHeartbeats 2000000 in
theorem sgBytes_ok (w : World) (b z : Nat) (ao : Option Addr) (n cap : Nat) (bo : Option Addr) (m cap2 : Nat) (W : List Int) (T : List ByteArray)
    (hW : Rs w ao n cap 1 W (fun x => [.int .i64 x])) (hT : Rs w bo m cap2 1 T (fun x => [.string x])) (hok : sigOk b z W T) :
    Calls Try.prog 26 #[.agg #[.int .i64 b, .int .i64 z, .slice ao n cap, .slice bo m cap2]] w fun e w' => e = .returned (.tuple #[.string ⟨(sigL b z W T).toArray⟩, .int .i64 0]) ∧ Below w.heap.size w w' := by
  obtain ⟨i0, hi, hz0, hz1, hz2⟩ := info_parts infoIntS
  have hb1 := hok.1
  have hb2 := hok.2.1
  have hz3 := hok.2.2.1
  have hz4 := hok.2.2.2.1
  have lW : W.length = n := hW.2.2.1
  have lT : T.length = m := hT.2.2.1
  have hmn : m = n := by rw [← lW, ← lT]; exact hok.2.2.2.2.2.1
  have hn : n ≤ 524288 := by
    have h1 := hok.2.2.2.2.1
    have h2 := cnt_le (size := (z : Int).toNat) (block := (b : Int).toNat) (by omega)
    omega
  obtain ⟨V1, hV1⟩ : ∃ V, V = w.alloc (Obj.cells #[.int .i64 b, .int .i64 z, .slice ao n cap, .slice bo m cap2] 31) := ⟨_, rfl⟩
  obtain ⟨p1, hp1⟩ : ∃ p, p = w.heap.size := ⟨_, rfl⟩
  have hG1 : Blk V1 p1 [.int .i64 b, .int .i64 z, .slice ao n cap, .slice bo m cap2] 31 := by rw [hV1, hp1]; exact Blk.new _ _ _
  have hB1 : Below w.heap.size w V1 := by rw [hV1]; exact bel_alloc _ _
  have HR := Lib.hid (sgRight_any V1 b z ao n cap bo m cap2 W T (wfI _ (by omega) (by omega)) (wfI _ (by omega) (by omega)) (hW.next hB1) (hT.next hB1) (sigOk_wfW hok) (fun x hx => by rw [sigOk_32 hok x hx]; decide) (by omega) (by omega))
  have HOK := Lib.hid hok
  have HP := Lib.hid (And.intro hG1 (And.intro hB1 (And.intro hW (And.intro hT (And.intro lW (And.intro lT hmn))))))
  have c0 := hG1.cell (i := 0) rfl
  have c1 := hG1.cell (i := 1) rfl
  have c2 := hG1.cell (i := 2) rfl
  have c3 := hG1.cell (i := 3) rfl
  have HV1 := Lib.hid hV1
  have HP1 := Lib.hid hp1
  clear hV1 hp1 hG1 hB1 hW hT hok lW lT hmn
  go_enter Try.func26, Try.ntmps26
  go_upto_region 1 with fail
  rw [← HP1.out, ← HV1.out]
  go_wp2_with fail
  refine HR.out.mono ?_
  rintro e w2 ⟨⟨r, rfl, hr⟩, hb2'⟩
  have hr1 : r = true := hr.2 HOK.out
  subst hr1
  obtain ⟨V4, hV4⟩ : ∃ V, V = (w2.alloc (Obj.cells #[.pointer none, .slice none 0 0] 79)) := ⟨_, rfl⟩
  obtain ⟨p4, hp4⟩ : ∃ p, p = w2.heap.size := ⟨_, rfl⟩
  have hBl4 : Bld p4 p4 [] V4 := by rw [hV4, hp4]; exact Bld.fresh w2
  have hbv : Below V1.heap.size V1 V4 := by rw [hV4]; exact bl_alloc' hb2' _
  have hG4 := HP.out.1.belowB hbv
  have hV4s : V4.heap.size = p4 + 1 := by rw [hV4, hp4]; simp
  have hp14 : p1 < p4 := by have := HP.out.1.lt; have := hb2'.size; omega
  have HV4 := Lib.hid hV4
  have HP4 := Lib.hid hp4
  have d0 := hG4.cell (i := 0) rfl
  have d1 := hG4.cell (i := 1) rfl
  have d2 := hG4.cell (i := 2) rfl
  have d3 := hG4.cell (i := 3) rfl
  have hRW : Rs V4 ao n cap 1 W (fun x => [.int .i64 x]) := (HP.out.2.2.1.next HP.out.2.1).next hbv
  have HRW := Lib.hid hRW
  have HB4 := Lib.hid (And.intro hBl4 (And.intro hG4 (And.intro hV4s (bl_nx HP.out.2.1 hbv))))
  clear c0 c1 c2 c3 hr hb2' hV4 hp4 hBl4 hbv hG4 hRW hV4s
  go_upto_region 4 with fail
  rw [← HP4.out, ← HV4.out]
  have hp1V : p1 < V4.heap.size := HB4.out.2.1.lt
  have hown : (V4.alloc (Obj.cells #[.int .i64 b, .int .i64 z] 3)).ownsRow V4.heap.size 3 1 (.slice (some ⟨V4.heap.size, 0, none⟩) 2 2) 2 [.int .i64 b, .int .i64 z] := owns_newL V4 [.int .i64 b, .int .i64 z] _ 2 rfl (by decide)
  have hsrc := Rs.cellsAt (f := fun x : Int => [Value.int .i64 x]) (fun _ => rfl) (by decide) (HRW.out.next (bel_alloc V4 (Obj.cells #[.int .i64 b, .int .i64 z] 3)))
  have hsl : (W.flatMap fun x => [Value.int .i64 x]).length = n * 1 := by rw [intsFlat, List.length_map, HP.out.2.2.2.2.1, Nat.mul_one]
  have HO := Lib.hid hown
  have HS := Lib.hid hsrc
  have HSL := Lib.hid hsl
  clear hown hsrc hsl
  go_wp2_with (at_builtin; refine wpList_append_rows rfl _ _ 28 rfl V4.heap.size 3 i0 (.int .i64 0) 1 8 Try.underlying28 hi hz0 hz1 hz2 rfl (by decide) _ 2 _ rfl HO.out ao n cap (W.flatMap fun x => [Value.int .i64 x]) rfl HSL.out HS.out (one_ints W) (by unfold maxLen; omega) (by omega) (by simp) ?_)
  intro v5 w5 hO5 hg5 hb5
  obtain ⟨a5, k5, rfl⟩ := slice_of5 hO5
  have hRow : RowI w5 V4.heap.size (.slice a5 (2 + n) k5) (sigNums b z W) := by
    have e1 : (sigNums b z W).length = 2 + n := by simp [sigNums, HP.out.2.2.2.2.1]; omega
    unfold RowI
    rw [e1, show (sigNums b z W).map (Value.int .i64) = [.int .i64 b, .int .i64 z] ++ W.flatMap (fun x => [Value.int .i64 x]) by rw [intsFlat]; rfl]
    exact hO5
  have HA5 : Hid (Bld p4 p4 [] w5 ∧ Blk w5 p1 [.int .i64 b, .int .i64 z, .slice ao n cap, .slice bo m cap2] 31 ∧ RowI w5 V4.heap.size (.slice a5 (2 + n) k5) (sigNums b z W) ∧ Below w.heap.size w w5) := by
    obtain ⟨h1, h2, h3, h4⟩ := HB4.out
    have hb : Below V4.heap.size V4 w5 := (bel_alloc V4 _).grown hg5 (by simp) (by intro k hk; simp [Value.ownBlock] at hk; omega)
    exact Lib.hid ⟨h1.next hb, h2.belowB hb, hRow, bl_nx h4 hb⟩
  have HN := Lib.hid (sigNums_bd HOK.out)
  have HNL : Hid ((sigNums b z W).length = 2 + n) := Lib.hid (by simp [sigNums, HP.out.2.2.2.2.1]; omega)
  obtain ⟨NL, hNL⟩ : ∃ L, L = sigNums b z W := ⟨_, rfl⟩
  rw [← hNL] at HA5 HN HNL
  have HNLE := Lib.hid hNL
  have hpV : p4 < V4.heap.size := by have := HB4.out.2.2.1; omega
  clear d0 d1 d2 d3 HRW HO HS HSL hO5 hg5 hb5 hRow hNL
  go_wp2_with fail
  go_loopw [23] (fun i wr => ∃ k : Nat, k ≤ 2 + n ∧ i = .int .i64 k ∧ Bld p4 p4 (numsL (NL.take k)) wr ∧ Blk wr p1 [.int .i64 b, .int .i64 z, .slice ao n cap, .slice bo m cap2] 31 ∧ RowI wr V4.heap.size (.slice a5 (2 + n) k5) NL ∧ Below w.heap.size w wr) (fun i _ => 2 + n - (intOf i).toNat)
  case atStart => exact ⟨0, by omega, rfl, by simpa [numsL] using HA5.out.1, HA5.out.2.1, HA5.out.2.2.1, HA5.out.2.2.2⟩
  case round =>
    clear HA5
    obtain ⟨k, hk, rfl, hBl, hG, hI, hBw⟩ := hrel
    by_cases hlt : k < 2 + n
    · obtain ⟨bb, off, x, rfl, hx, a1⟩ := (RowI.rs' hI HNL.out).one hlt
      have hxb := HN.out x (List.mem_of_getElem? hx)
      obtain ⟨X, rfl⟩ : ∃ X : Nat, x = X := ⟨x.toNat, by omega⟩
      have hX : X ≤ 4611686018427387903 := by omega
      have hsn := numsL_nat NL k X hx
      have hL9 := numsL_len (NL.take k) (fun y hy => (HN.out y (List.mem_of_mem_take hy)).2)
      have hS9 : (numBs X).size ≤ 9 := by rw [numBs_size]; exact numL_le9 X hX
      have hl1 : (numsL (NL.take k)).length ≤ 9 * k := Nat.le_trans hL9 (Nat.mul_le_mul_left _ (List.length_take_le _ _))
      have hBs := hBw.size
      have hb4w := hBl.lt
      have HH := Lib.hid (And.intro hBl (And.intro hG (And.intro hI hBw)))
      have HSN := Lib.hid hsn
      clear hBl hG hI hBw hxb hsn hx hL9
      go_wp2_with fail
      refine (num_any X _ hX).mono ?_
      rintro e w6 ⟨rfl, hb6⟩
      have HH6 : Hid (Bld p4 p4 (numsL (NL.take k)) w6 ∧ Blk w6 p1 [.int .i64 b, .int .i64 z, .slice ao n cap, .slice bo m cap2] 31 ∧ RowI w6 V4.heap.size (.slice (some ⟨bb, off, none⟩) (2 + n) k5) NL ∧ Below w.heap.size w w6) := by
        obtain ⟨h1, h2, h3, h4⟩ := HH.out
        exact Lib.hid ⟨h1.next hb6, h2.belowB hb6, World.ownsRow.kept h3 (below_grown hb6 none) (by simp [Value.ownBlock]), bl_nx h4 hb6⟩
      have hp6 : p4 ≤ w6.heap.size := by have := hb6.size; omega
      clear hb6 a1 HH
      go_wp2_with fail
      refine (write_any p4 p4 (numsL (NL.take k)) (numBs X) _ HH6.out.1 (by omega) hp6).mono ?_
      rintro e w7 ⟨rfl, hBl7, hb7, ho7⟩
      have HH7 : Hid (Bld p4 p4 (numsL (NL.take (k + 1))) w7 ∧ Blk w7 p1 [.int .i64 b, .int .i64 z, .slice ao n cap, .slice bo m cap2] 31 ∧ RowI w7 V4.heap.size (.slice (some ⟨bb, off, none⟩) (2 + n) k5) NL ∧ Below w.heap.size w w7) := by
        obtain ⟨h1, h2, h3, h4⟩ := HH6.out
        refine Lib.hid ⟨by rw [HSN.out]; exact hBl7, h2.below hb7 hp14, owns_others h3 ho7 (fun j hj => by have := (World.ownsRow.lt h3 j hj).1; omega) (by decide), h4.trans (hb7.mono (by have := HP1.out; omega))⟩
      clear hBl7 hb7 ho7 HH6
      go_wp2
      go_roundw
      case rel => exact ⟨k + 1, by omega, by go_num, HH7.out.1, HH7.out.2.1, HH7.out.2.2.1, HH7.out.2.2.2⟩
      case measure => simp [intOf]; omega
    · have hkn : k = 2 + n := by omega
      have htk : NL.take k = NL := List.take_of_length_le (by rw [HNL.out]; omega)
      rw [htk] at hBl
      have a3 := hG.cell (i := 3) rfl
      have HH := Lib.hid (And.intro hBl hBw)
      have hl9 := numsL_len NL (fun y hy => (HN.out y hy).2)
      rw [HNL.out] at hl9
      have hm : m ≤ 524288 := by have := HP.out.2.2.2.2.2.2; omega
      have HT32 := Lib.hid (sigOk_32 HOK.out)
      clear hBl hG hI hBw htk
      go_wp2_with fail
      go_loopw [38] (fun i wr => ∃ k : Nat, k ≤ m ∧ i = .int .i64 k ∧ Bld p4 p4 (numsL NL ++ textsL (T.take k)) wr ∧ Below w.heap.size w wr) (fun i _ => m - (intOf i).toNat)
      case atStart => exact ⟨0, by omega, rfl, by simpa [textsL] using HH.out.1, HH.out.2⟩
      case round =>
        clear HH a3 hkn hk hlt
        obtain ⟨j, hk, rfl, hBl, hBw⟩ := hrel
        have hl32 := textsL_len (T.take j) 32 (fun x hx => by have := HT32.out x (List.mem_of_mem_take hx); omega)
        have hl2 : (textsL (T.take j)).length ≤ 32 * j := Nat.le_trans hl32 (Nat.mul_le_mul_left _ (List.length_take_le _ _))
        have hBs := hBw.size
        have hb4w := hBl.lt
        by_cases hlt : j < m
        · obtain ⟨bb, off, x, rfl, hx, a1⟩ := (HP.out.2.2.2.1.next hBw).one hlt
          have hx32 := HT32.out x (List.mem_of_getElem? hx)
          have hsn := textsL_take T j x hx
          have HX := Lib.hid hx32
          have HSN := Lib.hid hsn
          have HB := Lib.hid hBl
          have HW := Lib.hid hBw
          clear hBl hBw hx hsn hx32 hl32
          go_wp2_with fail
          refine (write_any p4 p4 (numsL NL ++ textsL (T.take j)) x _ HB.out (by rw [HX.out, List.length_append]; omega) (by omega)).mono ?_
          rintro e w7 ⟨rfl, hBl7, hb7, ho7⟩
          have hBl8 : Bld p4 p4 (numsL NL ++ textsL (T.take (j + 1))) w7 := by rw [HSN.out, ← List.append_assoc]; exact hBl7
          have hBw8 : Below w.heap.size w w7 := HW.out.trans (hb7.mono (by have := HP1.out; omega))
          clear hBl7 hb7 ho7
          go_wp2
          go_roundw
          case rel => exact ⟨j + 1, by omega, by go_num, hBl8, hBw8⟩
          case measure => simp [intOf]; omega
        · have htk : T.take j = T := List.take_of_length_le (by have := HP.out.2.2.2.2.2.1; omega)
          rw [htk] at hBl
          have HB := Lib.hid hBl
          have HW := Lib.hid hBw
          clear hBl hBw htk hl32
          go_wp2_with fail
          refine (string_any p4 p4 (numsL NL ++ textsL T) _ HB.out (by omega)).mono ?_
          rintro e w9 ⟨rfl, _, hb9, _⟩
          go_wp2
          go_ret2
          refine ⟨?_, HW.out.trans (hb9.mono (by have := HP1.out; omega))⟩
          unfold sigL
          rw [← HNLE.out]
          rfl

set_option maxHeartbeats 1000000 in
theorem sgBytes_bad (w : World) (b z : Int) (ao : Option Addr) (n cap : Nat) (bo : Option Addr) (m cap2 : Nat) (W : List Int) (T : List ByteArray) (wb : (Lit.int .i64 b).wf = true) (wz : (Lit.int .i64 z).wf = true)
    (hW : Rs w ao n cap 1 W (fun x => [.int .i64 x])) (hT : Rs w bo m cap2 1 T (fun x => [.string x])) (hw : ∀ x ∈ W, (Lit.int .i64 x).wf = true) (ht : ∀ x ∈ T, x.size ≤ maxLen) (hn : n ≤ 1000000) (hm : m ≤ 1000000) (hok : ¬ sigOk b z W T) :
    Calls Try.prog 26 #[.agg #[.int .i64 b, .int .i64 z, .slice ao n cap, .slice bo m cap2]] w fun e w' => e = .returned (.tuple #[.string ByteArray.empty, .int .i64 1]) ∧ Below w.heap.size w w' := by
  obtain ⟨V1, hV1⟩ : ∃ V, V = w.alloc (Obj.cells #[.int .i64 b, .int .i64 z, .slice ao n cap, .slice bo m cap2] 31) := ⟨_, rfl⟩
  obtain ⟨p1, hp1⟩ : ∃ p, p = w.heap.size := ⟨_, rfl⟩
  have hG1 : Blk V1 p1 [.int .i64 b, .int .i64 z, .slice ao n cap, .slice bo m cap2] 31 := by rw [hV1, hp1]; exact Blk.new _ _ _
  have hB1 : Below w.heap.size w V1 := by rw [hV1]; exact bel_alloc _ _
  have HR := Lib.hid (sgRight_any V1 b z ao n cap bo m cap2 W T wb wz (hW.next hB1) (hT.next hB1) hw ht hn hm)
  have HB1 := Lib.hid hB1
  have HOK := Lib.hid hok
  have c0 := hG1.cell (i := 0) rfl
  have c1 := hG1.cell (i := 1) rfl
  have c2 := hG1.cell (i := 2) rfl
  have c3 := hG1.cell (i := 3) rfl
  have HV1 := Lib.hid hV1
  have HP1 := Lib.hid hp1
  clear hV1 hp1 hG1 hB1 hW hT hok hw ht
  go_enter Try.func26, Try.ntmps26
  go_upto_region 1 with fail
  rw [← HP1.out, ← HV1.out]
  go_wp2_with fail
  refine HR.out.mono ?_
  rintro e w2 ⟨⟨r, rfl, hr⟩, hb2'⟩
  have hr1 : r = false := by
    cases r
    · rfl
    · exact absurd (hr.1 rfl) HOK.out
  subst hr1
  clear hr
  go_wp2
  go_ret2
  exact ⟨rfl, bl_nx HB1.out hb2'⟩
end Go.Proofs.Ytfcfgkhdlpgbdaa
