/- (*sign.Table).Find, Size, Block at a table. Conditions: as named in each theorem. -/
import Derived.Test.YtfcfgkhdlpgbdaaTabWalk
namespace Go.Proofs.Ytfcfgkhdlpgbdaa
open Go.RowKit
set_option linter.unusedVariables false

theorem bsearch_any (w : World) (ao : Option Addr) (n cap : Nat) (K : List Int) (x : Int) (hK : Rs w ao n cap 1 K (fun x => [.int .i64 x])) (hn : n ≤ 1000000) (hs : K.Pairwise (· ≤ ·)) :
    Calls Try.prog 54 #[.slice ao n cap, .int .i64 x] w fun e w' => (∃ r, e = .returned (.tuple #[.int .i64 (K.countP (· < x) : Nat), .bool r])) ∧ ∃ q, w' = w.drewN q := by
  have hl := hK.2.2.1
  rcases Nat.eq_zero_or_pos n with h | h
  · subst h
    have hK0 : K = [] := List.eq_nil_of_length_eq_zero hl
    subst hK0
    refine (Any.slices_BinarySearch_int_empty shFind ao cap x w).mono ?_
    rintro e w' ⟨rfl, rfl⟩
    exact ⟨⟨_, rfl⟩, 0, rfl⟩
  · obtain ⟨b, off, rfl, hbl, hc⟩ := hK.cell1 h
    refine (Any.slices_BinarySearch_int shFind b off n cap K x w (by omega) (by omega) (fun j hj => ?_) (by rw [List.take_of_length_le (by omega)]; exact hs)).mono ?_
    · rw [List.getD_eq_getElem?_getD, List.getElem?_eq_getElem hj]
      exact hc j hj _ rfl
    · rintro e w' ⟨rfl, hq⟩
      rw [List.take_of_length_le (by omega)]
      exact ⟨⟨_, rfl⟩, hq⟩

set_option maxRecDepth 100000 in
set_option maxHeartbeats 4000000 in
theorem tabFind_any (w : World) (B pt : Nat) (b z : Int) (vI vS kv pv : Value) (W : List Int) (T : List ByteArray) (N : Nat) (f : Nat → Int) (weak : Int) (h : Tab B w pt b z vI vS kv pv W T (plc N f)) (hS : Srt (wtOf W) f 0 N) (hI : InB f 0 N) (hN : N ≤ 1000000) :
    Calls Try.prog 29 #[.pointer (some ⟨pt, 0, none⟩), .int .i64 weak] w fun e w' => ∃ v, e = .returned v ∧ RowI w' w.heap.size v (findL W N weak) ∧ Below w.heap.size w w' := by
  obtain ⟨i0, hi, hz0, hz1, hz2⟩ := info_parts infoIntS
  have hk := h.k
  have hp := h.p
  obtain ⟨ak, ck, hkv⟩ := slice_ofI hk
  obtain ⟨ap, cp, hpv⟩ := slice_ofI hp
  have lk : ((plc N f).map (wtOf W)).length = N := by rw [List.length_map, plc_len]
  rw [lk] at hkv
  rw [plc_len] at hpv
  subst hkv hpv
  have hkr := hk.rs lk
  have hpr := hp.rs (plc_len N f)
  have hpw : ((plc N f).map (wtOf W)).Pairwise (· ≤ ·) := by
    rw [List.pairwise_iff_getElem]
    intro i j hi hj hij
    rw [lk] at hi hj
    simp only [plc, List.getElem_map, List.getElem_range]
    exact srt_mono hS i j hij hj
  have hcs := cnt_split (fun i => wtOf W (f i)) weak N (srt_mono hS)
  have hke : (plc N f).map (wtOf W) = (List.range N).map (fun i => wtOf W (f i)) := by simp [plc, Function.comp_def]
  have hBS := bsearch_any w ak N ck _ weak hkr hN hpw
  rw [hke] at hBS
  obtain ⟨c, hc⟩ : ∃ c, c = ((List.range N).map (fun i => wtOf W (f i))).countP (· < weak) := ⟨_, rfl⟩
  rw [← hc] at hBS hcs
  have HBS := Lib.hid hBS
  have HCS := Lib.hid hcs
  have hcN : c ≤ N := hcs.1
  have HKR := Lib.hid hkr
  have HPR := Lib.hid hpr
  have HT := Lib.hid h.t
  have HSI := Lib.hid (And.intro hS hI)
  have c1 := h.t.cell (i := 4) rfl
  clear hk hp lk hkr hpr hpw hcs hke hBS hc h hS hI
  go_enter Try.func29, Try.ntmps29
  go_wp2_with fail
  refine HBS.out.mono ?_
  rintro e w2 ⟨⟨r, rfl⟩, q, hw2⟩
  have hB2 : Below w.heap.size w w2 := by rw [hw2]; exact below_drewN' (Below.refl _ _) q
  have HB2 := Lib.hid hB2
  clear hw2 hB2
  go_wp2_with fail
  go_loopw [5, 7] (fun x y wr => ∃ (a : Nat) (ao : Option Addr) (co : Nat), x = .int .i64 a ∧ c ≤ a ∧ a ≤ N ∧ y = .slice ao (a - c) co ∧ RowI wr w.heap.size (.slice ao (a - c) co) (plc (a - c) (fun i => f (c + i))) ∧ (∀ i, c ≤ i → i < a → wtOf W (f i) = weak) ∧ Below w.heap.size w wr) (fun x _ _ => N - (intOf x).toNat)
  case atStart => exact ⟨c, none, 0, rfl, by omega, hcN, by rw [Nat.sub_self], by rw [Nat.sub_self]; exact World.ownsRow_nil _ _ _ _, fun i h1 h2 => by omega, HB2.out⟩
  case round =>
    clear HB2 c1
    obtain ⟨a, ao, co, rfl, hca, haN, rfl, hR, hin, hB⟩ := hrel
    have HR := Lib.hid hR
    have HIN := Lib.hid hin
    have HB := Lib.hid hB
    have hTr := HT.out.below hB HT.out.lt
    have t4 := hTr.cell (i := 4) rfl
    have t5 := hTr.cell (i := 5) rfl
    have HKR2 := Lib.hid (HKR.out.next hB)
    have HPR2 := Lib.hid (HPR.out.next hB)
    clear hR hin hB hTr
    by_cases hlt : (a : Int) < (N : Int)
    · obtain ⟨bk, ok, y, rfl, hy, cy⟩ := HKR2.out.one (k := a) (by omega)
      rw [List.getElem?_map, plc_get f (by omega)] at hy
      injection hy with hy
      have HY := Lib.hid hy
      clear hy
      by_cases he : y = weak
      · have e1 : (y == weak) = true := by simpa using he
        have HE := Lib.hid he
        clear he
        obtain ⟨bp, op, x, rfl, hx, cx⟩ := HPR2.out.one (k := a) (by omega)
        rw [plc_get f (by omega)] at hx
        injection hx with hx
        have HX := Lib.hid hx
        have hIa : Hid (wr.ownsRow w.heap.size 3 1 (.slice ao (a - c) co) (a - c) ((plc (a - c) (fun i => f (c + i))).map (Value.int .i64))) := Lib.hid (by have := HR.out; unfold RowI at this; rw [plc_len] at this; exact this)
        have hws : w.heap.size ≤ wr.heap.size := HB.out.size
        clear hx
        go_wp2_with (at_builtin; refine wpList_append_own_at _ rfl _ _ 28 rfl w.heap.size 3 i0 (.int .i64 0) 1 8 Try.underlying28 hi hz0 hz1 hz2 rfl (by decide) _ (a - c) ((plc (a - c) (fun i => f (c + i))).map (Value.int .i64)) rfl (World.ownsRow.alloc hIa.out _) ⟨wr.heap.size, 0, none⟩ 1 1 [.int .i64 x] rfl rfl (cell1_new _ _ _) (one1 _ rfl) (by unfold maxLen; omega) (by omega) (by simp; omega) ?_)
        intro v5 w5 hO5 hg5 _ hrb
        obtain ⟨ao5, cap5, rfl⟩ := slice_of5 hO5
        have hB5 : Below w.heap.size w w5 := (bl_alloc' HB.out (.cells #[.int .i64 x] 3)).grown hg5 (bl_alloc' HB.out (.cells #[.int .i64 x] 3)).size (fun j e => (World.ownsRow.lt hIa.out j e).1)
        have hR5 : RowI w5 w.heap.size (.slice ao5 (a - c + 1) cap5) (plc (a - c + 1) (fun i => f (c + i))) := by
          rw [plc_succ]
          refine RowI.snoc ?_
          rw [plc_len, show f (c + (a - c)) = x by rw [show c + (a - c) = a by omega]; exact HX.out]
          exact hO5
        have HR5 := Lib.hid (And.intro hR5 hB5)
        clear hR5 hB5 hO5 hg5 hrb hIa cx cy t4 t5
        have hac : a - c + 1 = a + 1 - c := by omega
        rw [hac] at HR5
        rw [hac]
        clear hac
        go_wp2
        go_roundw
        case rel =>
          refine ⟨a + 1, _, _, by go_num, by omega, by omega, rfl, HR5.out.1, fun i i1 i2 => ?_, HR5.out.2⟩
          by_cases q : i = a
          · rw [q, HY.out, HE.out]
          · exact HIN.out i i1 (by omega)
        case measure => simp [intOf]; omega
      · have e1 : (y == weak) = false := by simpa using he
        have HE := Lib.hid he
        clear he
        go_wp2
        go_ret
        refine ⟨_, rfl, ?_, HB.out⟩
        have hF := find_end HSI.out.1 HSI.out.2 HCS.out.2.1 HCS.out.2.2 hca haN HIN.out (fun _ => by rw [HY.out]; exact HE.out)
        rw [← hF]
        exact HR.out
    · go_wp2
      go_ret
      refine ⟨_, rfl, ?_, HB.out⟩
      have hF := find_end HSI.out.1 HSI.out.2 HCS.out.2.1 HCS.out.2.2 hca haN HIN.out (fun _ => by omega)
      rw [← hF]
      exact HR.out

theorem tabSize_any (w : World) (pt : Nat) (b z : Int) (v2 v3 v4 v5 : Value) (h : Blk w pt [.int .i64 b, .int .i64 z, v2, v3, v4, v5] 88) :
    Calls Try.prog 32 #[.pointer (some ⟨pt, 0, none⟩)] w fun e w' => e = .returned (.int .i64 z) ∧ w = w' := by
  have c1 := h.cell (i := 1) rfl
  clear h
  go_enter Try.func32, Try.ntmps32
  go_wp2
  go_ret
  exact ⟨rfl, rfl⟩
theorem tabBlock_any (w : World) (pt : Nat) (b z : Int) (v2 v3 v4 v5 : Value) (h : Blk w pt [.int .i64 b, .int .i64 z, v2, v3, v4, v5] 88) :
    Calls Try.prog 33 #[.pointer (some ⟨pt, 0, none⟩)] w fun e w' => e = .returned (.int .i64 b) ∧ w = w' := by
  have c1 := h.cell (i := 0) rfl
  clear h
  go_enter Try.func33, Try.ntmps33
  go_wp2
  go_ret
  exact ⟨rfl, rfl⟩
end Go.Proofs.Ytfcfgkhdlpgbdaa
