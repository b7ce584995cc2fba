/- What steps make of a basis: delta's Run and the reference's. Conditions: as named in each theorem. -/
import Derived.Test.YtgkcnocfijckoaaGreatQI
import Derived.Test.YtgkcnocfijckoaaGreatQE
import Derived.Test.YtgkcnocfijckoaaGreatDlRights
import Derived.Deep.QuietTactic
import Derived.BigQuiet
namespace Go.Proofs.YtgkcnocfijckoaaGreat
open Go.RowKit Sg
set_option linter.unusedVariables false
set_option linter.unusedSimpArgs false
open Classical in
noncomputable def runS (b : ByteArray) : List St → ByteArray → ByteArray × Int
  | [], o => (o, 0)
  | x :: l, o => if rightS x ∧ x.pos + x.len ≤ b.size then (if 524288 < (o.size : Int) + x.len + x.text.size then (ByteArray.empty, 4) else runS b l (o ++ b.extract x.pos.toNat (x.pos + x.len).toNat ++ x.text)) else (ByteArray.empty, 2)
theorem runS_no {b o : ByteArray} {x : St} {l : List St} (h : ¬ (rightS x ∧ x.pos + x.len ≤ b.size)) : runS b (x :: l) o = (ByteArray.empty, 2) := by rw [runS, if_neg h]
theorem runS_long {b o : ByteArray} {x : St} {l : List St} (h : rightS x ∧ x.pos + x.len ≤ b.size) (h2 : 524288 < (o.size : Int) + x.len + x.text.size) : runS b (x :: l) o = (ByteArray.empty, 4) := by rw [runS, if_pos h, if_pos h2]
theorem runS_go {b o : ByteArray} {x : St} {l : List St} (h : rightS x ∧ x.pos + x.len ≤ b.size) (h2 : ¬ 524288 < (o.size : Int) + x.len + x.text.size) : runS b (x :: l) o = runS b l (o ++ b.extract x.pos.toNat (x.pos + x.len).toNat ++ x.text) := by rw [runS, if_pos h, if_neg h2]
theorem runS_end (b o : ByteArray) : runS b [] o = (o, 0) := rfl
theorem rightS_pos {x : St} (h : rightS x) : 0 ≤ x.pos ∧ 0 ≤ x.len ∧ x.len ≤ 524288 ∧ x.text.size ≤ 4096 ∧ x.pos ≤ 524288 := by
  unfold rightS textS copyS at h
  by_cases ht : x.text.size = 0
  · have := h.2 ht; omega
  · have := h.1 ht; omega
theorem fit_iff {x : St} {z : Nat} : (rightS x ∧ fitS z x) ↔ (rightS x ∧ x.pos + x.len ≤ z) := by
  unfold fitS
  constructor
  · rintro ⟨h, k⟩
    refine ⟨h, ?_⟩
    by_cases ht : x.text.size = 0
    · have := k ht; omega
    · have := h.1 ht; unfold textS at this; omega
  · rintro ⟨h, k⟩
    exact ⟨h, fun _ => .inr k⟩
theorem app3 (o a t : ByteArray) : (o ++ a ++ t).data.toList = o.data.toList ++ a.data.toList ++ t.data.toList := by simp [ByteArray.data_append]
theorem bs_back (o : ByteArray) : (⟨o.data.toList.toArray⟩ : ByteArray) = o := by simp
theorem bs_len (o : ByteArray) : o.data.toList.length = o.size := by simp
theorem owns_sliceF {w : World} {base : Nat} {e : TypeId} {size n : Nat} {v : Value} {xs : List Value} (h : w.ownsRowF base e size v n xs) : ∃ ao cap, v = .slice ao n cap := by
  obtain ⟨h1, h2⟩ := h
  rcases h2 with ⟨h3, h4⟩ | ⟨g, cap, cur, fz, h3, hg, hh, r⟩
  · exact ⟨none, 0, by rw [h3]; congr 1; simp_all⟩
  · exact ⟨_, _, h3⟩
theorem len_any (B b : Nat) (o : ByteArray) (w : World) (h : Bld B b o.data.toList w) :
    Calls Tryz.prog 119 #[.pointer (some ⟨b, 0, none⟩)] w fun e w' => e = .returned (.int .i64 o.size) ∧ w = w' := by
  have hc : ∃ ao cap, w.cell? ⟨b, 1, none⟩ = some (.slice ao o.size cap) := by
    have at_ : ∀ p, Lib.BuilderAtF 100 5 B b p (Lib.byteCells o.data.toList) w → ∃ ao cap, w.cell? ⟨b, 1, none⟩ = some (.slice ao o.size cap) := by
      rintro p ⟨h1, v, h2, h3, h4⟩
      obtain ⟨ao, cap, rfl⟩ := owns_sliceF h3
      refine ⟨ao, cap, ?_⟩
      simp only [World.cell?, h2]
      simp [Lib.byteCells]
    exact h.elim (at_ _) (at_ _)
  obtain ⟨ao, cap, hc⟩ := hc
  clear h
  go_enter Tryz.func119, Tryz.ntmps119
  go_wp2
  go_ret
  exact ⟨rfl, rfl⟩
theorem Bld.drewN {B b : Nat} {l : List UInt8} {w : World} (h : Bld B b l w) (n : Nat) : Bld B b l (w.drewN n) := h.next (below_drewN' (Below.refl _ _) n)
set_option maxRecDepth 100000 in
set_option maxHeartbeats 2000000 in
theorem run_any (w : World) (b : ByteArray) (ao : Option Addr) (n cap : Nat) (l : List St) (hb : b.size ≤ 524288) (hR : Rs w ao n cap 3 l St.c) (hn : n ≤ 1000000) (hok : ∀ x ∈ l, x.ok) :
    Calls Tryz.prog 95 #[.string b, .slice ao n cap] w fun e w' => e = .returned (.tuple #[.string (runS b l ByteArray.empty).1, .int .i64 (runS b l ByteArray.empty).2]) ∧ Below w.heap.size w w' := by
  have hstz := stepZ_run
  have hlen : l.length = n := hR.2.2.1
  obtain ⟨V1, hV1⟩ : ∃ V, V = w.alloc (Obj.cells #[.pointer none, .slice none 0 0] 100) := ⟨_, rfl⟩
  obtain ⟨p6, hp6⟩ : ∃ q, q = w.heap.size := ⟨_, rfl⟩
  have hb1 : Below w.heap.size w V1 := by rw [hV1]; exact below_alloc _ _
  have hBl : Bld p6 p6 [] V1 := by rw [hV1, hp6]; exact Bld.fresh w
  obtain ⟨R, hRR⟩ : ∃ R, R = runS b l ByteArray.empty := ⟨_, rfl⟩
  have HRR := Lib.hid hRR
  have HR := Lib.hid hR
  have HOK := Lib.hid hok
  have HV1 := Lib.hid hV1
  have HP6 := Lib.hid hp6
  have HB1 := Lib.hid (And.intro hb1 hBl)
  have HLN := Lib.hid hlen
  rw [← hRR]
  clear hRR hR hok hV1 hp6 hb1 hBl hlen
  go_enter Tryz.func95, Tryz.ntmps95
  go_upto_region 2 with fail
  rw [← HP6.out, ← HV1.out]
  go_wp2_with fail
  go_loopw [11] (fun i wr => ∃ (k : Nat) (o : ByteArray), i = .int .i64 k ∧ k ≤ n ∧ R = runS b (l.drop k) o ∧ o.size ≤ 524288 ∧ Bld p6 p6 o.data.toList wr ∧ Below w.heap.size w wr) (fun i _ => n - (intOf i).toNat)
  case atStart => exact ⟨0, ByteArray.empty, by go_num, Nat.zero_le _, by rw [HRR.out]; rfl, by decide, HB1.out.2, HB1.out.1⟩
  case round =>
    obtain ⟨k, o, rfl, hk, hRk, ho, hBl, hB⟩ := hrel
    have hlen := HLN.out
    by_cases hkn : k < n
    · obtain ⟨g, off, rfl, hbw, hc⟩ := rs_s (HR.out.next hB) (by omega)
      have hks : k < l.length := by omega
      obtain ⟨c0, c1, c2⟩ := hc k hks
      have hxo := HOK.out _ (List.getElem_mem hks)
      rw [List.drop_eq_getElem_cons hks] at hRk
      obtain ⟨x, hx⟩ : ∃ x, x = l[k] := ⟨_, rfl⟩
      rw [← hx] at c0 c1 c2 hxo hRk
      obtain ⟨p, q, t⟩ := x
      obtain ⟨hpw, hqw, htw⟩ := hxo
      simp only at c0 c1 c2 hpw hqw htw
      have i1 : (k : Int) < (n : Int) := by omega
      obtain ⟨V2, hV2⟩ : ∃ V, V = wr.alloc (Obj.cells #[.int .i64 p, .int .i64 q, .string t] 107) := ⟨_, rfl⟩
      obtain ⟨p8, hp8⟩ : ∃ q, q = wr.heap.size := ⟨_, rfl⟩
      have hX2 : Blk V2 p8 [.int .i64 p, .int .i64 q, .string t] 107 := by rw [hV2, hp8]; exact Blk.new _ _ _
      have hb2 : Below wr.heap.size wr V2 := by rw [hV2]; exact below_alloc _ _
      have hRT := right_any V2 p q t hqw hpw htw b.size (wfI _ (by omega) (by omega))
      have y0 := hX2.cell (i := 0) rfl
      have y1 := hX2.cell (i := 1) rfl
      have y2 := hX2.cell (i := 2) rfl
      have HX2 := Lib.hid hX2
      have HB2 := Lib.hid (And.intro (bl_nx hB hb2) (hBl.next hb2))
      have hpl : p6 < p8 := by have := hBl.lt; omega
      have HRT := Lib.hid hRT
      have HRK := Lib.hid hRk
      have HV2 := Lib.hid hV2
      have HP8 := Lib.hid hp8
      clear hx hRT hRk hV2 hp8 hX2 hb2 hc hB hBl hlen hks hpw hqw htw
      go_upto_region 5 with fail
      rw [← HP8.out, ← HV2.out]
      clear c0 c1 c2
      go_wp2_with fail
      refine HRT.out.mono ?_
      rintro e w3 ⟨⟨r, rfl, hr⟩, hb3⟩
      rw [fit_iff] at hr
      have hX3 := HX2.out.below hb3 HX2.out.lt
      have HB3 := Lib.hid (And.intro (bl_nx HB2.out.1 hb3) (HB2.out.2.next hb3))
      cases r with
      | false =>
        have HN : Hid (R = (ByteArray.empty, 2)) := Lib.hid (by rw [HRK.out]; exact runS_no (fun h => by have := hr.2 h; cases this))
        clear hr hX3 y0 y1 y2 hb3
        go_wp2
        go_ret2
        rw [HN.out]
        exact ⟨rfl, HB3.out.1⟩
      | true =>
        have hrx := hr.1 rfl
        obtain ⟨r1, r2, r3, r4, r5⟩ := rightS_pos hrx.1
        have hfit := hrx.2
        simp only at r1 r2 r3 r4 r5 hfit
        obtain ⟨P, rfl⟩ : ∃ P : Nat, p = P := ⟨p.toNat, by omega⟩
        obtain ⟨K, rfl⟩ : ∃ K : Nat, q = K := ⟨q.toNat, by omega⟩
        have hPK : P + K ≤ b.size := by omega
        have hK : K ≤ 524288 := by omega
        have hP : P ≤ 524288 := by omega
        have z0 := hX3.cell (i := 0) rfl
        have z1 := hX3.cell (i := 1) rfl
        have z2 := hX3.cell (i := 2) rfl
        have HX3 := Lib.hid hX3
        have HRX := Lib.hid hrx
        have HLN3 : Hid (∀ j, Calls Tryz.prog 119 #[.pointer (some ⟨p6, 0, none⟩)] (w3.drewN j) fun e w' => e = .returned (.int .i64 o.size) ∧ w' = w3.drewN j) := Lib.hid (fun j => (len_any p6 p6 o _ (HB3.out.2.drewN j)).mono (fun e w' h => ⟨h.1, h.2.symm⟩))
        clear hr hX3 y0 y1 y2 hb3 hrx r1 r2 hfit
        by_cases hlong : 524288 < (o.size : Int) + K + t.size
        · have hd : decide ((524288 : Int) - (o.size : Int) < (K : Int) + (t.size : Int)) = true := decide_eq_true (by omega)
          have HN : Hid (R = (ByteArray.empty, 4)) := Lib.hid (by rw [HRK.out]; exact runS_long HRX.out hlong)
          clear hlong
          go_upto_region 7 with fail
          go_quiet (first | (go_at_call 119; refine Calls.quiet_of_same (HLN3.out _)))
          have HB4 := Lib.hid (HB3.out.1.trans (below_drewN' (Below.refl _ _) nq |>.mono HB3.out.1.size))
          go_wp2
          go_ret2
          rw [HN.out]
          exact ⟨rfl, HB4.out⟩
        · have hd : decide ((524288 : Int) - (o.size : Int) < (K : Int) + (t.size : Int)) = false := decide_eq_false (by omega)
          have HGO : Hid (R = runS b (l.drop (k + 1)) (o ++ b.extract P (P + K) ++ t)) := Lib.hid (by rw [HRK.out, runS_go HRX.out hlong]; simp only; rw [← Int.natCast_add, Int.toNat_natCast, Int.toNat_natCast])
          have hos : o.size + K + t.size ≤ 524288 := by omega
          clear hlong
          go_upto_region 7 with fail
          go_quiet (first | (go_at_call 119; refine Calls.quiet_of_same (HLN3.out _)))
          obtain ⟨w4, hw4⟩ : ∃ w4, w4 = w3.drewN nq := ⟨_, rfl⟩
          have hb4 : Below w3.heap.size w3 w4 := by rw [hw4]; exact below_drewN' (Below.refl _ _) nq
          have hX4 := HX3.out.below hb4 HX3.out.lt
          have HB4 := Lib.hid (And.intro (bl_nx HB3.out.1 hb4) (HB3.out.2.next hb4))
          rw [← hw4]
          have x0 := hX4.cell (i := 0) rfl
          have x1 := hX4.cell (i := 1) rfl
          have x2 := hX4.cell (i := 2) rfl
          have HX4 := Lib.hid hX4
          have hbs : (b.extract P (P + K)).size = K := by rw [ByteArray.size_extract]; omega
          have hp4 : p6 ≤ w4.heap.size := Nat.le_of_lt HB4.out.2.lt
          have HWR := Lib.hid (write_any p6 p6 o.data.toList (b.extract P (P + K)) w4 HB4.out.2 (by rw [hbs, bs_len]; omega) hp4)
          clear hb4 hX4 hw4 z0 z1 z2 hbs
          go_wp2_with fail
          refine HWR.out.mono ?_
          rintro e w5 ⟨rfl, hBl5, hb5, ho5⟩
          have hX5 := HX4.out.others ho5 (by omega) (by decide)
          have v2 := hX5.cell (i := 2) rfl
          have hp5 : p6 ≤ w5.heap.size := Nat.le_of_lt hBl5.lt
          have hbs : (b.extract P (P + K)).size = K := by rw [ByteArray.size_extract]; omega
          have HWR2 := Lib.hid (write_any p6 p6 _ t w5 hBl5 (by rw [List.length_append, bs_len, bs_len, hbs]; omega) hp5)
          have HB5 : Hid (Below w.heap.size w w5) := Lib.hid (HB4.out.1.trans (hb5.mono (by have := HP6.out; omega)))
          clear x0 x1 x2 hbs hX5 hBl5 hb5 ho5 HWR
          go_wp2_with fail
          refine HWR2.out.mono ?_
          rintro e w6 ⟨rfl, hBl6, hb6, ho6⟩
          rw [← app3] at hBl6
          have HB6 : Hid (Below w.heap.size w w6) := Lib.hid (HB5.out.trans (hb6.mono (by have := HP6.out; omega)))
          have HBL6 := Lib.hid hBl6
          clear v2 hBl6 hb6 ho6 HWR2
          go_wp2
          go_roundw
          case rel => exact ⟨k + 1, _, by go_num, by omega, HGO.out, by rw [ByteArray.size_append, ByteArray.size_append, ByteArray.size_extract]; omega, HBL6.out, HB6.out⟩
          case measure => simp [intOf]; omega
    · have HE : Hid (R = (o, 0)) := Lib.hid (by rw [hRk, List.drop_of_length_le (by omega), runS_end])
      have hp4 : p6 ≤ wr.heap.size := Nat.le_of_lt hBl.lt
      have HST := Lib.hid (string_any p6 p6 o.data.toList wr hBl hp4)
      have HB := Lib.hid hB
      clear hBl hB hRk hlen
      go_wp2_with fail
      refine HST.out.mono ?_
      rintro e w9 ⟨rfl, _, hb9, _⟩
      rw [bs_back]
      go_wp2
      go_ret2
      rw [HE.out]
      exact ⟨rfl, HB.out.trans (hb9.mono (by have := HP6.out; omega))⟩
theorem wr3_size (o a t : ByteArray) : (o ++ a ++ t).size = o.size + a.size + t.size := by rw [ByteArray.size_append, ByteArray.size_append]
end Go.Proofs.YtgkcnocfijckoaaGreat
