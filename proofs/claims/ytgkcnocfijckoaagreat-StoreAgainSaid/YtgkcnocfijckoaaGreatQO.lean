/- delta's maker in memory. Conditions: as named in each theorem. -/
import Derived.Test.YtgkcnocfijckoaaGreatOffRow
import Derived.Test.YtgkcnocfijckoaaGreatDlCore
import Derived.Test.YtgkcnocfijckoaaGreatQL
import Derived.Test.YtgkcnocfijckoaaGreatStepAppend
import Derived.Deep.DeepCutAuto
namespace Go.Proofs.YtgkcnocfijckoaaGreat
open Go.RowKit
set_option linter.unusedVariables false
set_option linter.unusedSimpArgs false
theorem makerZ_run (w : World) : (zeroValue 160).run Tryz.prog w = .ok (.agg #[.slice none 0 0, .slice none 0 0]) w := by kernel_rfl
/-- a maker at pk: steps and bytes, their memory from the block B on -/
structure Mk (w : World) (pk B : Nat) (L : List St) (t : List UInt8) (sv tv : Value) : Prop where
  b : Blk w pk [sv, tv] 160
  s : Own w B sv L
  t : OffB w B tv t
  ap : ∀ k, sv.ownBlock = some k → tv.ownBlock ≠ some k
  pB : pk < B
  hB : B ≤ w.heap.size
def MkT (pk B k : Nat) : Prop := k = pk ∨ B ≤ k
section
variable {w w' : World} {pk B : Nat} {L : List St} {t : List UInt8} {sv tv : Value}
theorem Mk.next (h : Mk w pk B L t sv tv) (hb : Below w.heap.size w w') : Mk w' pk B L t sv tv :=
  ⟨h.b.below hb h.b.lt, h.s.below hb, h.t.next hb, h.ap, h.pB, Nat.le_trans h.hB hb.size⟩
theorem Mk.far (h : Mk w pk B L t sv tv) {row : Option Nat} (hg : w.grownBy w' row) (hr : ∀ k, row = some k → k < B ∧ k ≠ pk) : Mk w' pk B L t sv tv := by
  refine ⟨h.b.grown hg (fun e => (hr pk e.symm).2 rfl), ?_, h.t.grown hg (fun k hk e => by have := (h.t.own k e).1; have := (hr k hk).1; omega), h.ap, h.pB, Nat.le_trans h.hB hg.size⟩
  refine World.ownsRow.kept h.s hg ?_
  cases hv : sv.ownBlock with
  | none => exact .inl rfl
  | some j => exact .inr fun e => by have := (World.ownsRow.lt h.s j hv).1; have := (hr j e.symm).1; omega
/-- more steps -/
theorem Mk.steps (h : Mk w pk B L t sv tv) {w5 : World} {sv' : Value} {x : St} (ho : w5.ownsRow B 107 3 sv' (L.length + 1) (L.flatMap St.c ++ x.c)) (hg : w.grownBy w5 sv.ownBlock) (hrb : sv'.ownBlock = sv.ownBlock ∨ ∃ k, sv'.ownBlock = some k ∧ w.heap.size ≤ k) :
    Mk (w5.setCell ⟨pk, 0, none⟩ sv') pk B (L ++ [x]) t sv' tv ∧ Kept (MkT pk B) w (w5.setCell ⟨pk, 0, none⟩ sv') ∧ w5.cell? ⟨pk, 0, none⟩ = some sv ∧ w5.frozen? ⟨pk, 0, none⟩ = false := by
  have h1 := h.pB
  have far : ∀ k, sv.ownBlock = some k → B ≤ k := fun k hk => (World.ownsRow.lt h.s k hk).1
  have hgs : w5.grownBy (w5.setCell ⟨pk, 0, none⟩ sv') (some pk) := grown_set (grown_refl _ _) 0 _
  have hb5 := h.b.grown hg (fun e => by have := far pk e.symm; omega)
  have hO5 : Own w5 B sv' (L ++ [x]) := Own.snoc ho
  refine ⟨⟨hb5.set 0 sv', World.ownsRow.kept hO5 hgs (.inr fun e => by have := (World.ownsRow.lt ho pk e).1; omega), ?_, fun k hk => ?_, h1, Nat.le_trans h.hB (Nat.le_trans hg.size hgs.size)⟩, ?_, hb5.cell (i := 0) rfl, hb5.frozen 0⟩
  · exact (h.t.grown hg (fun k hk e => h.ap k hk e)).grown hgs (fun k hk e => by injection hk with hk; have := (h.t.own k e).1; omega)
  · rcases hrb with e | ⟨j, e, hj⟩
    · exact h.ap k (e ▸ hk)
    · intro e2
      have := (h.t.own k e2).2
      rw [e] at hk
      injection hk with hk
      omega
  · refine ⟨hgs.os.trans hg.os, hgs.tape.trans hg.tape, hgs.output.trans hg.output, Nat.le_trans hg.size hgs.size, fun k hk hn => ?_⟩
    have hk1 : ¬ k = pk := fun e => hn (.inl e)
    have hk2 : ¬ B ≤ k := fun e => hn (.inr e)
    rw [hgs.block k (Nat.lt_of_lt_of_le hk hg.size) (fun e => by injection e with e; exact hk1 e), hg.block k hk (fun e => hk2 (far k e.symm))]
/-- other bytes -/
theorem Mk.bytes (h : Mk w pk B L t sv tv) {w5 : World} {tv' : Value} {t' : List UInt8} (ho : OffB w5 B tv' t') (hg : w.grownBy w5 tv.ownBlock) (hrb : tv'.ownBlock = none ∨ tv'.ownBlock = tv.ownBlock ∨ ∃ k, tv'.ownBlock = some k ∧ w.heap.size ≤ k) :
    Mk (w5.setCell ⟨pk, 1, none⟩ tv') pk B L t' sv tv' ∧ Kept (MkT pk B) w (w5.setCell ⟨pk, 1, none⟩ tv') ∧ w5.cell? ⟨pk, 1, none⟩ = some tv ∧ w5.frozen? ⟨pk, 1, none⟩ = false := by
  have h1 := h.pB
  have far : ∀ k, tv.ownBlock = some k → B ≤ k := fun k hk => (h.t.own k hk).1
  have hgs : w5.grownBy (w5.setCell ⟨pk, 1, none⟩ tv') (some pk) := grown_set (grown_refl _ _) 1 _
  have hb5 := h.b.grown hg (fun e => by have := far pk e.symm; omega)
  have hs5 : Own w5 B sv L := World.ownsRow.kept h.s hg (by
    cases hv : sv.ownBlock with
    | none => exact .inl rfl
    | some j => exact .inr fun e => h.ap j hv e.symm)
  refine ⟨⟨hb5.set 1 tv', World.ownsRow.kept hs5 hgs (.inr fun e => by have := (World.ownsRow.lt hs5 pk e).1; omega), ?_, fun k hk => ?_, h1, Nat.le_trans h.hB (Nat.le_trans hg.size hgs.size)⟩, ?_, hb5.cell (i := 1) rfl, hb5.frozen 1⟩
  · exact ho.grown hgs (fun k hk e => by injection hk with hk; have := (ho.own k e).1; omega)
  · intro e
    rcases hrb with e2 | e2 | ⟨j, e2, hj⟩
    · rw [e2] at e; cases e
    · exact h.ap k hk (e2 ▸ e)
    · have := (World.ownsRow.lt h.s k hk).2
      rw [e2] at e
      injection e with e
      omega
  · refine ⟨hgs.os.trans hg.os, hgs.tape.trans hg.tape, hgs.output.trans hg.output, Nat.le_trans hg.size hgs.size, fun k hk hn => ?_⟩
    have hk1 : ¬ k = pk := fun e => hn (.inl e)
    have hk2 : ¬ B ≤ k := fun e => hn (.inr e)
    rw [hgs.block k (Nat.lt_of_lt_of_le hk hg.size) (fun e => by injection e with e; exact hk1 e), hg.block k hk (fun e => hk2 (far k e.symm))]
end
theorem OffB.slice' {w : World} {base : Nat} {v : Value} {l : List UInt8} (h : OffB w base v l) : ∃ ao n cap, v = .slice ao n cap := by
  obtain ⟨ao, cap, h, _⟩ := h.slice
  exact ⟨ao, _, cap, h⟩
def slLen : Value → Nat
  | .slice _ n _ => n
  | _ => 0
def toS (t : List UInt8) : ByteArray := ⟨t.toArray⟩
theorem toS_size (t : List UInt8) : (toS t).size = t.length := by simp [toS, ByteArray.size]
theorem toS_cut (t : List UInt8) (a n : Nat) : (toS t).extract a (a + n) = toS ((t.drop a).take n) := by
  apply ByteArray.ext
  rw [ByteArray.data_extract]
  apply Array.ext'
  simp [toS, List.extract]
theorem Kept.selfD {T : Nat → Prop} {w w' : World} (h : Kept T w w') : Kept T w w'.drew := ⟨h.os, h.tape, h.output, h.size, h.block⟩
end Go.Proofs.YtgkcnocfijckoaaGreat
namespace Go.Proofs.YtgkcnocfijckoaaGreat
open Go.RowKit
set_option linter.unusedVariables false
set_option linter.unusedSimpArgs false
theorem OffB.some {w : World} {base : Nat} {v : Value} {l : List UInt8} (h : OffB w base v l) (h0 : 0 < l.length) : ∃ g off cap, v = .slice (some ⟨g, off, none⟩) l.length cap ∧ l.length ≤ cap := by
  rcases h with ⟨rfl, rfl⟩ | ⟨g, off, cap, h1, h2, h3, h4, h5⟩
  · simp at h0
  · exact ⟨g, off, cap, h1, h4⟩
theorem texts_toS (t : List UInt8) (j : Nat) (h : j * 4096 < t.length) : textsN (toS t) (j + 1) = textsN (toS t) j ++ [⟨0, 0, toS ((t.drop (4096 * j)).take 4096)⟩] := by
  rw [textsN_succ, show 4096 * (j + 1) = 4096 * j + 4096 by omega, toS_cut]
def FlushP (w : World) (pk B : Nat) (L : List St) (t : List UInt8) (e : Ending) (w' : World) : Prop :=
  ∃ sv tv, e = .returned (.tuple #[]) ∧ Mk w' pk B (L ++ texts (toS t)) [] sv tv ∧ Kept (MkT pk B) w w'
def cellLen (w : World) (p i : Nat) : Nat := slLen ((w.cell? ⟨p, i, none⟩).getD undef)
theorem Mk.len {w : World} {pk B : Nat} {L : List St} {t : List UInt8} {sv tv : Value} (h : Mk w pk B L t sv tv) : cellLen w pk 1 = t.length := by
  unfold cellLen
  rw [h.b.cell (i := 1) rfl]
  obtain ⟨ao, cap, hv, _⟩ := h.t.slice
  rw [hv]; rfl
theorem Own.fresh {w : World} {B : Nat} {v : Value} {L : List St} (h : Own w B v L) (hB : B ≤ w.heap.size) : True := trivial
set_option maxRecDepth 100000 in
set_option maxHeartbeats 4000000 in
theorem flush_any (w : World) (pk B : Nat) (L : List St) (t : List UInt8) (sv tv : Value) (h : Mk w pk B L t sv tv) (hL : L.length ≤ 10000000) (ht : t.length ≤ 10000000) :
    Calls Tryz.prog 128 #[.pointer (some ⟨pk, 0, none⟩)] w (FlushP w pk B L t) := by
  obtain ⟨i0, hi, hz0, hz1, hz2⟩ := info_parts infoStep
  have hgz := stepZ_run
  have HM := Lib.hid h
  clear h
  go_enter Tryz.func128, Tryz.ntmps128
  go_wp2_with fail
  go_loopw [2] (fun _ wr => ∃ (j : Nat) (s' v' : Value), j ≤ (t.length + 4095) / 4096 ∧ Mk wr pk B (L ++ textsN (toS t) j) (t.drop (4096 * j)) s' v' ∧ Kept (MkT pk B) w wr) (fun _ wr => cellLen wr pk 1)
  case atStart => exact ⟨0, sv, tv, by omega, by simpa [textsN] using HM.out, Kept.refl _ _⟩
  case round =>
    clear HM
    obtain ⟨j, s', v', hj, hM, hK⟩ := hrel
    obtain ⟨T, hT⟩ : ∃ T, T = t.drop (4096 * j) := ⟨_, rfl⟩
    obtain ⟨O, hO⟩ : ∃ O, O = L ++ textsN (toS t) j := ⟨_, rfl⟩
    have hTl : T.length = t.length - 4096 * j := by rw [hT, List.length_drop]
    have hOl : O.length = L.length + j := by rw [hO, List.length_append, textsN_len]
    rw [← hT, ← hO] at hM
    have HLEN := Lib.hid hM.len
    by_cases h0 : 0 < T.length
    case neg =>
      obtain ⟨at1, c1, hv1, _⟩ := hM.t.slice
      obtain ⟨at0, c0, hv0⟩ := owns_slice hM.s
      have hT0 : T = [] := List.eq_nil_of_length_eq_zero (by omega)
      have hj2 : j = (t.length + 4095) / 4096 := by omega
      have hfin : texts (toS t) = textsN (toS t) j := texts_eq _ _ (by rw [toS_size]; exact hj2)
      have hx1 : wr.cell? ⟨pk, 1, none⟩ = some (.slice at1 0 c1) := by rw [hM.b.cell (i := 1) rfl, hv1, hT0]; rfl
      have HF := Lib.hid (show Mk wr pk B (L ++ texts (toS t)) [] s' v' by rw [hfin, ← hO, ← hT0]; exact hM)
      have HK := Lib.hid hK
      clear hM hK HLEN hv1 hv0 hT0 hj2 hfin hT hO hTl hOl h0
      go_wp2
      go_end0
      exact ⟨s', v', rfl, HF.out, HK.out⟩
    case pos =>
      obtain ⟨g, off, c1, hv1, hc1⟩ := hM.t.some h0
      obtain ⟨at0, c0, hv0⟩ := owns_slice hM.s
      obtain ⟨n, hn⟩ : ∃ n, n = T.length := ⟨_, rfl⟩
      obtain ⟨q, hq⟩ : ∃ q, q = O.length := ⟨_, rfl⟩
      obtain rfl : v' = .slice (some ⟨g, off, none⟩) n c1 := by rw [hn]; exact hv1
      obtain rfl : s' = .slice at0 q c0 := by rw [hq]; exact hv0
      obtain ⟨m, hm⟩ : ∃ m, m = min n 4096 := ⟨_, rfl⟩
      have x0 := hM.b.cell (i := 0) rfl
      have x1 := hM.b.cell (i := 1) rfl
      have y0 := x0
      have hcv := OffB.str (P := Tryz.prog) (src := 98) (dst := 9) (w := wr.drew) (hM.t.next (Below.refl _ _).drew) Tryz.underlying98 Tryz.underlying5 Tryz.underlying9 m (by omega) c1
      obtain ⟨SS, hSS⟩ : ∃ SS : ByteArray, SS = ⟨(T.take m).toArray⟩ := ⟨_, rfl⟩
      rw [← hSS] at hcv
      have HM := Lib.hid hM
      have HK := Lib.hid hK
      have HN := Lib.hid hn
      have HQ := Lib.hid hq
      have HSS := Lib.hid hSS
      have HT := Lib.hid hT
      have HO := Lib.hid hO
      have HTL := Lib.hid hTl
      have hq1 : q ≤ 20000000 := by omega
      have hn1 : n ≤ 10000000 := by omega
      have hn0 : 0 < n := by omega
      have hmv : (if (4096 : Int) < (n : Int) then (4096 : Int) else (n : Int)) = (m : Int) := by split <;> omega
      have hm1 : m ≤ n := by omega
      have hm2 : (m : Int) ≤ (c1 : Int) := by omega
      have hm0 : (0 : Int) ≤ (m : Int) := by omega
      have HMQ : Hid (m = min n 4096) := Lib.hid hm
      clear hM hK hv1 hv0 hn hq hm hSS hT hO hTl hOl h0 y0
      obtain ⟨Wa, hWa⟩ : ∃ W, W = (wr.alloc (Obj.cells #[.int .i64 0, .int .i64 0, .string SS] 107)).drew := ⟨_, rfl⟩
      have hba : Below wr.heap.size wr Wa := by rw [hWa]; exact ((Below.refl _ _).alloc (Nat.le_refl _) _).drew
      have hMA := HM.out.next hba
      have HMA := Lib.hid hMA
      have HKA : Hid (Kept (MkT pk B) w Wa) := Lib.hid (HK.out.trans (Kept.of_below (MkT pk B) hba) (fun _ _ h => h))
      have HOWN : Hid (Wa.ownsRow B 107 3 (.slice at0 q c0) q (O.flatMap St.c)) := Lib.hid (by rw [HQ.out]; have h := hMA.s; rw [HQ.out] at h; exact h)
      have hnew := cells_new wr.drew [.int .i64 0, .int .i64 0, .string SS] 107
      have HNEW : Hid (∀ j u, [Value.int .i64 0, .int .i64 0, .string SS][j]? = some u → Wa.cell? ((⟨wr.heap.size, 0, none⟩ : Addr).add j) = some u) := Lib.hid (by rw [hWa]; exact hnew)
      have HBW : Hid (B ≤ Wa.heap.size) := Lib.hid hMA.hB
      have b0 : (wr.alloc (Obj.cells #[.int .i64 0, .int .i64 0, .string SS] 107)).drew.cell? ⟨pk, 0, none⟩ = some (.slice at0 q c0) := by rw [← hWa]; exact hMA.b.cell (i := 0) rfl
      have b1 : (wr.alloc (Obj.cells #[.int .i64 0, .int .i64 0, .string SS] 107)).drew.cell? ⟨pk, 1, none⟩ = some (.slice (some ⟨g, off, none⟩) n c1) := by rw [← hWa]; exact hMA.b.cell (i := 1) rfl
      have hcva := OffB.str (P := Tryz.prog) (src := 98) (dst := 9) hMA.t Tryz.underlying98 Tryz.underlying5 Tryz.underlying9 m (by omega) c1
      rw [← HSS.out, hWa] at hcva
      have HC5 : Hid (∀ w5, Wa.grownBy w5 (Value.slice at0 q c0).ownBlock → w5.cell? ⟨pk, 0, none⟩ = some (.slice at0 q c0) ∧ w5.cell? ⟨pk, 1, none⟩ = some (.slice (some ⟨g, off, none⟩) n c1) ∧ (convert 98 9 (.slice (some ⟨g, off, none⟩) m c1)).run Tryz.prog w5 = .ok (.string SS) w5) := Lib.hid (fun w5 hg5 => by
        have h5 := hMA.b.grown hg5 (fun e => by have := (World.ownsRow.lt hMA.s pk e.symm).1; have := hMA.pB; omega)
        have ht5 := hMA.t.grown hg5 (fun k hk => hMA.ap k hk)
        have := OffB.str (P := Tryz.prog) (src := 98) (dst := 9) ht5 Tryz.underlying98 Tryz.underlying5 Tryz.underlying9 m (by omega) c1
        rw [← HSS.out] at this
        exact ⟨h5.cell (i := 0) rfl, h5.cell (i := 1) rfl, this⟩)
      have HWA := Lib.hid hWa
      clear hWa hba hMA hnew hcva
      go_upto_region 2 with fail
      go_cut [] (fun wx => ∃ (s5 : Value), Mk wx pk B (O ++ [⟨0, 0, SS⟩]) T s5 (.slice (some ⟨g, off, none⟩) n c1) ∧ Kept (MkT pk B) w wx)
      case first =>
        go_region_law (rw [← HWA.out]; refine step_append_at (by rfl) (.tmp 19) (.tmp 28) 53 (by rfl) B 107 i0 (.agg #[.int .i64 0, .int .i64 0, .string ByteArray.empty]) 3 32 Tryz.underlying53 hi hz0 hz1 hz2 rfl (by decide) (.slice at0 q c0) q (O.flatMap St.c) (by rfl) HOWN.out ⟨wr.heap.size, 0, none⟩ 1 1 [.int .i64 0, .int .i64 0, .string SS] (by rfl) rfl HNEW.out (sc_one ⟨0, 0, SS⟩) (by unfold maxLen; omega) (by omega) HBW.out ?_; intro v5 w5 hO5 hg5 hrb; obtain ⟨a5, k5, rfl⟩ := owns_slice hO5; have hst := Mk.steps (x := ⟨0, 0, SS⟩) HMA.out (by rw [← HQ.out]; exact hO5) hg5 (hrb.imp id (fun e => ⟨_, e, Nat.le_refl _⟩)); have z0 := hst.2.2.1; have z1 := hst.2.2.2)
        all_goals
          have HF := Lib.hid (And.intro hst.1 (HKA.out.trans hst.2.1 (fun _ _ h => h)))
          clear hst hO5 hg5 hrb z0 z1
          go_wp2_with fail
          go_meet
          case rel => exact ⟨_, HF.out.1, HF.out.2⟩
      case rest =>
        obtain ⟨s5, hM5, hK5⟩ := hcut
        clear hcv b0 b1 HOWN HNEW HC5 HWA HMA HKA x0 x1 HM HK
        have x1 := hM5.b.cell (i := 1) rfl
        have y1 := hM5.b.frozen 1
        have i3 : (m : Int) ≤ (n : Int) := by omega
        have HM5 := Lib.hid hM5
        have HK5 := Lib.hid hK5
        clear hM5 hK5
        have hd1 : T.drop m = t.drop (4096 * (j + 1)) := by
          have h1 := HMQ.out
          have h2 := HTL.out
          have h3 := HN.out
          by_cases h4 : 4096 ≤ n
          · rw [HT.out, List.drop_drop, show m = 4096 by omega, show 4096 * j + 4096 = 4096 * (j + 1) by omega]
          · rw [List.drop_of_length_le (by omega), List.drop_of_length_le (by omega)]
        have hd2 : O ++ [⟨0, 0, SS⟩] = L ++ textsN (toS t) (j + 1) := by
          have h1 := HMQ.out
          have h3 := HN.out
          rw [texts_toS t j (by have := HTL.out; omega), HO.out, List.append_assoc, HSS.out, ← HT.out]
          have h5 : T.take m = T.take 4096 := by
            by_cases h4 : 4096 ≤ n
            · rw [show m = 4096 by omega]
            · rw [List.take_of_length_le (by omega), List.take_of_length_le (by omega)]
          rw [h5]; rfl
        have hj1 : j + 1 ≤ (t.length + 4095) / 4096 := by have h2 := HTL.out; have h3 := HN.out; omega
        have HD := Lib.hid (And.intro hd1 (And.intro hd2 hj1))
        have HLM : Hid ((T.drop m).length < T.length) := Lib.hid (by rw [List.length_drop]; have := HN.out; omega)
        clear hd1 hd2 hj1
        by_cases hcm : m = c1
        case pos =>
          have hMf := HM5.out.bytes (OffB.drop HM5.out.t m hm1 off (fun h => by omega)) (grown_refl wc _) (.inr (.inl rfl))
          rw [← hcm] at x1
          have hc0 : m - m = 0 := Nat.sub_self _
          rw [← hcm, hc0] at hMf
          have hM1 := hMf.1
          rw [HD.out.2.1, HD.out.1] at hM1
          have HMF := Lib.hid (And.intro hM1 (HK5.out.trans hMf.2.1 (fun _ _ h => h)))
          clear hMf hc0 hM1
          subst hcm
          go_wp2_with fail
          exact ⟨⟨j + 1, s5, _, HD.out.2.2, HMF.out.1, HMF.out.2⟩, by rw [HMF.out.1.len, HLEN.out, ← HD.out.1]; exact HLM.out⟩
        case neg =>
          have hMf := HM5.out.bytes (OffB.drop HM5.out.t m hm1 (off + m) (fun h => rfl)) (grown_refl wc _) (.inr (.inl rfl))
          have hM1 := hMf.1
          rw [HD.out.2.1, HD.out.1] at hM1
          have HMF := Lib.hid (And.intro hM1 (HK5.out.trans hMf.2.1 (fun _ _ h => h)))
          clear hMf hM1
          go_wp2_with fail
          exact ⟨⟨j + 1, s5, _, HD.out.2.2, HMF.out.1, HMF.out.2⟩, by rw [HMF.out.1.len, HLEN.out, ← HD.out.1]; exact HLM.out⟩
end Go.Proofs.YtgkcnocfijckoaaGreat
