/- The steps that delta's maker makes: what is computed; the book that it asks. No conditions. -/
import Derived.Test.YtgkcnocfijckoaaGreatMkCopy
import Derived.Test.YtgkcnocfijckoaaGreatQN
import Derived.Test.YtgkcnocfijckoaaGreatDlRollSkip
namespace Go.Proofs.YtgkcnocfijckoaaGreat
open Go.RowKit
set_option linter.unusedVariables false
set_option linter.unusedSimpArgs false
structure Ms where
  L : List St
  t : List UInt8
  at_ : Nat
  wn : Int
/-- one window -/
def mkStep (mf : ByteArray → Int → Int) (s : ByteArray) (b : Nat) (x : Ms) : Ms :=
  if mf (s.extract x.at_ (x.at_ + b)) x.wn < 0 then ⟨x.L, x.t ++ (s.data.toList.drop x.at_).take 1, x.at_ + 1, x.wn⟩
  else ⟨copyL (x.L ++ texts (toS x.t)) (mf (s.extract x.at_ (x.at_ + b)) x.wn * b) b, [], x.at_ + b, mf (s.extract x.at_ (x.at_ + b)) x.wn + 1⟩
theorem mkStep_at (mf : ByteArray → Int → Int) (s : ByteArray) (b : Nat) (x : Ms) (h : 0 < b) : x.at_ < (mkStep mf s b x).at_ := by
  unfold mkStep; split
  · simp
  · simp; omega
def mkRun (mf : ByteArray → Int → Int) (s : ByteArray) (b : Nat) (x : Ms) : Ms := if h : 0 < b ∧ x.at_ + b ≤ s.size then mkRun mf s b (mkStep mf s b x) else x
termination_by s.size - x.at_
decreasing_by have := mkStep_at mf s b x h.1; omega
theorem mkRun_go {mf : ByteArray → Int → Int} {s : ByteArray} {b : Nat} {x : Ms} (h : 0 < b) (h2 : x.at_ + b ≤ s.size) : mkRun mf s b x = mkRun mf s b (mkStep mf s b x) := by
  rw [mkRun, dif_pos ⟨h, h2⟩]
theorem mkRun_end {mf : ByteArray → Int → Int} {s : ByteArray} {b : Nat} {x : Ms} (h2 : ¬ x.at_ + b ≤ s.size) : mkRun mf s b x = x := by
  rw [mkRun, dif_neg (fun h => h2 h.2)]
/-- what is left behind the last window -/
def endL (tf : ByteArray → Bool) (z b : Nat) (L : List St) (t : List UInt8) (r : ByteArray) : List St :=
  if z % b ≤ r.size ∧ tf (r.extract (r.size - z % b) r.size) = true then copyL (L ++ texts (toS (t ++ r.data.toList.take (r.size - z % b)))) ((z - z % b : Nat) : Int) ((z % b : Nat) : Int)
  else L ++ texts (toS (t ++ r.data.toList))
def ms0 : Ms := ⟨[], [], 0, 0⟩
def stepsM (mf : ByteArray → Int → Int) (tf : ByteArray → Bool) (s : ByteArray) (z b : Nat) : List St :=
  endL tf z b (mkRun mf s b ms0).L (mkRun mf s b ms0).t (s.extract (mkRun mf s b ms0).at_ s.size)
/-- what a book says of blocks; how often it was asked -/
structure BkC (p : Nat) (ro : Option Nat) (B0 b z : Nat) (Wk : List Int) (T : List ByteArray) (N : Nat) (KS : Nat → World → Prop) (mf : ByteArray → Int → Int) (tf : ByteArray → Bool) : Prop where
  kept : ∀ c a w', KS c a → Kept (fun k => B0 ≤ k) a w' → KS c w'
  ro_lt : ∀ m, ro = some m → m < B0
  mf_lt : ∀ t wn, mf t wn < N
  tf_pos : ∀ t, tf t = true → 0 < z % b
  mtch : ∀ c W t wn pt vI vS kv pv f, KS c W → c ≤ 1000000 → t.size = b → Sg.Tab B0 W pt b z vI vS kv pv Wk T (Sg.plc N f) → Srt (wtOf Wk) f 0 N → InB f 0 N →
    Calls Tryz.prog 109 #[.pointer (some ⟨pt, 0, none⟩), .pointer (some ⟨p, 0, none⟩), .int .i64 (Sg.weakI t), .string t, .int .i64 wn] W fun e w' => e = .returned (.int .i64 (mf t wn)) ∧ KS (c + 1) w' ∧ W.grownBy w' ro
  tail : ∀ c W t pt vI vS kv pv f, KS c W → c ≤ 1000000 → t.size ≤ 1024 → Sg.Tab B0 W pt b z vI vS kv pv Wk T (Sg.plc N f) → Srt (wtOf Wk) f 0 N → InB f 0 N →
    Calls Tryz.prog 130 #[.pointer (some ⟨pt, 0, none⟩), .pointer (some ⟨p, 0, none⟩), .string t] W fun e w' => e = .returned (.bool (tf t)) ∧ KS (c + 1) w' ∧ W.grownBy w' ro
end Go.Proofs.YtgkcnocfijckoaaGreat
namespace Go.Proofs.YtgkcnocfijckoaaGreat
open Go.RowKit
set_option linter.unusedVariables false
set_option linter.unusedSimpArgs false
def EnT (ro : Option Nat) (pk B k : Nat) : Prop := ro = some k ∨ k = pk ∨ B ≤ k
def EndP (w : World) (ro : Option Nat) (pk B c : Nat) (KS : Nat → World → Prop) (L : List St) (e : Ending) (w' : World) : Prop :=
  ∃ sv tv c', e = .returned (.tuple #[]) ∧ Mk w' pk B L [] sv tv ∧ KS c' w' ∧ c' ≤ c + 1 ∧ Kept (EnT ro pk B) w w'
/-- the bytes grow -/
theorem Mk.more {w w5 : World} {pk B : Nat} {L : List St} {t t' : List UInt8} {sv tv tv' : Value} (h : Mk w pk B L t sv tv) (ho : OffB w5 B tv' t') (hg : w.grownBy w5 tv.ownBlock) (hrb : tv'.ownBlock = tv.ownBlock ∨ tv'.ownBlock = some w.heap.size) :
    Mk (w5.setCell ⟨pk, 1, none⟩ tv') pk B L t' sv tv' ∧ Kept (MkT pk B) w (w5.setCell ⟨pk, 1, none⟩ tv') ∧ w5.cell? ⟨pk, 1, none⟩ = some tv ∧ w5.frozen? ⟨pk, 1, none⟩ = false :=
  h.bytes ho hg (hrb.imp id (fun e => ⟨_, e, Nat.le_refl _⟩) |> .inr)
set_option maxRecDepth 100000 in
set_option maxHeartbeats 800000 in
theorem mend_any (w : World) (p : Nat) (ro : Option Nat) (B0 pk B pt b z : Nat) (vI vS kv pv : Value) (Wk : List Int) (T : List ByteArray) (N : Nat) (f : Nat → Int) (KS : Nat → World → Prop) (mf : ByteArray → Int → Int) (tf : ByteArray → Bool) (c : Nat)
    (hC : BkC p ro B0 b z Wk T N KS mf tf) (L : List St) (t : List UInt8) (sv tv : Value) (r : ByteArray) (h : Mk w pk B L t sv tv) (hTb : Sg.Tab B0 w pt b z vI vS kv pv Wk T (Sg.plc N f)) (hS : Srt (wtOf Wk) f 0 N) (hI : InB f 0 N) (hK : KS c w)
    (hc : c ≤ 1000000) (hB0 : B0 ≤ pk) (hb0 : 0 < b) (hb : b ≤ 1024) (hz : z ≤ 524288) (hL : L.length ≤ 1000000) (ht : t.length ≤ 1000000) (hr : r.size ≤ 524288) (hsh : ShL L) (hptk : pt ≠ pk) (hptB : pt < B) :
    Calls Tryz.prog 114 #[.pointer (some ⟨pk, 0, none⟩), .pointer (some ⟨p, 0, none⟩), .pointer (some ⟨pt, 0, none⟩), .string r] w (EndP w ro pk B c KS (endL tf z b L t r)) := by
  obtain ⟨i0, hi, hz0, hz1, hz2⟩ := info_parts infoByte
  obtain ⟨R, hR⟩ : ∃ R, R = endL tf z b L t r := ⟨_, rfl⟩
  unfold endL at hR
  obtain ⟨n, hn⟩ : ∃ n, n = z % b := ⟨_, rfl⟩
  have hnb : n < b := by rw [hn]; exact Nat.mod_lt _ hb0
  have hnz : n ≤ z := by rw [hn]; exact Nat.mod_le _ _
  have hmod : Int.tmod (z : Int) (b : Int) = (n : Int) := by rw [hn]; rfl
  have hmod2 : (z : Int) % (b : Int) = (n : Int) := by rw [hn]; rfl
  have hpos : ∀ t, tf t = true → 0 < n := by rw [hn]; exact hC.tf_pos
  rw [← hn] at hR
  have hpkB := h.pB
  have hRb : ¬ (b : Int) = 0 := by omega
  have HSZ := Lib.hid (Sg.tabSize_any w pt b z vI vS kv pv hTb.t)
  have HBL := Lib.hid (Sg.tabBlock_any w pt b z vI vS kv pv hTb.t)
  have HM := Lib.hid h
  have HTB := Lib.hid hTb
  have HSI := Lib.hid (And.intro hS hI)
  have HKS := Lib.hid hK
  have HC := Lib.hid hC
  have HR := Lib.hid hR
  have HP := Lib.hid hpos
  have HSH := Lib.hid hsh
  rw [show endL tf z b L t r = R from by rw [hR]; unfold endL; rw [hn]]
  clear h hTb hS hI hK hC hR hn hpos hsh
  go_enter Tryz.func114, Tryz.ntmps114
  go_wp2_with fail
  refine HSZ.out.mono ?_
  rintro e w1 ⟨rfl, rfl⟩
  go_wp2_with fail
  refine HBL.out.mono ?_
  rintro e w1 ⟨rfl, rfl⟩
  have HDL : Hid (r.data.toList.length = r.size) := Lib.hid (by rw [Array.length_toList]; rfl)
  have hle0 : (n : Int) ≤ 1024 := by omega
  have HDL : Hid (r.data.toList.length = r.size) := Lib.hid (by rw [Array.length_toList]; rfl)
  have hle0 : (n : Int) ≤ 1024 := by omega
  have HDL : Hid (r.data.toList.length = r.size) := Lib.hid (by rw [Array.length_toList]; rfl)
  have hle0 : (n : Int) ≤ 1024 := by omega
  by_cases hle : n ≤ r.size
  case neg =>
    have HRR : Hid (R = L ++ texts (toS (t ++ r.data.toList))) := Lib.hid (by rw [HR.out, if_neg (fun h => hle h.1)])
    have d1 : decide ((n : Int) ≤ (r.size : Int)) = false := decide_eq_false (by omega)
    have d2 : decide (n ≤ r.size) = false := decide_eq_false hle
    have x1 := HM.out.b.cell (i := 1) rfl
    go_wp2_with (at_builtin; refine wpList_append_off rfl _ _ 98 9 rfl 5 i0 (.int .u8 0) Tryz.underlying98 hi hz0 hz1 hz2 rfl B tv t rfl HM.out.t HM.out.hB _ rfl r.data.toList (src_str Tryz.underlying9 r _) (by rw [HDL.out]; omega) ?_)
    intro v5 w5 hO5 hg5 hrb
    obtain ⟨a5, n5, c5, rfl⟩ := hO5.slice'
    have hst := HM.out.more hO5 hg5 hrb
    have z0 := hst.2.2.1
    have z1 := hst.2.2.2
    have HF := Lib.hid (And.intro hst.1 hst.2.1)
    have hl5 : (t ++ r.data.toList).length ≤ 10000000 := by rw [List.length_append, HDL.out]; omega
    have HL5 := Lib.hid hl5
    clear hO5 hg5 hrb hst x1 hl5
    go_wp2_with fail
    refine (flush_any _ pk B L _ _ _ HF.out.1 (by omega) HL5.out).mono ?_
    rintro e w6 ⟨s6, t6, rfl, hM6, hK6⟩
    have HM6 := Lib.hid hM6
    have HK6 := Lib.hid (HF.out.2.trans hK6 (fun _ _ h => h))
    clear hM6 hK6 z0 z1
    go_wp2
    go_end0
    exact ⟨s6, t6, c, rfl, by rw [HRR.out]; exact HM6.out, HC.out.kept c _ _ HKS.out (HK6.out.mono (fun k _ h => h.elim (fun e => by omega) (fun e => by omega))), by omega, HK6.out.mono (fun k _ h => .inr h)⟩
  case pos =>
    obtain ⟨k, hk⟩ : ∃ k, k = r.size - n := ⟨_, rfl⟩
    have e1 : (r.size : Int) - (n : Int) = (k : Int) := by omega
    have e2 : IntKind.i64.wrap ((r.size : Int) - (n : Int)) = (k : Int) := by rw [IntKind.wrap_i64]; omega
    have e3 : IntKind.i64.wrap (k : Int) = (k : Int) := by rw [IntKind.wrap_i64]; omega
    have d1 : decide ((n : Int) ≤ (r.size : Int)) = true := decide_eq_true (by omega)
    have d2 : decide (n ≤ r.size) = true := decide_eq_true hle
    have i1 : (0 : Int) ≤ (k : Int) := by omega
    have i2 : (k : Int) ≤ (r.size : Int) := by omega
    obtain ⟨E, hE⟩ : ∃ E, E = r.extract k r.size := ⟨_, rfl⟩
    have hEs : E.size ≤ 1024 := by rw [hE, ByteArray.size_extract]; omega
    have HTL := Lib.hid (HC.out.tail c w E pt vI vS kv pv f HKS.out hc hEs HTB.out HSI.out.1 HSI.out.2)
    obtain ⟨q, hq⟩ : ∃ q, q = tf E := ⟨_, rfl⟩
    rw [← hq] at HTL
    have HKK := Lib.hid hk
    have HE := Lib.hid hE
    have HQ := Lib.hid hq
    have HRR0 : Hid (R = if q = true then copyL (L ++ texts (toS (t ++ r.data.toList.take k))) ((z - n : Nat) : Int) ((n : Nat) : Int) else L ++ texts (toS (t ++ r.data.toList))) := Lib.hid (by
      rw [HR.out, ← hk, ← hE, ← hq]
      cases q
      · rw [if_neg (fun h => by cases h.2), if_neg (by decide)]
      · rw [if_pos ⟨hle, rfl⟩, if_pos rfl])
    clear hk hE hq
    go_wp2_with fail
    rw [← HE.out]
    refine HTL.out.mono ?_
    rintro e w2 ⟨rfl, hK2, hg2⟩
    have HM2 := Lib.hid (HM.out.far hg2 (fun m e => by have := HC.out.ro_lt m e; omega))
    have HK2 := Lib.hid hK2
    have HG2 : Hid (Kept (EnT ro pk B) w w2) := Lib.hid ((Kept.of_grown hg2).mono (fun k _ h => .inl h))
    have HT2 := Lib.hid (HTB.out.grownO hg2 HC.out.ro_lt)
    clear hK2 hg2 HTL
    cases q
    case false =>
      have HRR : Hid (R = L ++ texts (toS (t ++ r.data.toList))) := Lib.hid (by rw [HRR0.out, if_neg (by decide)])
      have x1 := HM2.out.b.cell (i := 1) rfl
      go_wp2_with (at_builtin; refine wpList_append_off rfl _ _ 98 9 rfl 5 i0 (.int .u8 0) Tryz.underlying98 hi hz0 hz1 hz2 rfl B tv t rfl HM2.out.t HM2.out.hB _ rfl r.data.toList (src_str Tryz.underlying9 r _) (by rw [HDL.out]; omega) ?_)
      intro v5 w5 hO5 hg5 hrb
      obtain ⟨a5, n5, c5, rfl⟩ := hO5.slice'
      have hst := HM2.out.more hO5 hg5 hrb
      have z0 := hst.2.2.1
      have z1 := hst.2.2.2
      have HF := Lib.hid (And.intro hst.1 hst.2.1)
      have hl5 : (t ++ r.data.toList).length ≤ 10000000 := by rw [List.length_append, HDL.out]; omega
      have HL5 := Lib.hid hl5
      clear hO5 hg5 hrb hst x1 hl5
      go_wp2_with fail
      refine (flush_any _ pk B L _ _ _ HF.out.1 (by omega) HL5.out).mono ?_
      rintro e w6 ⟨s6, t6, rfl, hM6, hK6⟩
      have HM6 := Lib.hid hM6
      have HK6 := Lib.hid (HF.out.2.trans hK6 (fun _ _ h => h))
      clear hM6 hK6 z0 z1
      go_wp2
      go_end0
      exact ⟨s6, t6, (c + 1), rfl, by rw [HRR.out]; exact HM6.out, HC.out.kept (c + 1) _ _ HK2.out (HK6.out.mono (fun k _ h => h.elim (fun e => by omega) (fun e => by omega))), by omega, HG2.out.trans HK6.out (fun k _ h => .inr h)⟩
    case true =>
      have HRR : Hid (R = copyL (L ++ texts (toS (t ++ r.data.toList.take k))) ((z - n : Nat) : Int) ((n : Nat) : Int)) := Lib.hid (by rw [HRR0.out, if_pos rfl])
      have hn0 : 0 < n := HP.out _ HQ.out.symm
      have x1 := HM2.out.b.cell (i := 1) rfl
      obtain ⟨A, hA⟩ : ∃ A, A = r.extract 0 k := ⟨_, rfl⟩
      have hAl : A.data.toList = r.data.toList.take k := by rw [hA, ByteArray.data_extract, Array.toList_extract]; simp [List.extract]
      have hAs : A.data.toList.length = k := by rw [hAl, List.length_take, HDL.out]; omega
      have HA := Lib.hid hA
      have HAL := Lib.hid hAl
      have HAS := Lib.hid hAs
      have hBw : B ≤ w2.heap.size := HM2.out.hB
      clear hA hAl hAs HRR0
      go_upto_region 2 with fail
      go_cut [] (fun wx => ∃ (t5 : Value), Mk wx pk B L (t ++ A.data.toList) sv t5 ∧ Kept (MkT pk B) w2 wx)
      case first =>
        go_region_law (rw [← HA.out]; refine step_append_off (by rfl) (.tmp 33) (.tmp 39) 98 9 (by rfl) 5 i0 (.int .u8 0) Tryz.underlying98 hi hz0 hz1 hz2 rfl B tv t (by rfl) (HM2.out.t.next (Below.refl _ _).drew) (by simpa using hBw) (.string A) (by rfl) A.data.toList (src_str Tryz.underlying9 A _) (by rw [HAS.out]; omega) ?_; intro v5 w5 hO5 hg5 hrb; obtain ⟨a5, n5, c5, rfl⟩ := hO5.slice'; have hst := (HM2.out.next (Below.refl _ _).drew).more hO5 hg5 hrb; have z0 := hst.2.2.1; have z1 := hst.2.2.2)
        all_goals
          have HF := Lib.hid (And.intro hst.1 ((Kept.of_below (MkT pk B) (Below.refl w2.heap.size w2).drew).trans hst.2.1 (fun _ _ h => h)))
          clear hst hO5 hg5 hrb z0 z1
          go_wp2_with fail
          go_meet
          case rel => exact ⟨_, HF.out.1, HF.out.2⟩
      case rest =>
        obtain ⟨t5, hM5, hK5⟩ := hcut
        have HM5 := Lib.hid hM5
        have hK5' : Kept (fun k => B0 ≤ k) w2 wc := hK5.mono (fun k _ h => h.elim (fun e => by omega) (fun e => by omega))
        have HKS5 := Lib.hid (HC.out.kept (c + 1) _ _ HK2.out hK5')
        have HK5 := Lib.hid (HG2.out.trans hK5 (fun k _ h => .inr h))
        have hT5 : Blk wc pt [.int .i64 b, .int .i64 z, vI, vS, kv, pv] 181 := by
          have h1 := HT2.out.t
          unfold Blk at h1 ⊢
          rw [hK5.block pt HT2.out.t.lt (fun h => h.elim (fun e => hptk e) (fun e => by omega))]; exact h1
        have HSZ5 := Lib.hid (Sg.tabSize_any wc pt b z vI vS kv pv hT5)
        have e4 : (z : Int) - (n : Int) = ((z - n : Nat) : Int) := by omega
        have e5 : IntKind.i64.wrap ((z : Int) - (n : Int)) = ((z - n : Nat) : Int) := by rw [IntKind.wrap_i64]; omega
        have hl5 : (t ++ A.data.toList).length ≤ 10000000 := by rw [List.length_append, HAS.out]; omega
        have HL5 := Lib.hid hl5
        clear hM5 hK5' hT5 x1 hl5 hK5
        go_wp2_with fail
        refine HSZ5.out.mono ?_
        rintro e w6 ⟨rfl, rfl⟩
        go_wp2_with fail
        refine (mcopy_any wc pk B L (t ++ A.data.toList) sv t5 HM5.out (by omega) HL5.out HSH.out ((z - n : Nat) : Int) ((n : Nat) : Int) (by omega) (by omega) (by omega)).mono ?_
        rintro e w6 ⟨s6, t6, rfl, hM6, hK6⟩
        have HM6 := Lib.hid hM6
        have HK6 := Lib.hid hK6
        clear hM6 hK6
        go_wp2
        go_end0
        exact ⟨s6, t6, c + 1, rfl, by rw [HRR.out, ← HAL.out]; exact HM6.out, HC.out.kept (c + 1) _ _ HKS5.out (HK6.out.mono (fun k _ h => h.elim (fun e => by omega) (fun e => by omega))), by omega, HK5.out.trans HK6.out (fun k _ h => .inr h)⟩
end Go.Proofs.YtgkcnocfijckoaaGreat
