/- DeltaSigned: the walk. Conditions: none. -/
import Derived.Test.YtgemhgllifhckaaDlSigned
import Derived.Test.YtgemhgllifhckaaDlLaw
namespace Go.Proofs.Ytgemhgllifhckaa
open Go.RowKit Sg
set_option linter.unusedVariables false
set_option linter.unusedSimpArgs false

theorem refRS_run (w : World) : (zeroValue 38).run Try.prog w = .ok (.agg #[.bool false, .slice none 0 0]) w := by kernel_rfl
theorem below_of_none {w w' : World} (h : Kept (fun k => (none : Option Nat) = some k) w w') : Below w.heap.size w w' := ⟨h.os, h.tape, h.output, h.size, fun k hk => h.block k hk (by simp)⟩
theorem row_free {α : Type} {w wx : World} {ao : Option Addr} {n cap size : Nat} {rs : List α} {f : α → List Value} (h : Rs w ao n cap size rs f) {q : Nat} (hq : w.heap.size ≤ q) : 0 < n → ∀ k off, ao = some ⟨k, off, none⟩ → ¬ k = q := fun h0 k off e => by
  obtain ⟨bb, off', e2, hbb, _⟩ := h.2.2.2 h0
  rw [e] at e2
  injection e2 with e2
  injection e2 with e2
  omega
def MkP (L : List St) (K : Int) (wx : World) (e : Ending) (w' : World) : Prop := ∃ sv, e = .returned (.tuple #[sv, .int .i64 K]) ∧ Own w' wx.heap.size sv L ∧ Below wx.heap.size wx w'
def MkRP (L : List St) (K : Int) (q : Nat) (wx : World) (e : Ending) (w' : World) : Prop := ∃ sv, e = .returned (.tuple #[sv, .int .i64 K]) ∧ Own w' wx.heap.size sv L ∧ Kept (fun k => k = q) wx w'
theorem mkRun_len (mf : ByteArray → Int → Int) (s : ByteArray) (b : Nat) (hb : 0 < b) : ∀ (k : Nat) (x : Ms), s.size - x.at_ ≤ k → x.at_ ≤ s.size → x.L.length + x.t.length ≤ x.at_ → (mkRun mf s b x).at_ ≤ s.size ∧ (mkRun mf s b x).L.length + (mkRun mf s b x).t.length ≤ (mkRun mf s b x).at_ := by
  intro k
  induction k with
  | zero =>
    intro x h1 h2 h3
    rw [mkRun_end (by omega)]; exact ⟨h2, h3⟩
  | succ k ih =>
    intro x h1 h2 h3
    by_cases h : x.at_ + b ≤ s.size
    · rw [mkRun_go hb h]
      have hst := mkStep_at mf s b x hb
      refine ih _ (by omega) ?_ ?_
      · unfold mkStep; split <;> (simp only; omega)
      · unfold mkStep; split
        · simp only [List.length_append]
          have := List.length_take_le 1 (s.data.toList.drop x.at_)
          omega
        · simp only [List.length_nil]
          have h4 := copyL_len (x.L ++ texts (toS x.t)) (mf (s.extract x.at_ (x.at_ + b)) x.wn * b) b
          have h5 := texts_len (toS x.t)
          rw [toS_size] at h5
          rw [List.length_append] at h4
          omega
    · rw [mkRun_end h]; exact ⟨h2, h3⟩
theorem steps_len' (mf : ByteArray → Int → Int) (tf : ByteArray → Bool) (s : ByteArray) (z b : Nat) (hb : 0 < b) : (stepsM mf tf s z b).length ≤ 2 * s.size + 1 := by
  obtain ⟨h1, h2⟩ := mkRun_len mf s b hb s.size ms0 (Nat.sub_le _ _) (Nat.zero_le _) (Nat.le_refl _)
  unfold stepsM endL
  obtain ⟨x, hx⟩ : ∃ x, x = mkRun mf s b ms0 := ⟨_, rfl⟩
  rw [← hx] at h1 h2 ⊢
  have hr : (s.extract x.at_ s.size).data.toList.length ≤ s.size := by
    rw [ext_drop, List.length_drop, Array.length_toList]; exact Nat.sub_le _ _
  split
  · have h4 := copyL_len (x.L ++ texts (toS (x.t ++ (s.extract x.at_ s.size).data.toList.take ((s.extract x.at_ s.size).size - z % b)))) ((z - z % b : Nat) : Int) ((z % b : Nat) : Int)
    have h5 := texts_len (toS (x.t ++ (s.extract x.at_ s.size).data.toList.take ((s.extract x.at_ s.size).size - z % b)))
    have h6 := List.length_take_le ((s.extract x.at_ s.size).size - z % b) (s.extract x.at_ s.size).data.toList
    have h7 := List.length_take_le' ((s.extract x.at_ s.size).size - z % b) (s.extract x.at_ s.size).data.toList
    rw [toS_size, List.length_append] at h5
    rw [List.length_append] at h4
    omega
  · have h5 := texts_len (toS (x.t ++ (s.extract x.at_ s.size).data.toList))
    rw [toS_size, List.length_append] at h5
    rw [List.length_append]
    omega
/-- both makers, whatever the signature -/
theorem both_make (w : World) (b z : Int) (ao : Option Addr) (n cap : Nat) (bo : Option Addr) (m cap2 : Nat) (Wk : List Int) (T : List ByteArray) (s : ByteArray) (wb : (Lit.int .i64 b).wf = true) (wz : (Lit.int .i64 z).wf = true)
    (hW : Rs w ao n cap 1 Wk (fun x => [.int .i64 x])) (hT : Rs w bo m cap2 1 T (fun x => [.string x])) (hw : ∀ x ∈ Wk, (Lit.int .i64 x).wf = true) (ht : ∀ t ∈ T, t.size ≤ maxLen) (hn : n ≤ 30) (hm : m ≤ 30) (hs : s.size ≤ 200) :
    ∃ (L : List St) (K : Int), L.length ≤ 1000000000 ∧
      (∀ wx p, Below w.heap.size w wx → RealB wx p → Calls Try.prog 30 #[.pointer (some ⟨p, 0, none⟩), .agg #[.int .i64 b, .int .i64 z, .slice ao n cap, .slice bo m cap2], .string s] wx (MkP L K wx)) ∧
      (∀ wx q, Below w.heap.size w wx → w.heap.size ≤ q → RefReal wx q → Calls Try.prog 32 #[.pointer (some ⟨q, 0, none⟩), .agg #[.int .i64 b, .int .i64 z, .slice ao n cap, .slice bo m cap2], .string s] wx (MkRP L K q wx)) := by
  by_cases hok : sigOk b z Wk T
  case neg =>
    refine ⟨[], 1, by simp, fun wx p hB hI => ?_, fun wx q hB hq hI => ?_⟩
    · refine (make_bad wx _ b z ao n cap bo m cap2 Wk T s wb wz (hW.next hB) (hT.next hB) hw ht (by omega) (by omega) hok).mono ?_
      rintro e w' ⟨rfl, h2⟩
      exact ⟨_, rfl, Own.nil _ _, h2⟩
    · refine (rmake_bad wx _ b z ao n cap bo m cap2 Wk T s wb wz (hW.next hB) (hT.next hB) hw ht (by omega) (by omega) hok).mono ?_
      rintro e w' ⟨rfl, h2⟩
      exact ⟨_, rfl, Own.nil _ _, Kept.of_below _ h2⟩
  case pos =>
    obtain ⟨B, rfl⟩ : ∃ B : Nat, b = B := ⟨b.toNat, by have := hok.1; omega⟩
    obtain ⟨Z, rfl⟩ : ∃ Z : Nat, z = Z := ⟨z.toNat, by have := hok.2.2.1; omega⟩
    have hb1 : 16 ≤ B := by have := hok.1; omega
    have hb2 : B ≤ 1024 := by have := hok.2.1; omega
    have hzz : Z ≤ 524288 := by have := hok.2.2.2.1; omega
    have hlW : Wk.length = cnt Z B := by have := hok.2.2.2.2.1; simpa using this
    have hlT : T.length = Wk.length := hok.2.2.2.2.2.1
    have hnm : m = n := by rw [← hW.2.2.1, ← hT.2.2.1]; exact hlT
    subst hnm
    have hsl : (stepsM (mfR B Z Wk (emR T)) (tailF B Z Wk (emR T)) s Z B).length ≤ 1000000000 := by
      have := steps_len' (mfR B Z Wk (emR T)) (tailF B Z Wk (emR T)) s Z B (by omega)
      omega
    refine ⟨stepsM (mfR B Z Wk (emR T)) (tailF B Z Wk (emR T)) s Z B, 0, hsl, fun wx p hB hI => ?_, fun wx q hB hq hI => ?_⟩
    · refine (make_any wx p none B Z ao m cap bo m cap2 Wk T s (fun _ w => RealB w p) _ _ (hW.next hB) (hT.next hB) hw ht (by omega) (by omega) hok (bkc_real hb1 hb2 hzz hlW hlT hI.lt) hI (by omega)).mono ?_
      rintro e w' ⟨sv, c, rfl, h1, _, _, h2⟩
      exact ⟨sv, rfl, h1, below_of_none h2⟩
    · refine (rmake_any wx q B Z ao m cap bo cap2 Wk T s (RKS q) (emR T) (fun k => k = q) (rbk_real q T) ⟨hI, fun k => Iff.rfl⟩ (hW.next hB) (hT.next hB) hw ht (row_free (wx := wx) hT hq) (row_free (wx := wx) hW hq) (by omega) hok (by omega)).mono ?_
      rintro e w' ⟨sv, c', F', rfl, h1, _, h2, _⟩
      exact ⟨sv, rfl, h1, h2⟩

set_option maxRecDepth 100000 in
set_option maxHeartbeats 2000000 in
theorem deltaSigned_walk (w : World) (c0 : Array Value) (o0 : Kd.ok w (.agg [.int .i64, .int .i64, .sl (.int .i64), .sl .str]) c0.toList) (s0 : ByteArray) (hs0 : s0.size ≤ 140737488351232) :
    Calls Try.prog 8 #[.agg c0, .string s0] w fun e w' => e = .returned (.bool true) ∧ Below w.heap.size w w' := by
  obtain ⟨b, z, ao, n, cap, bo, m, cap2, Wk, T, rfl, wb, wz, hW, hT, hw, ht⟩ := sig_of o0
  clear o0
  obtain ⟨V, hV⟩ : ∃ V, V = w.alloc (Obj.cells #[.int .i64 b, .int .i64 z, .slice ao n cap, .slice bo m cap2] 52) := ⟨_, rfl⟩
  obtain ⟨p1, hp1⟩ : ∃ p, p = w.heap.size := ⟨_, rfl⟩
  have hG1 : Blk V p1 [.int .i64 b, .int .i64 z, .slice ao n cap, .slice bo m cap2] 52 := by rw [hV, hp1]; exact Blk.new _ _ _
  have hB1 : Below w.heap.size w V := by rw [hV]; exact below_alloc _ _
  have HCU := Lib.hid (cut_any s0 200 V (by omega) (by decide))
  have hcs := cutS_size s0 200
  obtain ⟨s, hS⟩ : ∃ S, S = cutS s0 200 := ⟨_, rfl⟩
  rw [← hS] at HCU hcs
  have hz := refRS_run
  have c0 := hG1.cell (i := 0) rfl
  have c1 := hG1.cell (i := 1) rfl
  have c2 := hG1.cell (i := 2) rfl
  have c3 := hG1.cell (i := 3) rfl
  have HGB := Lib.hid (And.intro hG1 hB1)
  have HV := Lib.hid hV
  have HP1 := Lib.hid hp1
  have HARG := Lib.hid (And.intro (And.intro wb wz) (And.intro (And.intro hW hT) (And.intro hw ht)))
  have hcn : n ≤ cap := hW.1
  clear hV hp1 hG1 hB1 hS wb wz hW hT hw ht
  go_enter Try.func8, Try.ntmps8
  go_upto_region 1 with fail
  rw [← HP1.out, ← HV.out]
  go_wp2_with fail
  refine HCU.out.mono ?_
  rintro e w1 ⟨rfl, rfl⟩
  clear HCU
  by_cases h30 : 30 < n
  case pos =>
    have d1 : decide ((30 : Int) < (n : Int)) = true := decide_eq_true (by omega)
    have d2 : (30 : Int) < (n : Int) := by omega
    go_wp2_with fail
    refine (awake_any V).mono ?_
    rintro e w9 ⟨rfl, hb9⟩
    have HB9 := Lib.hid (bl_nx HGB.out.2 hb9)
    clear hb9
    go_wp2
    go_ret
    exact ⟨rfl, HB9.out⟩
  by_cases h31 : 30 < m
  case pos =>
    have d1 : decide ((30 : Int) < (n : Int)) = false := decide_eq_false (by omega)
    have d2 : decide ((30 : Int) < (m : Int)) = true := decide_eq_true (by omega)
    have d3 : ¬ (30 : Int) < (n : Int) := by omega
    have d4 : (30 : Int) < (m : Int) := by omega
    go_wp2_with fail
    refine (awake_any V).mono ?_
    rintro e w9 ⟨rfl, hb9⟩
    have HB9 := Lib.hid (bl_nx HGB.out.2 hb9)
    clear hb9
    go_wp2
    go_ret
    exact ⟨rfl, HB9.out⟩
  obtain ⟨L, K, hL, hA1, hA2⟩ := both_make w b z ao n cap bo m cap2 Wk T s HARG.out.1.1 HARG.out.1.2 HARG.out.2.1.1 HARG.out.2.1.2 HARG.out.2.2.1 HARG.out.2.2.2 (by omega) (by omega) hcs
  have HA1 := Lib.hid hA1
  have HA2 := Lib.hid hA2
  have HL := Lib.hid hL
  have d1 : decide ((30 : Int) < (n : Int)) = false := decide_eq_false (by omega)
  have d2 : decide ((30 : Int) < (m : Int)) = false := decide_eq_false (by omega)
  have d3 : ¬ (30 : Int) < (n : Int) := by omega
  have d4 : ¬ (30 : Int) < (m : Int) := by omega
  have hbw : Below w.heap.size w V.drew := below_drewN' HGB.out.2 1
  have hH : Blk V.drew p1 [.int .i64 b, .int .i64 z, .slice ao n cap, .slice bo m cap2] 52 := HGB.out.1
  clear hA1 hA2 hL HARG
  go_upto_region 4 with fail
  go_region_held3 (fun w' => w'.cell? ⟨p1, 0, none⟩ = some (.int .i64 b) ∧ w'.cell? ⟨p1, 1, none⟩ = some (.int .i64 z) ∧ w'.cell? ⟨p1, 2, none⟩ = some (.slice ao n cap) ∧ w'.cell? ⟨p1, 3, none⟩ = some (.slice bo m cap2))
    (exact ⟨hH.cell (i := 0) rfl, hH.cell (i := 1) rfl, hH.cell (i := 2) rfl, hH.cell (i := 3) rfl⟩)
    (first
      | (go_at_call 31; ((with_reducible refine (real_any _).mono ?_)); rintro e w6 ⟨p, rfl, hI, hpp, hb6⟩; replace hH := hH.below hb6 hH.lt; replace hbw := below_then (by assumption : Below w.heap.size w _) hb6; clear hb6 hpp)
      | (go_at_call 30; ((with_reducible refine (HA1.out _ _ (by assumption) (by assumption)).mono ?_)); rintro e w6 ⟨sv, rfl, hO6, hb6⟩; replace hH := hH.below hb6 hH.lt; replace hbw := below_then (by assumption : Below w.heap.size w _) hb6; clear hb6))
  all_goals
    obtain ⟨V7, hV7⟩ : ∃ V, V = w6.alloc (Obj.cells #[.bool true, .slice none 0 0] 38) := ⟨_, rfl⟩
    obtain ⟨q, hq⟩ : ∃ q, q = w6.heap.size := ⟨_, rfl⟩
    have hRR : RefReal V7 q := by rw [hV7, hq]; exact Blk.new w6 [.bool true, .slice none 0 0] _
    have hb7 : Below w6.heap.size w6 V7 := by rw [hV7]; exact below_alloc _ _
    have hH7 := hH.below hb7 hH.lt
    have hbw7 := below_then hbw hb7
    have e0 := hH7.cell (i := 0) rfl
    have e1 := hH7.cell (i := 1) rfl
    have e2 := hH7.cell (i := 2) rfl
    have e3 := hH7.cell (i := 3) rfl
    have hwq : w.heap.size ≤ q := by rw [hq]; exact hbw.size
    have HA3 := Lib.hid (HA2.out V7 q hbw7 hwq hRR)
    have hO7 := hO6.below hb7
    have hne : ∀ k, sv.ownBlock = some k → ¬ k = q := fun k hk => by have := (World.ownsRow.lt hO6 k hk).2; omega
    have HO7 := Lib.hid (And.intro hO7 hne)
    have HB7 := Lib.hid hbw7
    have HV7 := Lib.hid hV7
    have HQ := Lib.hid hq
    have HWQ := Lib.hid hwq
    have hee : (K == K) = true := by simp
    rw [hV7] at e0 e1 e2 e3
    clear hV7 hq hRR hb7 hH7 hbw7 hH hbw hI hO6 hO7 hne hwq HA1 HA2
    go_wp2_with fail
    rw [← HQ.out, ← HV7.out]
    refine HA3.out.mono ?_
    rintro e w8 ⟨sv2, rfl, hO8, hk8⟩
    have HB8 : Hid (Below w.heap.size w w8) := Lib.hid (Kept.below HB7.out hk8 HB7.out.size (fun k hk e => by have := HWQ.out; omega))
    have HO8 := Lib.hid hO8
    have HO9 : Hid (Own w8 _ sv L) := Lib.hid (owns_block HO7.out.1 (fun k hk => hk8.block k (owns_lt HO7.out.1 hk) (HO7.out.2 k hk)))
    clear hO8 hk8 e0 e1 e2 e3 HA3 c0 c1 c2 c3
    go_wp2_with fail
    refine (steps_true w8 L sv sv2 HL.out HO9.out HO8.out).mono ?_
    rintro e w10 ⟨rfl, hb10⟩
    have HB10 := Lib.hid (bl_nx HB8.out hb10)
    clear hb10
    go_wp2_with fail
    refine (awake_any w10).mono ?_
    rintro e w9 ⟨rfl, hb9⟩
    have HB9 := Lib.hid (bl_nx HB10.out hb9)
    clear hb9
    go_wp2
    go_ret
    exact ⟨rfl, HB9.out⟩
end Go.Proofs.Ytgemhgllifhckaa
