/- The document's Tail, by what its book says of a text's mark. Conditions: as named in each theorem. -/
import Derived.Test.YtgemhgllifhckaaDlRMatch
import Derived.Deep.QuietTactic
import Derived.BigQuiet
namespace Go.Proofs.Ytgemhgllifhckaa
open Go.RowKit Sg
set_option linter.unusedVariables false
set_option linter.unusedSimpArgs false

def tailF (b z : Nat) (Wk : List Int) (em : ByteArray → Int → Bool) (s : ByteArray) : Bool := decide (0 < z % b ∧ s.size = z % b ∧ weakI s = Wk.getD (Wk.length - 1) 0 ∧ em s ((Wk.length - 1 : Nat) : Int) = true)

set_option maxRecDepth 100000 in
set_option maxHeartbeats 4000000 in
theorem refTail_any (w : World) (q b z : Nat) (ao : Option Addr) (n cap : Nat) (bo : Option Addr) (cap2 : Nat) (Wk : List Int) (T : List ByteArray) (s : ByteArray) (KS : Nat → (Nat → Prop) → World → Prop) (em : ByteArray → Int → Bool) (c : Nat) (F : Nat → Prop)
    (hC : RBk q T KS em) (hK : KS c F w) (hc : c ≤ 8000000) (hW : Rs w ao n cap 1 Wk (fun x => [.int .i64 x])) (hT : Rs w bo n cap2 1 T (fun x => [.string x])) (hTF : 0 < n → ∀ k off, bo = some ⟨k, off, none⟩ → ¬ F k) (hWF : 0 < n → ∀ k off, ao = some ⟨k, off, none⟩ → ¬ F k)
    (hn : n ≤ 1000000) (hb : 16 ≤ b) (hb2 : b ≤ 1024) (hz : z ≤ 524288) (hpos : 0 < z % b → 0 < n) (hs : s.size ≤ 524288) :
    Calls Try.prog 69 #[.pointer (some ⟨q, 0, none⟩), .agg #[.int .i64 b, .int .i64 z, .slice ao n cap, .slice bo n cap2], .string s] w fun e w' =>
      e = .returned (.bool (tailF b z Wk em s)) ∧ AskS KS c 1 F w.heap.size w w' := by
  obtain ⟨V1, hV1⟩ : ∃ V, V = w.alloc (Obj.cells #[.int .i64 b, .int .i64 z, .slice ao n cap, .slice bo n cap2] 52) := ⟨_, rfl⟩
  obtain ⟨p1, hp1⟩ : ∃ p, p = w.heap.size := ⟨_, rfl⟩
  have hG1 : Blk V1 p1 [.int .i64 b, .int .i64 z, .slice ao n cap, .slice bo n cap2] 52 := by rw [hV1, hp1]; exact Blk.new _ _ _
  have hB1 : Below w.heap.size w V1 := by rw [hV1]; exact below_alloc _ _
  have hK1 := hC.next hK hB1
  have hFw := hC.lt c F w hK
  obtain ⟨R, hR⟩ : ∃ R, R = tailF b z Wk em s := ⟨_, rfl⟩
  rw [← hR]
  unfold tailF at hR
  have hlen : Wk.length = n := hW.2.2.1
  have hlenT : T.length = n := hT.2.2.1
  rw [hlen] at hR
  obtain ⟨r, hr⟩ : ∃ r, r = z % b := ⟨_, rfl⟩
  have hrI : (z : Int) % (b : Int) = (r : Int) := by rw [hr]; rfl
  rw [← hr] at hR hpos
  have c0 := hG1.cell (i := 0) rfl
  have c1 := hG1.cell (i := 1) rfl
  have c2 := hG1.cell (i := 2) rfl
  have c3 := hG1.cell (i := 3) rfl
  have HV1 := Lib.hid hV1
  have HP1 := Lib.hid hp1
  have HK0 : Hid (AskS KS c 1 F w.heap.size w V1) := Lib.hid ⟨c, F, by omega, hK1, Kept.of_below _ hB1, fun k hk => .inl hk⟩
  by_cases hr0 : r = 0
  case pos =>
    have hRf : R = false := by rw [hR, decide_eq_false (fun h => by have := h.1; omega)]
    have d1 : ((r : Int) == 0) = true := by simp; omega
    subst hRf
    clear hV1 hp1 hG1 hB1 hK1 hC hK hFw hR hr hW hT hTF hWF hr0
    go_enter Try.func69, Try.ntmps69
    go_upto_region 1 with fail
    rw [← HP1.out, ← HV1.out]
    go_wp2
    go_ret
    exact ⟨rfl, HK0.out⟩
  by_cases hsr : s.size = r
  case neg =>
    have hRf : R = false := by rw [hR, decide_eq_false (fun h => hsr h.2.1)]
    have d1 : ((r : Int) == 0) = false := by simp; omega
    have d2 : ((s.size : Int) != (r : Int)) = true := by simp; omega
    subst hRf
    clear hV1 hp1 hG1 hB1 hK1 hC hK hFw hR hr hW hT hTF hWF hr0 hsr
    go_enter Try.func69, Try.ntmps69
    go_upto_region 1 with fail
    rw [← HP1.out, ← HV1.out]
    go_wp2
    go_ret
    exact ⟨rfl, HK0.out⟩
  have hn0 : 0 < n := hpos (by omega)
  obtain ⟨la, hla⟩ : ∃ la, la = n - 1 := ⟨_, rfl⟩
  have hlan : la < n := by omega
  rw [← hla] at hR
  obtain ⟨bw, ow, y, rfl, hy, cy⟩ := (hW.next hB1).one (k := la) hlan
  obtain ⟨bb, off, t, rfl, hTi, ct⟩ := (hT.next hB1).one (k := la) hlan
  have hyg : Wk.getD la 0 = y := by rw [List.getD_eq_getElem?_getD, hy]; rfl
  rw [hyg] at hR
  have hbb : bb < V1.heap.size := World.block_lt_of_cell? V1 _ ct
  have hFb : ¬ F bb := hTF hn0 bb off rfl
  have hFp : ¬ F p1 := fun h => by have := hFw p1 h; omega
  have hps := hG1.lt
  have d1 : ((r : Int) == 0) = false := by simp; omega
  have d2 : ((s.size : Int) != (r : Int)) = false := by simp; omega
  have w0 : IntKind.i64.wrap ((n : Int) - 1) = (la : Int) := by rw [IntWalk.i64_in _ (by omega)]; omega
  have hKD := hC.drew hK1
  obtain ⟨E, hE⟩ : ∃ E, E = em s (la : Int) := ⟨_, rfl⟩
  have hbw : bw < V1.heap.size := World.block_lt_of_cell? V1 _ cy
  have hFw2 : ¬ F bw := hWF hn0 bw ow rfl
  have HCELL : Hid (∀ w4, Kept F V1.drew w4 → w4.cell? ⟨p1, 2, none⟩ = some (.slice (some ⟨bw, ow, none⟩) n cap) ∧ w4.cell? ⟨bw, ow + la, none⟩ = some (.int .i64 y) ∧ w4.cell? ⟨p1, 3, none⟩ = some (.slice (some ⟨bb, off, none⟩) n cap2) ∧ w4.cell? ⟨bb, off + la, none⟩ = some (.string t)) := Lib.hid (fun w4 hk => ⟨(hk.cell hps hFp).trans c2, (hk.cell hbw hFw2).trans cy, (hk.cell hps hFp).trans c3, (hk.cell hbb hFb).trans ct⟩)
  have HM : Hid (∀ P : Ending → World → Prop, (∀ MK w4, (MK.toList == t.toList) = E → AskS KS c 1 F w.heap.size w w4 → Kept F V1.drew w4 → P (.returned (.string MK)) w4) → Calls Try.prog 42 #[.pointer (some ⟨q, 0, none⟩), .string s] V1.drew P) := Lib.hid (fun P hP => by
    refine (hC.mark c F _ s hKD (by omega) (by omega)).mono ?_
    rintro e w4 ⟨MK, F2, rfl, hem, hK4, hk4, hF4⟩
    refine hP MK w4 ?_ ⟨c + 1, F2, by omega, hK4, ((Kept.of_below F hB1).drew').trans hk4 (fun _ _ h => h), fun k hk => (hF4 k hk).imp id (fun h => Nat.le_trans hB1.size h)⟩ hk4
    rw [hE, ← hem la (by omega)]
    unfold eqM
    rw [Int.toNat_natCast, List.getD_eq_getElem?_getD, hTi, Option.getD_some]
    by_cases hq : t.data.toList = MK.data.toList
    · rw [beqS_t hq.symm, decide_eq_true hq]
    · rw [beqS_f (fun h => hq h.symm), decide_eq_false hq])
  have HSUM := Lib.hid (fun W => refSum_any s W hs)
  obtain ⟨ws, hws⟩ : ∃ ws : Int, ws = ((weak s.data.toList : Nat) : Int) := ⟨_, rfl⟩
  rw [← hws] at HSUM
  have hR2 : R = (decide (ws = y) && E) := by
    rw [hR, hE]
    have e1 : weakI s = ws := hws.symm
    rw [e1]
    by_cases h1 : ws = y
    · cases h2 : em s (la : Int)
      · rw [decide_eq_false (fun h => by have := h.2.2.2; cases this), Bool.and_false]
      · rw [decide_eq_true ⟨by omega, hsr, h1, rfl⟩, decide_eq_true h1]; rfl
    · rw [decide_eq_false (fun h => h1 h.2.2.1), decide_eq_false h1]; rfl
  have HK2 : Hid (AskS KS c 1 F w.heap.size w V1.drew) := Lib.hid ⟨c, F, by omega, hKD, (Kept.of_below F hB1).drew', fun k hk => .inl hk⟩
  have i1 : (0 : Int) ≤ (la : Int) := by omega
  have i2 : (la : Int) < (n : Int) := by omega
  have HR2 := Lib.hid hR2
  have HC := Lib.hid hC
  clear hV1 hp1 hG1 hB1 hK1 hC hK hFw hR hr hW hT hTF hWF hbw hFw2 hr0 hsr hla hy hTi hyg hbb hFb hFp hps hKD hE hws hR2 hlen hlenT
  by_cases hwy : ws = y
  case neg =>
    have d3 : (ws == y) = false := by simpa using hwy
    have hRf : R = false := by rw [HR2.out, decide_eq_false hwy]; rfl
    subst hRf
    clear hwy
    go_enter Try.func69, Try.ntmps69
    go_upto_region 1 with fail
    rw [← HP1.out, ← HV1.out]
    go_upto_region 5 with fail
    go_quiet ((go_at_call 66; refine quiet_eq (HSUM.out _)))
    have HK3 : Hid (AskS KS c 1 F w.heap.size w (V1.drewN nq)) := Lib.hid (by
      obtain ⟨c', F', h1, h2, h3, h4⟩ := HK0.out
      exact ⟨c', F', h1, HC.out.kept c' F' (fun _ => False) V1 _ h2 ⟨rfl, rfl, rfl, Nat.le_refl _, fun _ _ _ => rfl⟩ (fun _ _ h => h), ⟨h3.os, h3.tape, h3.output, h3.size, h3.block⟩, h4⟩)
    go_wp2
    go_ret
    exact ⟨rfl, HK3.out⟩
  case pos =>
    subst hwy
    have d3 : (ws == ws) = true := by simp
    have hRf : R = E := by rw [HR2.out, decide_eq_true rfl]; rfl
    subst hRf
    clear HR2
    go_enter Try.func69, Try.ntmps69
    go_upto_region 1 with fail
    rw [← HP1.out, ← HV1.out]
    go_upto_region 5 with fail
    cases R
    all_goals
      go_region_held3 (fun w' => w'.cell? ⟨p1, 2, none⟩ = some (.slice (some ⟨bw, ow, none⟩) n cap) ∧ w'.cell? ⟨bw, ow + la, none⟩ = some (.int .i64 ws) ∧ w'.cell? ⟨p1, 3, none⟩ = some (.slice (some ⟨bb, off, none⟩) n cap2) ∧ w'.cell? ⟨bb, off + la, none⟩ = some (.string t))
        (first | exact ⟨c2, cy, c3, ct⟩ | exact d9)
        (first
          | (go_at_call 66; refine (HSUM.out _).mono ?_; rintro e w4 ⟨rfl, rfl⟩)
          | (go_at_call 42; refine HM.out _ ?_; intro MK w4 hcmp hA4 hk4; have d9 := HCELL.out w4 hk4))
      all_goals
        go_wp2
        go_ret
        exact ⟨rfl, hA4⟩
end Go.Proofs.Ytgemhgllifhckaa
