/- The steps under a real book: both makers, for any signature. Conditions: as named in each theorem. -/
import Derived.Test.YtgemhgllifhckaaDlRMake
import Derived.Test.YtgemhgllifhckaaShaRef
namespace Go.Proofs.Ytgemhgllifhckaa
open Go.RowKit Sg
set_option linter.unusedVariables false
set_option linter.unusedSimpArgs false

/-- is the block's mark that of the text? -/
noncomputable def emR (T : List ByteArray) (t : ByteArray) (i : Int) : Bool := eqM T (shaS t) i
theorem tailF_real (b z : Nat) (Wk : List Int) (T : List ByteArray) (t : ByteArray) : tailB b z Wk T t (shaS t) = tailF b z Wk (emR T) t := by
  unfold tailB tailF emR eqM
  simp only [Int.toNat_natCast, decide_eq_true_eq]
theorem mfR_real (b z : Nat) (Wk : List Int) (T : List ByteArray) (t : ByteArray) (wn : Int) : (if t.size = b then matchGo T (shaS t) wn (findL Wk (z / b) (weakI t)) (-1) else -1) = mfR b z Wk (emR T) t wn := by
  unfold mfR
  by_cases h : t.size = b
  · rw [if_pos h, if_pos h, matchF_go findL_nn]; rfl
  · rw [if_neg h, if_neg h]
theorem markC_real {w : World} {p : Nat} {t : ByteArray} (h : RealB w p) (ht : t.size ≤ 900000000) : MarkC w p none t (shaS t) (fun w => RealB w p) (fun w => RealB w p) where
  k0 := h
  next := fun a b h hb => h.next hb
  next' := fun a b h hb => h.next hb
  mark := fun a h _ => (mark_real a p t h ht).mono fun _ _ ⟨h1, h2⟩ => ⟨h1, h.next h2, below_grown h2 _⟩
theorem bkc_real {b z B0 p : Nat} {Wk : List Int} {T : List ByteArray} (hb1 : 16 ≤ b) (hb2 : b ≤ 1024) (hz : z ≤ 524288) (hl : Wk.length = cnt z b) (hT : T.length = Wk.length) (hp : p < B0) :
    BkC p none B0 b z Wk T (z / b) (fun _ w => RealB w p) (mfR b z Wk (emR T)) (tailF b z Wk (emR T)) := by
  have hNn : z / b ≤ cnt z b := by unfold cnt; exact Nat.div_le_div_right (by omega)
  have hc : cnt z b ≤ 524288 := Nat.le_trans (cnt_le (by omega)) hz
  refine ⟨?_, (fun m h => by cases h), fun t wn => mfR_lt b z Wk (emR T) t wn, fun t h => tailF_pos h, ?_, ?_⟩
  · intro c a w' h hk
    unfold RealB Blk at h ⊢
    rw [hk.block p (Array.getElem?_eq_some_iff.1 h).1 (by omega)]; exact h
  · intro c W t wn pt vI vS kv pv f h hc ht hTb hS hI
    refine (tabMatch_any W B0 pt p none b z vI vS kv pv Wk T (z / b) f (weakI t) wn t _ _ _ hTb hS hI (by omega) (by omega) (by omega) hb2 (fun m h => by cases h) (markC_real h (by omega))).mono ?_
    rintro e w' ⟨rfl, h5, h6⟩
    rw [mfR_real]
    exact ⟨rfl, h5.elim id id, h6⟩
  · intro c W t pt vI vS kv pv f h hc ht hTb hS hI
    refine (tabTail_any W B0 pt p none b z vI vS kv pv Wk T _ t _ _ _ hTb (by omega) hT (by omega) hb2 hz ?_ (by omega) (fun m h => by cases h) (markC_real h (by omega))).mono ?_
    · intro h7
      rw [hl]; unfold cnt
      exact Nat.div_pos (by have := Nat.mod_le z b; omega) (by omega)
    · rintro e w' ⟨rfl, h5, h6⟩
      rw [tailF_real]
      exact ⟨rfl, h5.elim id id, h6⟩
/-- the document's real book -/
def RKS (q : Nat) (c : Nat) (F : Nat → Prop) (w : World) : Prop := RefReal w q ∧ ∀ k, F k ↔ k = q
theorem rbk_real (q : Nat) (T : List ByteArray) : RBk q T (RKS q) (emR T) where
  lt := fun c F W h k hk => by have := (h.2 k).1 hk; subst this; exact h.1.lt
  kept := fun c F G W W' h hk hd => ⟨by
    have h1 := h.1
    unfold RefReal Blk at h1 ⊢
    rw [hk.block q (Array.getElem?_eq_some_iff.1 h1).1 (hd q ((h.2 q).2 rfl))]; exact h1, h.2⟩
  mark := fun c F W t h hc ht => (refMark_real W q t h.1 (by omega)).mono fun _ _ ⟨h1, h2⟩ => ⟨shaS t, F, h1, fun i _ => rfl, ⟨h.1.next h2, h.2⟩, Kept.of_below _ h2, fun k hk => .inl hk⟩

theorem make_bad (w : World) (v : Value) (b z : Int) (ao : Option Addr) (n cap : Nat) (bo : Option Addr) (m cap2 : Nat) (Wk : List Int) (T : List ByteArray) (s : ByteArray) (wb : (Lit.int .i64 b).wf = true) (wz : (Lit.int .i64 z).wf = true)
    (hW : Rs w ao n cap 1 Wk (fun x => [.int .i64 x])) (hT : Rs w bo m cap2 1 T (fun x => [.string x])) (hw : ∀ x ∈ Wk, (Lit.int .i64 x).wf = true) (ht : ∀ t ∈ T, t.size ≤ maxLen) (hn : n ≤ 1000000) (hm : m ≤ 1000000) (hno : ¬ sigOk b z Wk T) :
    Calls Try.prog 30 #[v, .agg #[.int .i64 b, .int .i64 z, .slice ao n cap, .slice bo m cap2], .string s] w fun e w' => e = .returned (.tuple #[.slice none 0 0, .int .i64 1]) ∧ Below w.heap.size w w' := by
  obtain ⟨V, hV⟩ : ∃ V, V = w.alloc (Obj.cells #[.int .i64 b, .int .i64 z, .slice ao n cap, .slice bo m cap2] 52) := ⟨_, rfl⟩
  obtain ⟨p1, hp1⟩ : ∃ p, p = w.heap.size := ⟨_, rfl⟩
  have hG1 : Blk V p1 [.int .i64 b, .int .i64 z, .slice ao n cap, .slice bo m cap2] 52 := by rw [hV, hp1]; exact Blk.new _ _ _
  have hB1 : Below w.heap.size w V := by rw [hV]; exact below_alloc _ _
  have HNT := Lib.hid (newTab_bad V b z ao n cap bo m cap2 Wk T wb wz (hW.next hB1) (hT.next hB1) hw ht hn hm hno)
  have c0 := hG1.cell (i := 0) rfl
  have c1 := hG1.cell (i := 1) rfl
  have c2 := hG1.cell (i := 2) rfl
  have c3 := hG1.cell (i := 3) rfl
  have HB := Lib.hid hB1
  have HV := Lib.hid hV
  have HP1 := Lib.hid hp1
  clear hV hp1 hG1 hB1 hW hT hw ht hno
  go_enter Try.func30, Try.ntmps30
  go_upto_region 1 with fail
  rw [← HP1.out, ← HV.out]
  refine wp_scope_straight ?_
  go_wp2_with fail
  refine HNT.out.mono ?_
  rintro e w2 ⟨rfl, hb2⟩
  have HB2 := Lib.hid (bl_nx HB.out hb2)
  clear hb2 c0 c1 c2 c3
  go_wp2
  unfold Exit.noGoto
  go_ret2
  exact ⟨rfl, HB2.out⟩
theorem rmake_bad (w : World) (v : Value) (b z : Int) (ao : Option Addr) (n cap : Nat) (bo : Option Addr) (m cap2 : Nat) (Wk : List Int) (T : List ByteArray) (s : ByteArray) (wb : (Lit.int .i64 b).wf = true) (wz : (Lit.int .i64 z).wf = true)
    (hW : Rs w ao n cap 1 Wk (fun x => [.int .i64 x])) (hT : Rs w bo m cap2 1 T (fun x => [.string x])) (hw : ∀ x ∈ Wk, (Lit.int .i64 x).wf = true) (ht : ∀ t ∈ T, t.size ≤ maxLen) (hn : n ≤ 1000000) (hm : m ≤ 1000000) (hno : ¬ sigOk b z Wk T) :
    Calls Try.prog 32 #[v, .agg #[.int .i64 b, .int .i64 z, .slice ao n cap, .slice bo m cap2], .string s] w fun e w' => e = .returned (.tuple #[.slice none 0 0, .int .i64 1]) ∧ Below w.heap.size w w' := by
  obtain ⟨V, hV⟩ : ∃ V, V = w.alloc (Obj.cells #[.int .i64 b, .int .i64 z, .slice ao n cap, .slice bo m cap2] 52) := ⟨_, rfl⟩
  obtain ⟨p1, hp1⟩ : ∃ p, p = w.heap.size := ⟨_, rfl⟩
  have hG1 : Blk V p1 [.int .i64 b, .int .i64 z, .slice ao n cap, .slice bo m cap2] 52 := by rw [hV, hp1]; exact Blk.new _ _ _
  have hB1 : Below w.heap.size w V := by rw [hV]; exact below_alloc _ _
  have HNT := Lib.hid (Sg.refRight_any V b z ao n cap bo m cap2 Wk T wb wz (hW.next hB1) (hT.next hB1) hw ht hn hm)
  have c0 := hG1.cell (i := 0) rfl
  have c1 := hG1.cell (i := 1) rfl
  have c2 := hG1.cell (i := 2) rfl
  have c3 := hG1.cell (i := 3) rfl
  have HB := Lib.hid hB1
  have HV := Lib.hid hV
  have HP1 := Lib.hid hp1
  have HNO := Lib.hid hno
  clear hV hp1 hG1 hB1 hW hT hw ht hno
  go_enter Try.func32, Try.ntmps32
  go_upto_region 1 with fail
  rw [← HP1.out, ← HV.out]
  go_wp2_with fail
  refine HNT.out.mono ?_
  rintro e w2 ⟨⟨r, rfl, hr⟩, hb2⟩
  have hr1 : r = false := by
    cases r
    · rfl
    · exact absurd (hr.1 rfl) HNO.out
  subst hr1
  have HB2 := Lib.hid (bl_nx HB.out hb2)
  clear hb2 c0 c1 c2 c3 hr
  go_wp2
  go_ret2
  exact ⟨rfl, HB2.out⟩
end Go.Proofs.Ytgemhgllifhckaa
