/- The document's Find; what holds while a table is asked. Conditions: as named in each theorem. -/
import Derived.Test.YtgemhgllifhckaaSgTabTail
import Derived.Test.YtgemhgllifhckaaSgCore
import Derived.Test.YtgemhgllifhckaaDlOf
import Derived.Test.YtgemhgllifhckaaDlRights
import Derived.Deep.QuietTactic
import Derived.BigQuiet
import Derived.Test.YtgemhgllifhckaaDlCore
import Derived.Test.YtgemhgllifhckaaShaRef
namespace Go.Proofs.Ytgemhgllifhckaa.Sg
open Go.RowKit
set_option linter.unusedVariables false
set_option linter.unusedSimpArgs false
structure FinS (w wx : World) (pb pt B0 : Nat) (b z : Int) (v2 v3 vI vS kv pv : Value) (W : List Int) (T : List ByteArray) (L : List Int) : Prop where
  g : Blk wx pb [.int .i64 b, .int .i64 z, v2, v3] 52
  t : Tab B0 wx pt b z vI vS kv pv W T L
  bl : Below w.heap.size w wx
section
variable {w wx wy : World} {pb pt B0 : Nat} {b z : Int} {v2 v3 vI vS kv pv : Value} {W : List Int} {T : List ByteArray} {L : List Int}
theorem FinS.next (h : FinS w wx pb pt B0 b z v2 v3 vI vS kv pv W T L) (hb : Below wx.heap.size wx wy) : FinS w wy pb pt B0 b z v2 v3 vI vS kv pv W T L := ⟨h.g.belowB hb, h.t.next hb, bl_nx h.bl hb⟩
theorem FinS.drew (h : FinS w wx pb pt B0 b z v2 v3 vI vS kv pv W T L) : FinS w wx.drew pb pt B0 b z v2 v3 vI vS kv pv W T L := ⟨h.g, ⟨h.t.t, h.t.i, h.t.s, h.t.k, h.t.p, h.t.b0⟩, bl_drew h.bl⟩
end
end Go.Proofs.Ytgemhgllifhckaa.Sg
namespace Go.Proofs.Ytgemhgllifhckaa
open Go.RowKit Sg
set_option linter.unusedVariables false
set_option linter.unusedSimpArgs false
/-- the wanted place, or the first one -/
def matchF (f : Int → Bool) (wn : Int) (l : List Int) : Int := if wn ∈ l.filter f then wn else ((l.filter f).head?).getD (-1)
theorem matchF_go {T : List ByteArray} {MK : ByteArray} {wn : Int} {l : List Int} (h : ∀ x ∈ l, 0 ≤ x) : matchGo T MK wn l (-1) = matchF (eqM T MK) wn l := by
  rw [matchGo_eq T MK wn l (-1) h]
  unfold matchF
  by_cases hw : wn ∈ l.filter (eqM T MK)
  · rw [if_pos hw, if_pos hw]
  · rw [if_neg hw, if_neg hw, if_pos (show (-1 : Int) < 0 by decide)]
theorem matchF_congr {f g : Int → Bool} {wn : Int} {l : List Int} (h : ∀ x ∈ l, f x = g x) : matchF f wn l = matchF g wn l := by
  unfold matchF; rw [List.filter_congr h]
theorem findL_nn {W : List Int} {N : Nat} {weak : Int} : ∀ x ∈ findL W N weak, 0 ≤ x := fun x hx => by
  obtain ⟨v, _, rfl, _⟩ := findL_mem.1 hx
  omega
/-- the document's book at q; F: the blocks that are its own -/
structure RBk (q : Nat) (T : List ByteArray) (KS : Nat → (Nat → Prop) → World → Prop) (em : ByteArray → Int → Bool) : Prop where
  lt : ∀ c F W, KS c F W → ∀ k, F k → k < W.heap.size
  kept : ∀ c F G W W', KS c F W → Kept G W W' → (∀ k, F k → ¬ G k) → KS c F W'
  mark : ∀ c F W t, KS c F W → c ≤ 10000000 → t.size ≤ 524288 → Calls Try.prog 42 #[.pointer (some ⟨q, 0, none⟩), .string t] W fun e w' => ∃ MK F', e = .returned (.string MK) ∧ (∀ i : Nat, i < T.length → eqM T MK i = em t i) ∧ KS (c + 1) F' w' ∧ Kept F W w' ∧ (∀ k, F' k → F k ∨ W.heap.size ≤ k)
theorem RBk.drew {q : Nat} {T : List ByteArray} {KS : Nat → (Nat → Prop) → World → Prop} {em : ByteArray → Int → Bool} (h : RBk q T KS em) {c : Nat} {F : Nat → Prop} {W : World} (hK : KS c F W) : KS c F W.drew :=
  h.kept c F (fun _ => False) W _ hK ⟨rfl, rfl, rfl, Nat.le_refl _, fun _ _ _ => rfl⟩ (fun _ _ h => h)
theorem RBk.next {q : Nat} {T : List ByteArray} {KS : Nat → (Nat → Prop) → World → Prop} {em : ByteArray → Int → Bool} (h : RBk q T KS em) {c : Nat} {F : Nat → Prop} {W W' : World} (hK : KS c F W) (hb : Below W.heap.size W W') : KS c F W' :=
  h.kept c F (fun _ => False) W W' hK (Kept.of_below _ hb) (fun _ _ h => h)
end Go.Proofs.Ytgemhgllifhckaa
namespace Go.Proofs.Ytgemhgllifhckaa
open Go.RowKit Sg
set_option linter.unusedVariables false
set_option linter.unusedSimpArgs false
def tailF (b z : Nat) (Wk : List Int) (em : ByteArray → Int → Bool) (s : ByteArray) : Bool := decide (0 < z % b ∧ s.size = z % b ∧ weakI s = Wk.getD (Wk.length - 1) 0 ∧ em s ((Wk.length - 1 : Nat) : Int) = true)
end Go.Proofs.Ytgemhgllifhckaa
namespace Go.Proofs.Ytgemhgllifhckaa
open Go.RowKit Sg
set_option linter.unusedVariables false
set_option linter.unusedSimpArgs false
def mfR (b z : Nat) (Wk : List Int) (em : ByteArray → Int → Bool) (t : ByteArray) (wn : Int) : Int := if t.size = b then matchF (em t) wn (findL Wk (z / b) (weakI t)) else -1
theorem matchF_lt {f : Int → Bool} {wn : Int} {l : List Int} {N : Nat} (h : ∀ x ∈ l, x < (N : Int)) : matchF f wn l < (N : Int) := by
  unfold matchF
  by_cases hw : wn ∈ l.filter f
  · rw [if_pos hw]; exact h _ (List.mem_filter.1 hw).1
  · rw [if_neg hw]
    cases hh : (l.filter f).head? with
    | none => show (-1 : Int) < N; omega
    | some x => exact h x (List.mem_filter.1 (List.mem_of_mem_head? hh)).1
theorem mfR_lt (b z : Nat) (Wk : List Int) (em : ByteArray → Int → Bool) (t : ByteArray) (wn : Int) : mfR b z Wk em t wn < ((z / b : Nat) : Int) := by
  unfold mfR
  split
  · refine matchF_lt fun x hx => ?_
    obtain ⟨v, hv, rfl, _⟩ := findL_mem.1 hx
    exact Int.ofNat_lt.2 hv
  · have : (0 : Int) ≤ ((z / b : Nat) : Int) := Int.natCast_nonneg _
    omega
theorem tailF_pos {b z : Nat} {Wk : List Int} {em : ByteArray → Int → Bool} {s : ByteArray} (h : tailF b z Wk em s = true) : 0 < z % b := (of_decide_eq_true h).1
/-- the document's maker between two steps -/
structure RS (q : Nat) (B : Nat) (V wr : World) (KS : Nat → (Nat → Prop) → World → Prop) (F : Nat → Prop) (sv : Value) (L : List St) (c : Nat) (F' : Nat → Prop) : Prop where
  o : Own wr B sv L
  k : KS c F' wr
  g : Kept F V wr
  f : ∀ k, F' k → F k ∨ B ≤ k
  d : ∀ k, sv.ownBlock = some k → ¬ F' k
  v : B = V.heap.size
section
variable {q B : Nat} {V wr w2 : World} {KS : Nat → (Nat → Prop) → World → Prop} {F F' : Nat → Prop} {sv sv2 : Value} {L L2 : List St} {c d : Nat} {T : List ByteArray} {em : ByteArray → Int → Bool}
theorem RS.drewN (hC : RBk q T KS em) (h : RS q B V wr KS F sv L c F') (n : Nat) : RS q B V (wr.drewN n) KS F sv L c F' :=
  ⟨h.o, hC.kept c F' (fun _ => False) wr _ h.k ⟨rfl, rfl, rfl, Nat.le_refl _, fun _ _ _ => rfl⟩ (fun _ _ h => h), ⟨h.g.os, h.g.tape, h.g.output, h.g.size, h.g.block⟩, h.f, h.d, h.v⟩
end
theorem ext_drop (s : ByteArray) (a : Nat) : (s.extract a s.size).data.toList = s.data.toList.drop a := by
  simp only [ByteArray.data_extract, Array.toList_extract, List.extract_eq_take_drop]
  exact List.take_of_length_le (by rw [List.length_drop, Array.length_toList]; exact Nat.le_refl _)
end Go.Proofs.Ytgemhgllifhckaa
namespace Go.Proofs.Ytgemhgllifhckaa
open Go.RowKit Sg
set_option linter.unusedVariables false
set_option linter.unusedSimpArgs false
/-- is the block's mark that of the text? -/
noncomputable def emR (T : List ByteArray) (t : ByteArray) (i : Int) : Bool := eqM T (shaS t) i
theorem tailF_real (b z : Nat) (Wk : List Int) (T : List ByteArray) (t : ByteArray) : tailB b z Wk T t (shaS t) = tailF b z Wk (emR T) t := by
  unfold tailB tailF emR eqM
  simp only [Int.toNat_natCast, decide_eq_true_eq]
theorem mfR_real (b z : Nat) (Wk : List Int) (T : List ByteArray) (t : ByteArray) (wn : Int) : (if t.size = b then matchGo T (shaS t) wn (findL Wk (z / b) (weakI t)) (-1) else -1) = mfR b z Wk (emR T) t wn := by
  unfold mfR
  by_cases h : t.size = b
  · rw [if_pos h, if_pos h, matchF_go findL_nn]; rfl
  · rw [if_neg h, if_neg h]
theorem markC_real {w : World} {p : Nat} {t : ByteArray} (h : RealB w p) (ht : t.size ≤ 900000000) : MarkC w p none t (shaS t) (fun w => RealB w p) (fun w => RealB w p) where
  k0 := h
  next := fun a b h hb => h.next hb
  next' := fun a b h hb => h.next hb
  mark := fun a h _ => (mark_real a p t h ht).mono fun _ _ ⟨h1, h2⟩ => ⟨h1, h.next h2, below_grown h2 _⟩
theorem bkc_real {b z B0 p : Nat} {Wk : List Int} {T : List ByteArray} (hb1 : 16 ≤ b) (hb2 : b ≤ 1024) (hz : z ≤ 524288) (hl : Wk.length = cnt z b) (hT : T.length = Wk.length) (hp : p < B0) :
    BkC p none B0 b z Wk T (z / b) (fun _ w => RealB w p) (mfR b z Wk (emR T)) (tailF b z Wk (emR T)) := by
  have hNn : z / b ≤ cnt z b := by unfold cnt; exact Nat.div_le_div_right (by omega)
  have hc : cnt z b ≤ 524288 := Nat.le_trans (cnt_le (by omega)) hz
  refine ⟨?_, (fun m h => by cases h), fun t wn => mfR_lt b z Wk (emR T) t wn, fun t h => tailF_pos h, ?_, ?_⟩
  · intro c a w' h hk
    unfold RealB Blk at h ⊢
    rw [hk.block p (Array.getElem?_eq_some_iff.1 h).1 (by omega)]; exact h
  · intro c W t wn pt vI vS kv pv f h hc ht hTb hS hI
    refine (tabMatch_any W B0 pt p none b z vI vS kv pv Wk T (z / b) f (weakI t) wn t _ _ _ hTb hS hI (by omega) (by omega) (by omega) hb2 (fun m h => by cases h) (markC_real h (by omega))).mono ?_
    rintro e w' ⟨rfl, h5, h6⟩
    rw [mfR_real]
    exact ⟨rfl, h5.elim id id, h6⟩
  · intro c W t pt vI vS kv pv f h hc ht hTb hS hI
    refine (tabTail_any W B0 pt p none b z vI vS kv pv Wk T _ t _ _ _ hTb (by omega) hT (by omega) hb2 hz ?_ (by omega) (fun m h => by cases h) (markC_real h (by omega))).mono ?_
    · intro h7
      rw [hl]; unfold cnt
      exact Nat.div_pos (by have := Nat.mod_le z b; omega) (by omega)
    · rintro e w' ⟨rfl, h5, h6⟩
      rw [tailF_real]
      exact ⟨rfl, h5.elim id id, h6⟩
end Go.Proofs.Ytgemhgllifhckaa
