/- chapter 5's examples hold. No conditions. -/
import Derived.Test.YtfcfgkhdlpgbdaaSignBlock
import Derived.Test.YtfcfgkhdlpgbdaaSignSign
import Derived.Laws.MakeOwn
import Derived.Laws.OwnMore
import Derived.Laws.IdiomStrings
import Derived.BigQuiet
namespace Go.Proofs.Ytfcfgkhdlpgbdaa
open Go.RowKit
set_option linter.unusedVariables false
set_option linter.unusedSimpArgs false

theorem BookI.alloc {w : World} {p m : Nat} {seen : List (List UInt8)} (h : BookI w p m seen) (o : Obj) : BookI (w.alloc o) p m seen := h.grown (World.grownBy_alloc w o none) (by simp) (by simp)
theorem BookI.drew {w : World} {p m : Nat} {seen : List (List UInt8)} (h : BookI w p m seen) : BookI w.drew p m seen := h.grown (grown_drew (grown_refl w none)) (by simp) (by simp)
def zeros40 : ByteArray := ⟨(List.replicate 40 (0 : UInt8)).toArray⟩
theorem z40_size : zeros40.size = 40 := rfl
theorem sign_awake (w : World) (p m : Nat) (s : ByteArray) (h : BookI w p m []) (hs : s.size = 40) :
    Calls Try.prog 19 #[.pointer (some ⟨p, 0, none⟩), .string s, .int .i64 16] w fun e w' => ∃ aw kw av kv, e = .returned (.tuple #[.agg #[.int .i64 16, .int .i64 40, .slice aw 3 kw, .slice av 3 kv], .int .i64 0]) ∧ w.grownBy w' (some m) := by
  refine (sign_ideal w p m [] s 16 h (by omega) (by decide) (by decide) (by simp)).mono ?_
  rintro e w' ⟨wv, sv, rfl, h1, h2, h3, h4⟩
  obtain ⟨aw, kw, rfl⟩ := slice_of h1
  obtain ⟨av, kv, rfl⟩ := slice_of h2
  have hc : cnt s.size 16 = 3 := by rw [hs]; rfl
  have e1 : ((pieces s 16 (cnt s.size 16)).map weakI).length = 3 := by rw [List.length_map, pieces_len, hc]
  have e2 : (marksOf [] (pieces s 16 (cnt s.size 16))).2.length = 3 := by rw [marksOf_len, pieces_len, hc]
  rw [e1, e2, hs]
  exact ⟨aw, kw, av, kv, rfl, h4⟩

/-- forty noughts lie at q -/
def Z40 : Array Value := madeCells #[.int .u8 0] 40
structure Has40 (Z : Array Value) (X : World) (q : Nat) : Prop where
  out : X.heap[q]? = some (.cells Z 5)
theorem blk_new_heap (W : World) (o : Obj) : (W.alloc o).heap[W.heap.size]? = some o := by
  show (W.heap.push _)[W.heap.size]? = _
  simp
theorem Has40.new (Z : Array Value) (W : World) (q : Nat) (h : q = W.heap.size) : Has40 Z (W.alloc (.cells Z 5)) q := ⟨by subst h; exact blk_new_heap _ _⟩
theorem Has40.alloc (Z : Array Value) (W : World) (o : Obj) (q : Nat) (h : Has40 Z W q) : Has40 Z (W.alloc o) q := ⟨by
  have h1 := (Array.getElem?_eq_some_iff.1 h.out).1
  rw [Below.heap_alloc _ _ _ h1]; exact h.out⟩
theorem Has40.below {Z : Array Value} {W w1 : World} (hb : Below W.heap.size W w1) (q : Nat) (h : Has40 Z W q) : Has40 Z w1 q := ⟨by
  rw [← h.out]; exact hb.block q (Array.getElem?_eq_some_iff.1 h.out).1⟩
theorem Has40.drew {Z : Array Value} {W : World} {q : Nat} (h : Has40 Z W q) : Has40 Z W.drew q := ⟨h.out⟩
theorem z40_info : (Try.prog.info? 5).map (fun i => (i.zero, i.size, i.bytes)) = some (some (.int .u8 0), 1, 1) := by kernel_rfl
theorem z40_make (W : World) : (Instr.makeSlice 63 (.int .i64 40) (.int .i64 40)).run Try.prog W = .ok (.slice (some ⟨W.heap.size, 0, none⟩) 40 40) (W.alloc (.cells Z40 5)) := by
  obtain ⟨i0, hi, hz0, hz1, hz2⟩ := info_parts z40_info
  have := run_make (P := Try.prog) W 63 5 i0 (.int .u8 0) Try.underlying63 hi hz0 .i64 .i64 40 40 (by omega) (by omega) (by rw [hz2]; omega) (by omega)
  rw [this, hz1]; rfl
theorem z40_conv (X : World) (q : Nat) (h : Has40 Z40 X q) : (convert 63 9 (.slice (some ⟨q, 0, none⟩) 40 40)).run Try.prog X = .ok (.string zeros40) X := by
  have := run_convert_bytes_back (P := Try.prog) X 63 9 5 ⟨q, 0, none⟩ 40 (List.replicate 40 (0 : UInt8)) (by kernel_rfl) (by kernel_rfl) (by kernel_rfl) (fun j hj => by
    have hadd : (⟨q, 0, none⟩ : Addr).add j = ⟨q, j, none⟩ := by unfold Addr.add; split <;> simp_all
    have hj40 : j < 40 := by simpa using hj
    rw [hadd]
    simp only [World.cell?, h.out]
    rw [List.getElem_replicate]
    have h1 : Z40.toList = List.replicate 40 (.int .u8 0) := toList_madeCells_one _ 40
    rw [← Array.getElem?_toList, h1, List.getElem?_replicate, if_pos hj40]; rfl)
  exact this
theorem Blk.newAt (W : World) (cs : List Value) (t : TypeId) (q : Nat) (h : q = W.heap.size) : Blk (W.alloc (.cells cs.toArray t)) q cs t := by subst h; exact Blk.new W cs t
theorem drew_size (W : World) : W.drew.heap.size = W.heap.size := rfl
theorem sigNew0 (W : World) : Blk (W.alloc (.cells #[.int .i64 0, .int .i64 0, .slice none 0 0, .slice none 0 0] 31)) W.heap.size sigZ 31 := Blk.new W sigZ 31
theorem sigNew1 (W : World) (o : Obj) : Blk ((W.alloc o).alloc (.cells #[.int .i64 0, .int .i64 0, .slice none 0 0, .slice none 0 0] 31)) (W.heap.size + 1) sigZ 31 := by
  have := sigNew0 (W.alloc o)
  rwa [World.size_alloc] at this
theorem hasNew0 (Z : Array Value) (W : World) : Has40 Z (W.alloc (.cells Z 5)) W.heap.size := Has40.new Z W _ rfl
theorem hasNew1 (Z : Array Value) (W : World) (o : Obj) : Has40 Z ((W.alloc o).alloc (.cells Z 5)) (W.heap.size + 1) := Has40.new Z _ _ (by simp)
theorem Blk.drew1 {W : World} {q : Nat} {cs : List Value} {t : TypeId} (h : Blk W q cs t) : Blk W.drew q cs t := h
theorem Blk.belowW {W w1 : World} {q : Nat} {cs : List Value} {t : TypeId} (h : Blk W q cs t) (hb : Below W.heap.size W w1) : Blk w1 q cs t := by
  have hl := h.lt
  unfold Blk at h ⊢
  rw [hb.block q hl]; exact h
theorem sig_blk {W w2 : World} {m : Nat} (hg : W.grownBy w2 (some m)) (q : Nat) (h : Blk W q sigZ 31) (hne : q ≠ m) : Blk w2 q sigZ 31 := h.grown hg (by simpa using hne)
theorem book_m {w1 : World} {p m : Nat} (hI : BookI w1 p m []) : m < w1.heap.size := hI.2.2.2.2.1.2

theorem blk_q {W : World} {q : Nat} {cs : List Value} {t : TypeId} (h : Blk W q cs t) (n : Nat) (hn : n ≤ q) : n ≤ q := hn
theorem bl_alloc {w W : World} (h : Below w.heap.size w W) (o : Obj) : Below w.heap.size w (W.alloc o) := h.alloc h.size o
theorem bl_drew {w W : World} (h : Below w.heap.size w W) : Below w.heap.size w W.drew := ⟨h.os, h.tape, h.output, h.size, h.block⟩
theorem bl_set {w W : World} (h : Below w.heap.size w W) (q i : Nat) (v : Value) (hq : w.heap.size ≤ q) : Below w.heap.size w (W.setCell ⟨q, i, none⟩ v) := h.grown (grown_set (grown_refl _ (some q)) i v) h.size (by simp; omega)
theorem bl_next {w W X : World} (h : Below w.heap.size w W) (k : Below W.heap.size W X) : Below w.heap.size w X := ⟨k.os.trans h.os, k.tape.trans h.tape, k.output.trans h.output, Nat.le_trans h.size k.size, fun i hi => (k.block i (Nat.lt_of_lt_of_le hi h.size)).trans (h.block i hi)⟩
theorem bl_grow {w W X : World} {m : Nat} (h : Below w.heap.size w W) (k : W.grownBy X (some m)) (hm : w.heap.size ≤ m) : Below w.heap.size w X := h.grown k h.size (by simp; omega)

set_option maxRecDepth 100000 in
set_option maxHeartbeats 600000 in
theorem awake_core (w : World) (Z : Array Value) (hmk : ∀ W, (Instr.makeSlice 63 (.int .i64 40) (.int .i64 40)).run Try.prog W = .ok (.slice (some ⟨W.heap.size, 0, none⟩) 40 40) (W.alloc (.cells Z 5)))
    (hcv : ∀ X q, Has40 Z X q → (convert 63 9 (.slice (some ⟨q, 0, none⟩) 40 40)).run Try.prog X = .ok (.string zeros40) X) : Calls Try.prog 16 #[] w fun e w' => e = .returned (.bool true) ∧ Below w.heap.size w w' := by
  have hcv1 := fun (W : World) (q : Nat) (h : q = W.heap.size) => hcv _ q (Has40.new Z W q h)
  have hcv2 := fun (W : World) (o : Obj) (q : Nat) (h : q = W.heap.size) => hcv _ q (Has40.alloc Z _ o _ (Has40.new Z W q h))
  have hcv3 := fun (W : World) (o : Obj) (q : Nat) (h : Has40 Z W q) => hcv _ q (Has40.alloc Z W o q h)
  have hcv4 := fun (W : World) (q : Nat) (h : q = W.heap.size) => hcv _ q (Has40.drew (Has40.new Z W q h))
  have hcv5 := fun (W : World) (o : Obj) (q : Nat) (h : q = W.heap.size) => hcv _ q (Has40.drew (Has40.alloc Z _ o _ (Has40.new Z W q h)))
  go_enter Try.func16, Try.ntmps16
  go_wp2_with fail
  go_region_law (first
    | (go_simp; go_at_call 18; refine (ideal_any _).mono ?_; rintro e w1 ⟨rfl, hI, hB⟩; (try simp at hI);
        (first
          | with_reducible have hh3 := Has40.below hB _ (hasNew0 Z _)
          | with_reducible have hh3 := Has40.below hB _ (hasNew1 Z _ _)
          | with_reducible have hh3 := Has40.below hB _ (Has40.alloc Z _ _ _ (hasNew0 Z _))
          | with_reducible have hh3 := Has40.below hB _ (Has40.drew (hasNew0 Z _))
          | with_reducible have hh3 := Has40.below hB _ (Has40.drew (hasNew1 Z _ _))
          | with_reducible have hh3 := Has40.below hB _ (Has40.drew (Has40.alloc Z _ _ _ (hasNew0 Z _)))
          | skip);
        (try simp only [World.size_alloc, drew_size] at hh3);
        (first
          | with_reducible have hA := Blk.belowW (sigNew0 _) hB
          | with_reducible have hA := Blk.belowW (sigNew1 _ _) hB
          | with_reducible have hA := Blk.belowW ((sigNew0 _).alloc _) hB
          | with_reducible have hA := Blk.belowW (sigNew0 _).drew1 hB
          | with_reducible have hA := Blk.belowW (sigNew1 _ _).drew1 hB
          | with_reducible have hA := Blk.belowW ((sigNew0 _).alloc _).drew1 hB
          | skip);
        (try simp only [World.size_alloc, drew_size] at hA))
    | (go_simp; go_at_call 19; (first | with_reducible refine (sign_awake _ _ _ _ hI z40_size).mono ?_ | with_reducible refine (sign_awake _ _ _ _ (hI.alloc _) z40_size).mono ?_ | with_reducible refine (sign_awake _ _ _ _ ((hI.alloc _).alloc _) z40_size).mono ?_); rintro e w2 ⟨aw, kw, av, kv, rfl, hg⟩; have hm := book_m hI;
        (first
          | with_reducible have hA2 := sig_blk hg _ (sigNew1 _ _) (by simp at hm ⊢; omega)
          | with_reducible have hA2 := sig_blk hg _ (sigNew0 _) (by simp at hm ⊢; omega)
          | with_reducible have hA2 := sig_blk hg _ ((sigNew0 _).alloc _) (by simp at hm ⊢; omega)
          | with_reducible have hA2 := sig_blk hg _ hA (by omega)
          | with_reducible have hA2 := sig_blk hg _ (hA.alloc _) (by omega)
          | skip);
        (first
          | have a0 := hA2.cell (i := 0) rfl; have a1 := hA2.cell (i := 1) rfl; have a2 := hA2.cell (i := 2) rfl; have a3 := hA2.cell (i := 3) rfl; have f0 := hA2.frozen 0; have f1 := hA2.frozen 1; have f2 := hA2.frozen 2; have f3 := hA2.frozen 3
          | skip)))
  all_goals (
    have hw1 : Below w.heap.size w w1 := by
      refine bl_next ?_ hB
      repeat' (first | exact Below.refl _ _ | refine bl_alloc ?_ _ | refine bl_drew ?_)
    have hw2 : Below w.heap.size w w2 := by
      refine bl_grow ?_ hg (by omega)
      repeat' (first | exact hw1 | refine bl_alloc ?_ _)
    first
    | (have hq := blk_q hA2 w.heap.size (by omega)
       have hb := (((hA2.set 0 (.int .i64 16)).set 1 (.int .i64 40)).set 2 (.slice aw 3 kw)).set 3 (.slice av 3 kv)
       have hw3 := bl_set (bl_set (bl_set (bl_set hw2 _ 0 (.int .i64 16) hq) _ 1 (.int .i64 40) hq) _ 2 (.slice aw 3 kw) hq) _ 3 (.slice av 3 kv) hq
       have c2 := hb.cell (i := 2) rfl
       clear a0 a1 a2 a3 f0 f1 f2 f3)
    | (have hb := Blk.new w2 [.int .i64 16, .int .i64 40, .slice aw 3 kw, .slice av 3 kv] 31
       have hw3 := bl_alloc hw2 (.cells #[.int .i64 16, .int .i64 40, .slice aw 3 kw, .slice av 3 kv] 31)
       have c2 := hb.cell (i := 2) rfl)
    have c3 := hb.cell (i := 3) rfl
    have HW3 := Lib.hid hw3
    clear hb hw3 hw1 hw2 hmk hcv hcv1 hcv2 hcv3 hcv4 hcv5)
  go_wp2_with fail
  all_goals (
    refine (block_any _ 257 (by decide)).mono ?_
    rintro e w4 ⟨rfl, hw4⟩
    rw [← hw4] at c2 c3 HW3
    clear hw4
    rw [show blk 257 = 32 from rfl]
    go_wp2
    go_ret
    exact ⟨rfl, HW3.out⟩)
theorem awake_sign (w : World) : Calls Try.prog 16 #[] w fun e w' => e = .returned (.bool true) ∧ Below w.heap.size w w' := awake_core w Z40 z40_make z40_conv
end Go.Proofs.Ytfcfgkhdlpgbdaa
