/- The ideal book: Ideal, Ready, Mark, Is. Conditions: as named in each theorem. -/
import Derived.Test.YtgkcnocfijckoaaGreatQA
import Derived.Maps.OwnSet
namespace Go.Proofs.YtgkcnocfijckoaaGreat
open Go.RowKit Go.Maps
set_option linter.unusedVariables false
theorem keyStr : Keyed Tryz.prog 9 := string_keyed Tryz.underlying9
theorem zeroInt (w : World) : (zeroValue 3).run Tryz.prog w = .ok (.int .i64 0) w := by kernel_rfl
/-- the texts behind one more -/
def addS (seen : List (List UInt8)) (s : List UInt8) : List (List UInt8) := if s ∈ seen then seen else seen ++ [s]
/-- the map of a book reads as the texts that were numbered -/
def BookD (D : DataW Unit) (seen : List (List UInt8)) : Prop :=
  Maps.Tidy D ∧ Maps.size D = seen.length ∧ (∀ s, Maps.has D (.string s) = decide (s ∈ seen)) ∧ ∀ s, s ∈ seen → D.atKey (.string s) (.lit (.int .i64 0)) = .lit (.int .i64 (seen.idxOf s + 1 : Nat))
theorem BookD.nil : BookD (.map []) [] := ⟨Maps.tidy_empty, rfl, fun s => rfl, fun s hs => by cases hs⟩
theorem BookD.add {D : DataW Unit} {seen : List (List UInt8)} (h : BookD D seen) (s : List UInt8) (hs : s ∉ seen) : BookD (D.put (.string s) (.lit (.int .i64 (seen.length + 1 : Nat)))) (seen ++ [s]) := by
  obtain ⟨h0, h1, h2, h3⟩ := h
  have hk : WideAt.IsKeyLit (.string s) := by simp [WideAt.IsKeyLit]
  have hh : Maps.has D (.string s) = false := by rw [h2]; simp [hs]
  refine ⟨h0.put hk _, ?_, fun t => ?_, fun t ht => ?_⟩
  · rw [Maps.size_put h0, hh]; simp [h1]
  · by_cases e : t = s
    · subst e; rw [Maps.has_put_same h0.isMap hk]; simp
    · rw [Maps.has_put_other (by intro e2; cases e2; exact e rfl), h2]; simp [e]
  · by_cases e : t = s
    · subst e
      rw [Maps.atKey_put_same h0.isMap hk, List.idxOf_append]
      simp [hs]
    · have ht2 : t ∈ seen := by simpa [e] using ht
      rw [Maps.atKey_put_other (by intro e2; cases e2; exact e rfl), h3 t ht2, List.idxOf_append, if_pos ht2]
def BookI (w : World) (p m : Nat) (seen : List (List UInt8)) : Prop :=
  w.cell? ⟨p, 72, none⟩ = some (.bool false) ∧ w.cell? ⟨p, 73, none⟩ = some (.map (some m)) ∧ w.cell? ⟨p, 74, none⟩ = some (.bool true) ∧ p ≠ m ∧ (p < w.heap.size ∧ m < w.heap.size) ∧
  ∃ D : DataW Unit, w.ownsMap Tryz.prog 9 (plainElem Tryz.prog 3) m seen.length D ∧ BookD D seen
theorem BookI.grown {w w' : World} {p m : Nat} {seen : List (List UInt8)} (h : BookI w p m seen) {row : Option Nat} (hg : w.grownBy w' row) (h1 : some p ≠ row) (h2 : some m ≠ row) : BookI w' p m seen := by
  obtain ⟨a, b, c, d, ⟨l1, l2⟩, D, hD, hB⟩ := h
  exact ⟨hg.cell a h1, hg.cell b h1, hg.cell c h1, d, ⟨Nat.lt_of_lt_of_le l1 hg.size, Nat.lt_of_lt_of_le l2 hg.size⟩, D, hD.kept hg h2, hB⟩
theorem BookI.below {w w' : World} {p m : Nat} {seen : List (List UInt8)} (h : BookI w p m seen) {B : Nat} (hb : Below B w w') (h1 : p < B) (h2 : m < B) : BookI w' p m seen := by
  obtain ⟨a, b, c, d, ⟨l1, l2⟩, D, ⟨es, clock, hx, F, hs, hD⟩, hB⟩ := h
  exact ⟨by rw [hb.cell (p := ⟨p, 72, none⟩) h1]; exact a, by rw [hb.cell (p := ⟨p, 73, none⟩) h1]; exact b, by rw [hb.cell (p := ⟨p, 74, none⟩) h1]; exact c, d, ⟨Nat.lt_of_lt_of_le l1 hb.size, Nat.lt_of_lt_of_le l2 hb.size⟩, D, ⟨es, clock, by rw [hb.block m h2]; exact hx, F, hs, hD⟩, hB⟩
def bookZ : Array Value := (List.replicate 72 (Value.int .u32 0) ++ [Value.bool false, Value.map none, Value.bool false]).toArray
theorem bookZ_size : bookZ.size = 75 := by simp [bookZ]
theorem bookZ_run (w : World) : (zeroValue 125).run Tryz.prog w = .ok (.agg bookZ) w := by kernel_rfl
theorem ideal_any (w : World) : Calls Tryz.prog 38 #[] w fun e w' => e = .returned (.pointer (some ⟨w.heap.size + 1, 0, none⟩)) ∧ BookI w' (w.heap.size + 1) w.heap.size [] ∧ Below w.heap.size w w' := by
  have hmm := @run_makeMap Tryz.prog
  have hz := bookZ_run
  have hs := bookZ_size
  go_enter Tryz.func38, Tryz.ntmps38
  go_wp2
  go_ret
  refine ⟨rfl, ?_, ((Below.refl _ _).alloc (Nat.le_refl _) _).alloc (by simp) _⟩
  have hc : ∀ i v, ((bookZ.setIfInBounds 74 (Value.bool true)).setIfInBounds 73 (Value.map (some w.heap.size)))[i]? = some v →
      ((w.alloc (Obj.map #[] 0)).alloc (Obj.cells ((bookZ.setIfInBounds 74 (Value.bool true)).setIfInBounds 73 (Value.map (some w.heap.size))) 125)).cell? ⟨w.heap.size + 1, i, none⟩ = some v := by
    intro i v hv
    have := World.cell?_alloc_new (w.alloc (Obj.map #[] 0)) ((bookZ.setIfInBounds 74 (Value.bool true)).setIfInBounds 73 (Value.map (some w.heap.size))) 125 i
    rw [World.size_alloc] at this
    rw [this, hv]
  refine ⟨hc 72 _ (by simp [bookZ]), hc 73 _ (by simp [bookZ]), hc 74 _ (by simp [bookZ]), by omega, by simp; omega, .map [], ?_, BookD.nil⟩
  exact (World.ownsMap_made _ _ _ _).alloc _
theorem none_ideal (w : World) (p m : Nat) (seen : List (List UInt8)) (h : BookI w p m seen) :
    Calls Tryz.prog 76 #[.pointer (some ⟨p, 0, none⟩)] w fun e w' => e = .returned (.bool false) ∧ w = w' := by
  obtain ⟨a, b, c, _⟩ := h
  go_enter Tryz.func76, Tryz.ntmps76
  go_wp2
  go_ret
  exact ⟨rfl, rfl⟩
theorem idx_some {seen : List (List UInt8)} {s : List UInt8} (h : s ∈ seen) : seen.idxOf s + 1 ≤ seen.length := List.idxOf_lt_length_of_mem h
set_option maxRecDepth 100000 in
theorem mark_ideal (w : World) (p m : Nat) (seen : List (List UInt8)) (s : ByteArray) (h : BookI w p m seen) (hs : s.size ≤ maxLen) (hn : seen.length ≤ 1000000000000) :
    Calls Tryz.prog 46 #[.pointer (some ⟨p, 0, none⟩), .string s] w fun e w' =>
      e = .returned (.string (numS (seen.idxOf s.data.toList + 1))) ∧ BookI w' p m (addS seen s.data.toList) ∧ w.grownBy w' (some m) := by
  have hI := Lib.hid h
  obtain ⟨a, b, c, d, hl, D, hD, hB⟩ := h
  have hkey := Go.WideMaps.keyOf_string_mk (P := Tryz.prog) (k := 9) Tryz.underlying9 (s := s) hs
  by_cases hmem : s.data.toList ∈ seen
  · have hh : Maps.has D (.string s.data.toList) = true := by rw [hB.2.2.1]; simp [hmem]
    have hat := hB.2.2.2 _ hmem
    have hle := idx_some hmem
    clear hB
    go_enter Tryz.func46, Tryz.ntmps46
    go_wp2_with fail
    refine (none_ideal _ _ _ _ hI.out).mono ?_
    rintro e w' ⟨rfl, rfl⟩
    go_wp2_with (at_lookup; refine wpList_lookup_own_ok_int _ rfl _ _ 118 rfl 9 3 .i64 keyStr Tryz.underlying118 Tryz.underlying3 (zeroInt _) m seen.length D rfl hD _ _ rfl hkey ?_; intro cc hcc hwc)
    have e : cc = ((seen.idxOf s.data.toList + 1 : Nat) : Int) := by
      rw [hat] at hcc; simpa using hcc.symm
    subst e
    refine (numbered_any _ _ (by omega)).mono ?_
    rintro e w' ⟨rfl, hb⟩
    go_wp2
    go_ret
    refine ⟨rfl, ?_, below_grown hb _⟩
    rw [addS, if_pos hmem]
    exact BookI.below hI.out hb hl.1 hl.2
  · have hh : Maps.has D (.string s.data.toList) = false := by rw [hB.2.2.1]; simp [hmem]
    have hsz := Lib.hid hB.2.1
    have hB2 := BookD.add hB _ hmem
    have hix : seen.idxOf s.data.toList = seen.length := List.idxOf_eq_length hmem
    have HX := Lib.hid hix
    have hlen := hD.len Tryz.underlying118 3
    rw [hsz.out] at hlen
    clear hB hix
    go_enter Tryz.func46, Tryz.ntmps46
    go_wp2_with fail
    refine (none_ideal _ _ _ _ hI.out).mono ?_
    rintro e w' ⟨rfl, rfl⟩
    go_wp2_with (first | (at_lookup; refine wpList_lookup_own_ok_int _ rfl _ _ 118 rfl 9 3 .i64 keyStr Tryz.underlying118 Tryz.underlying3 (zeroInt _) m seen.length D rfl hD _ _ rfl hkey ?_; intro cc hcc hwc) | (at_mapUpdate; refine wpList_mapUpdate_own _ rfl _ _ _ 118 rfl 9 3 keyStr Tryz.underlying118 _ m seen.length D rfl hD (by unfold maxLen; omega) _ _ _ rfl rfl hkey (.lit (.int .i64 ((seen.length : Int) + 1))) [] (plainElem_int Tryz.underlying3 (WalkArith.wf_i64 (by omega))) ?_; intro w1 hown1 hgrow1))
    have hown2 : w1.ownsMap Tryz.prog 9 (plainElem Tryz.prog 3) m (seen ++ [s.data.toList]).length (D.put (.string s.data.toList) (.lit (.int .i64 (seen.length + 1 : Nat)))) := by
      rw [List.length_append]; exact hown1
    clear hown1 hcc hwc hh hlen hD
    have hp1 : some p ≠ some m := by intro e; exact d (by injection e)
    have hI2 : BookI w1 p m (addS seen s.data.toList) := by
      rw [addS, if_neg hmem]
      exact ⟨hgrow1.cell a hp1, hgrow1.cell b hp1, hgrow1.cell c hp1, d, ⟨Nat.lt_of_lt_of_le hl.1 hgrow1.size, Nat.lt_of_lt_of_le hl.2 hgrow1.size⟩, _, hown2, hB2⟩
    clear hown2 hB2 a b c
    go_wp2_with fail
    refine (numbered_any (seen.length + 1) _ (by omega)).mono ?_
    rintro e w' ⟨rfl, hb⟩
    go_wp2
    go_ret
    refine ⟨by rw [HX.out]; rfl, BookI.below hI2 hb (Nat.lt_of_lt_of_le hl.1 hgrow1.size) (Nat.lt_of_lt_of_le hl.2 hgrow1.size), grown_trans hgrow1 (below_grown hb _)⟩
set_option maxRecDepth 100000 in
theorem is_ideal (w : World) (p m : Nat) (seen : List (List UInt8)) (s mk : ByteArray) (h : BookI w p m seen) (hs : s.size ≤ maxLen) (hn : seen.length ≤ 1000000000000) :
    Calls Tryz.prog 63 #[.pointer (some ⟨p, 0, none⟩), .string s, .string mk] w fun e w' =>
      e = .returned (.bool (decide (s.data.toList ∈ seen ∧ mk.data.toList = numB (seen.idxOf s.data.toList + 1)))) ∧ Below w.heap.size w w' := by
  obtain ⟨r, hr⟩ : ∃ r, r = decide (s.data.toList ∈ seen ∧ mk.data.toList = numB (seen.idxOf s.data.toList + 1)) := ⟨_, rfl⟩
  rw [← hr]
  have hI := Lib.hid h
  obtain ⟨a, b, c, d, hl, D, hD, hB⟩ := h
  have hkey := Go.WideMaps.keyOf_string_mk (P := Tryz.prog) (k := 9) Tryz.underlying9 (s := s) hs
  by_cases hmem : s.data.toList ∈ seen
  · have hh : Maps.has D (.string s.data.toList) = true := by rw [hB.2.2.1]; simp [hmem]
    have hat := hB.2.2.2 _ hmem
    have hle := idx_some hmem
    obtain ⟨K, hK⟩ : ∃ K, K = seen.idxOf s.data.toList + 1 := ⟨_, rfl⟩
    rw [← hK] at hat hle hr
    clear hB hK
    by_cases hq : mk.data.toList = numB K
    · have hr2 : r = true := by rw [hr]; simp [hmem, hq]
      clear hr
      subst hr2
      clear hmem
      go_enter Tryz.func63, Tryz.ntmps63
      go_wp2_with fail
      refine (none_ideal _ _ _ _ hI.out).mono ?_
      rintro e w' ⟨rfl, rfl⟩
      go_wp2_with (at_lookup; refine wpList_lookup_own_ok_int _ rfl _ _ 118 rfl 9 3 .i64 keyStr Tryz.underlying118 Tryz.underlying3 (zeroInt _) m seen.length D rfl hD _ _ rfl hkey ?_; intro cc hcc hwc)
      have e : cc = ((K : Nat) : Int) := by
        rw [hat] at hcc; simpa using hcc.symm
      subst e
      refine (numbered_any _ _ (by omega)).mono ?_
      rintro e w' ⟨rfl, hb⟩
      have q : ((numS K).toList == mk.toList) = true := beqS_t (by rw [hq]; rfl)
      clear hq
      clear hat hcc hwc hh
      go_wp2
      go_ret
      exact ⟨rfl, hb⟩
    · have hr2 : r = false := by rw [hr]; simp [hq]
      clear hr
      subst hr2
      clear hmem
      go_enter Tryz.func63, Tryz.ntmps63
      go_wp2_with fail
      refine (none_ideal _ _ _ _ hI.out).mono ?_
      rintro e w' ⟨rfl, rfl⟩
      go_wp2_with (at_lookup; refine wpList_lookup_own_ok_int _ rfl _ _ 118 rfl 9 3 .i64 keyStr Tryz.underlying118 Tryz.underlying3 (zeroInt _) m seen.length D rfl hD _ _ rfl hkey ?_; intro cc hcc hwc)
      have e : cc = ((K : Nat) : Int) := by
        rw [hat] at hcc; simpa using hcc.symm
      subst e
      refine (numbered_any _ _ (by omega)).mono ?_
      rintro e w' ⟨rfl, hb⟩
      have q : ((numS K).toList == mk.toList) = false := beqS_f (fun e => hq e.symm)
      clear hq
      clear hat hcc hwc hh
      go_wp2
      go_ret
      exact ⟨rfl, hb⟩
  · have hh : Maps.has D (.string s.data.toList) = false := by rw [hB.2.2.1]; simp [hmem]
    have hr2 : r = false := by rw [hr]; simp [hmem]
    clear hr
    subst hr2
    clear hB
    go_enter Tryz.func63, Tryz.ntmps63
    go_wp2_with fail
    refine (none_ideal _ _ _ _ hI.out).mono ?_
    rintro e w' ⟨rfl, rfl⟩
    go_wp2_with (at_lookup; refine wpList_lookup_own_ok_int _ rfl _ _ 118 rfl 9 3 .i64 keyStr Tryz.underlying118 Tryz.underlying3 (zeroInt _) m seen.length D rfl hD _ _ rfl hkey ?_; intro cc hcc hwc)
    go_ret
    exact ⟨rfl, Below.refl _ _⟩
end Go.Proofs.YtgkcnocfijckoaaGreat
