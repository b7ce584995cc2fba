/- A text by its steps: length, laid, cut. Conditions: as named in each theorem. -/
import Derived.Test.YtabdmcgfiabaoaaChSearch
import Derived.Test.YtabdmcgfiabaoaaDlRights
namespace Go.Proofs.Ytabdmcgfiabaoaa
open Go.RowKit
set_option linter.unusedVariables false
theorem infoInt : (Try.prog.info? 3).map (fun i => (i.zero, i.size, i.bytes)) = some (some (.int .i64 0), 1, 8) := by kernel_rfl
theorem textZ_run (w : World) : (zeroValue 83).run Try.prog w = .ok (.agg #[.slice none 0 0, .slice none 0 0]) w := by kernel_rfl
set_option maxHeartbeats 1000000 in
theorem length_any (w : World) (p n : Int) (t : ByteArray) (hn0 : 0 ≤ n) (hn1 : n ≤ 1000000000) (ht : t.size ≤ 1000000000) :
    Calls Try.prog 41 #[.agg #[.int .i64 p, .int .i64 n, .string t]] w fun e w' => e = .returned (.int .i64 (n + t.size)) ∧ Below w.heap.size w w' := by
  have hB : Below w.heap.size w (w.alloc (Obj.cells #[.int .i64 p, .int .i64 n, .string t] 55)) := below_alloc _ _
  have c1 := (Blk.new w [.int .i64 p, .int .i64 n, .string t] 55).cell (i := 1) rfl
  have c2 := (Blk.new w [.int .i64 p, .int .i64 n, .string t] 55).cell (i := 2) rfl
  go_enter Try.func41, Try.ntmps41
  go_wp2
  go_ret
  exact ⟨rfl, hB⟩
/-- a piece of a step -/
def chCutS (x : St) (off k : Nat) : St := if x.text.size ≠ 0 then ⟨0, 0, x.text.extract off (off + k)⟩ else ⟨x.pos + off, k, ByteArray.empty⟩
set_option maxHeartbeats 1000000 in
theorem chCut_any (w : World) (p n : Int) (t : ByteArray) (off k : Nat) (hx : rightS ⟨p, n, t⟩) (hk : off + k ≤ sum1 ⟨p, n, t⟩) :
    Calls Try.prog 43 #[.agg #[.int .i64 p, .int .i64 n, .string t], .int .i64 off, .int .i64 k] w fun e w' => e = .returned (.agg #[.int .i64 (chCutS ⟨p, n, t⟩ off k).pos, .int .i64 (chCutS ⟨p, n, t⟩ off k).len, .string (chCutS ⟨p, n, t⟩ off k).text]) ∧ Below w.heap.size w w' := by
  have hgz := stepZ_run
  obtain ⟨r1, r2, r3, r4, r5⟩ := rightS_sum hx
  simp only at r1 r2 r3 r5
  have c0 := (Blk.new w [.int .i64 p, .int .i64 n, .string t] 55).cell (i := 0) rfl
  have c1 := (Blk.new w [.int .i64 p, .int .i64 n, .string t] 55).cell (i := 1) rfl
  have c2 := (Blk.new w [.int .i64 p, .int .i64 n, .string t] 55).cell (i := 2) rfl
  have hs1 : sum1 ⟨p, n, t⟩ = t.size + n.toNat := rfl
  rw [hs1] at hk
  by_cases ht : t.size ≠ 0
  · have hne := strNe ht
    have hts := hx.1 ht
    have hn0 : n = 0 := hts.2.1
    have hkt : off + k ≤ t.size := by omega
    have hcs : chCutS ⟨p, n, t⟩ off k = ⟨0, 0, t.extract off (off + k)⟩ := if_pos ht
    rw [hcs]
    clear hcs hts hn0 ht hk r4 r5 hs1 hx
    have hBK : Blk ((w.alloc (Obj.cells #[.int .i64 p, .int .i64 n, .string t] 55)).alloc (Obj.cells #[.int .i64 0, .int .i64 0, .string (t.extract off (off + k))] 55)) (w.heap.size + 1) [.int .i64 0, .int .i64 0, .string (t.extract off (off + k))] 55 := by
      have := Blk.new (w.alloc (Obj.cells #[.int .i64 p, .int .i64 n, .string t] 55)) [.int .i64 0, .int .i64 0, .string (t.extract off (off + k))] 55
      rw [World.size_alloc] at this; exact this
    have hB : Below w.heap.size w ((w.alloc (Obj.cells #[.int .i64 p, .int .i64 n, .string t] 55)).alloc (Obj.cells #[.int .i64 0, .int .i64 0, .string (t.extract off (off + k))] 55)) := (below_alloc w _).alloc (by simp) _
    have HBK := Lib.hid hBK
    have HB := Lib.hid hB
    clear hBK hB
    go_enter Try.func43, Try.ntmps43
    go_wp2
    refine bodyPost_ret (results_cell_row rfl _ _ (w.heap.size + 1) 55 _ (0, 0) _ rfl HBK.out Try.underlying55 rfl (by kernel_rfl)) rfl ?_
    exact ⟨rfl, HB.out⟩
  · have ht0 : t.size = 0 := by omega
    obtain rfl := strEmpty ht0
    have hcp := hx.2 rfl
    unfold copyS at hcp
    simp only at hcp
    obtain ⟨q1, q2, q3, q4⟩ := hcp
    have hcs : chCutS ⟨p, n, ByteArray.empty⟩ off k = ⟨p + off, k, ByteArray.empty⟩ := rfl
    have hof : off ≤ 524288 := by have : ByteArray.empty.size = 0 := rfl; omega
    have hkk : k ≤ 524288 := by have : ByteArray.empty.size = 0 := rfl; omega
    rw [hcs]
    clear hcs ht hk r4 r5 hs1 hx r3
    have hBK : Blk ((w.alloc (Obj.cells #[.int .i64 p, .int .i64 n, .string ByteArray.empty] 55)).alloc (Obj.cells #[.int .i64 (p + off), .int .i64 k, .string ByteArray.empty] 55)) (w.heap.size + 1) [.int .i64 (p + off), .int .i64 k, .string ByteArray.empty] 55 := by
      have := Blk.new (w.alloc (Obj.cells #[.int .i64 p, .int .i64 n, .string ByteArray.empty] 55)) [.int .i64 (p + off), .int .i64 k, .string ByteArray.empty] 55
      rw [World.size_alloc] at this; exact this
    have hB : Below w.heap.size w ((w.alloc (Obj.cells #[.int .i64 p, .int .i64 n, .string ByteArray.empty] 55)).alloc (Obj.cells #[.int .i64 (p + off), .int .i64 k, .string ByteArray.empty] 55)) := (below_alloc w _).alloc (by simp) _
    have HBK := Lib.hid hBK
    have HB := Lib.hid hB
    clear hBK hB
    go_enter Try.func43, Try.ntmps43
    go_wp2
    refine bodyPost_ret (results_cell_row rfl _ _ (w.heap.size + 1) 55 _ (0, 0) _ rfl HBK.out Try.underlying55 rfl (by kernel_rfl)) rfl ?_
    exact ⟨rfl, HB.out⟩
def fromTo (l : List St) (n : Nat) : List Int := (List.range n).map fun k => ((sum2 (l.take k) : Nat) : Int)
theorem fromTo_succ (l : List St) (n : Nat) : fromTo l (n + 1) = fromTo l n ++ [((sum2 (l.take n) : Nat) : Int)] := by unfold fromTo; rw [List.range_succ, List.map_append]; rfl
theorem fromTo_len (l : List St) (n : Nat) : (fromTo l n).length = n := by simp [fromTo]
def intV (l : List Int) : List Value := l.map (Value.int .i64)
def OwnI (w : World) (base : Nat) (v : Value) (l : List Int) : Prop := w.ownsRow base 3 1 v l.length (intV l)
theorem OwnI.snoc {w : World} {base : Nat} {v : Value} {l : List Int} {x : Int} (h : w.ownsRow base 3 1 v (l.length + 1) (intV l ++ [.int .i64 x])) : OwnI w base v (l ++ [x]) := by
  unfold OwnI intV at *; simpa using h
theorem OwnI.below {w w' : World} {base : Nat} {v : Value} {l : List Int} (h : OwnI w base v l) (hb : Below w.heap.size w w') : OwnI w' base v l := World.ownsRow.kept h (below_grown hb none) (by cases v.ownBlock <;> simp)
theorem OwnI.row_ge {w : World} {base : Nat} {v : Value} {l : List Int} (h : OwnI w base v l) : ∀ j, v.ownBlock = some j → base ≤ j := fun j hj => (World.ownsRow.lt h j hj).1
theorem OwnI.rs {w : World} {base n cap : Nat} {ao : Option Addr} {l : List Int} (hn : l.length = n) (h : OwnI w base (.slice ao n cap) l) : Rs w ao n cap 1 l intC := by
  subst hn
  have e : l.flatMap intC = intV l := by unfold intV; rw [List.map_eq_flatMap]; rfl
  have h2 : w.ownsRow base 3 1 (.slice ao l.length cap) l.length (l.flatMap intC) := by rw [e]; exact h
  exact Rs.of_owns (f := intC) (fun _ => rfl) rfl h2
theorem cell1_new2 (w : World) (o : Obj) (x : Value) (e : TypeId) : ∀ j u, [x][j]? = some u → ((w.alloc o).alloc (.cells #[x] e)).cell? ((⟨w.heap.size + 1, 0, none⟩ : Addr).add j) = some u := by
  have h := cells_new (w.alloc o) [x] e
  rwa [World.size_alloc] at h
theorem int_one (x : Int) : ∀ u ∈ [Value.int .i64 x], u.oneCell' = true := by
  intro u hu; simp only [List.mem_singleton] at hu; subst hu; rfl
set_option maxRecDepth 100000 in
set_option maxHeartbeats 1000000 in
theorem laid_any (w : World) (ao : Option Addr) (len cap : Nat) (l : List St) (hR : Rs w ao len cap 3 l St.c) (hr : ∀ x ∈ l, rightS x) (hn : len ≤ 1000000) (hs : sum2 l ≤ 1000000) :
    Calls Try.prog 33 #[.slice ao len cap] w fun e w' => ∃ (pt : Nat) (fv : Value), e = .returned (.pointer (some ⟨pt, 0, none⟩)) ∧ w.heap.size ≤ pt ∧ Blk w' pt [.slice ao len cap, fv] 83 ∧ OwnI w' w.heap.size fv (fromTo l len) ∧ Below w.heap.size w w' := by
  obtain ⟨i0, hi, hz0, hz1, hz2⟩ := info_parts infoInt
  have hgz := stepZ_run
  have htz := textZ_run
  have HLEN := Lib.hid hR.2.2.1
  obtain ⟨W0, hW0⟩ : ∃ W0, W0 = w.alloc (Obj.cells #[.slice ao len cap, .slice none 0 0] 83) := ⟨_, rfl⟩
  obtain ⟨pt, hpt⟩ : ∃ pt, pt = w.heap.size := ⟨_, rfl⟩
  have hX0 : Blk W0 pt [.slice ao len cap, .slice none 0 0] 83 := by rw [hW0, hpt]; exact Blk.new w _ _
  have hB0 : Below w.heap.size w W0 := by rw [hW0]; exact below_alloc _ _
  have hS0 : pt + 1 ≤ W0.heap.size := hX0.lt
  have hwpt : w.heap.size ≤ pt := by omega
  have HW0 := Lib.hid hW0
  have HPT := Lib.hid hpt
  clear hW0 hpt
  go_enter Try.func33, Try.ntmps33
  go_wp2
  rw [← HPT.out, ← HW0.out]
  go_loopw [4, 12] (fun v i wr => ∃ (k : Nat) (fv : Value), i = .int .i64 k ∧ k ≤ len ∧ v = .int .i64 (sum2 (l.take k) : Nat) ∧ Blk wr pt [.slice ao len cap, fv] 83 ∧ OwnI wr (pt + 1) fv (fromTo l k) ∧ Below w.heap.size w wr ∧ pt + 1 ≤ wr.heap.size) (fun _ i _ => len - (intOf i).toNat)
  case atStart => exact ⟨0, _, rfl, by omega, rfl, hX0, World.ownsRow_nil _ _ _ _, hB0, hS0⟩
  case round =>
    clear hX0 hB0 hS0
    obtain ⟨k, fv, rfl, hk, rfl, hX, hO, hB, hS⟩ := hrel
    by_cases hlt : k < len
    · obtain ⟨b, off, rfl, hbw, hc⟩ := rs_s hR (by omega)
      have hks : k < l.length := by rw [HLEN.out]; exact hlt
      obtain ⟨c0, c1, c2⟩ := hc k hks
      have hrx := hr _ (List.getElem_mem hks)
      have hsu := sum2_succ l k hks
      have hst := sum2_take l (k + 1)
      have hfs := fromTo_succ l k
      have hfl := fromTo_len l k
      obtain ⟨x, hx⟩ : ∃ x, x = l[k] := ⟨_, rfl⟩
      rw [← hx] at c0 c1 c2 hrx hsu
      obtain ⟨S, hSe⟩ : ∃ S, S = sum2 (l.take k) := ⟨_, rfl⟩
      rw [← hSe] at hsu hfs
      rw [← hSe]
      obtain ⟨F, hF⟩ : ∃ F, F = fromTo l k := ⟨_, rfl⟩
      rw [← hF] at hfs hO hfl
      obtain ⟨p, n, t⟩ := x
      obtain ⟨r1, r2, r3, r4, r5⟩ := rightS_sum hrx
      simp only at r1 r2 r3 r5
      have d0 := (hB.cell (p := ⟨b, off + k * 3, none⟩) hbw).trans c0
      have d1 := (hB.cell (p := ⟨b, off + k * 3 + 1, none⟩) hbw).trans c1
      have d2 := (hB.cell (p := ⟨b, off + k * 3 + 2, none⟩) hbw).trans c2
      simp only at d0 d1 d2
      have hsum : ((sum2 (l.take (k + 1)) : Nat) : Int) = (S : Int) + (n + t.size) := by omega
      have hSl : S ≤ 1000000 := by omega
      have HS := Lib.hid hsum
      have HFS := Lib.hid hfs
      have i1 : (k : Int) < (len : Int) := by omega
      obtain ⟨V, hV⟩ : ∃ V, V = wr.alloc (Obj.cells #[.int .i64 p, .int .i64 n, .string t] 55) := ⟨_, rfl⟩
      have hXV : Blk V pt [.slice (some ⟨b, off, none⟩) len cap, fv] 83 := by rw [hV]; exact hX.alloc _
      have hYV : Blk V wr.heap.size [.int .i64 p, .int .i64 n, .string t] 55 := by rw [hV]; exact Blk.new wr _ _
      have hOV : OwnI V (pt + 1) fv F := by rw [hV]; exact World.ownsRow.alloc hO _
      have hBV : Below w.heap.size w V := by rw [hV]; exact hB.alloc hB.size _
      have hSV : pt + 1 ≤ V.heap.size := by rw [hV]; simp; omega
      have hyq : some wr.heap.size ≠ fv.ownBlock := fun e => by have := (World.ownsRow.lt hO _ e.symm).2; omega
      have hyp : wr.heap.size ≠ pt := by omega
      have x1 := hXV.cell (i := 1) rfl
      rw [hV] at x1 hXV hYV hOV hBV hSV
      have HYV := Lib.hid hYV
      have HXV := Lib.hid hXV
      have HBV := Lib.hid hBV
      clear c0 c1 c2 hc hx hsu hst hF hSe hks hrx r4 r5 hsum hfs hX hO hB hXV hYV hBV hV
      go_wp2_with (at_builtin; refine wpList_append_own _ rfl _ _ 73 rfl (pt + 1) 3 i0 (.int .i64 0) 1 8 Try.underlying73 hi hz0 hz1 hz2 rfl (by decide) _ _ _ rfl (World.ownsRow.alloc hOV _) ⟨wr.heap.size + 1, 0, none⟩ 1 1 [.int .i64 S] rfl rfl (cell1_new2 wr _ _ _) (int_one _) (by unfold maxLen; omega) (by omega) (by simp; omega) ?_; intro v' w5 hO5 hg5 _; obtain ⟨ao5, cap5, rfl⟩ := owns_slice hO5; have hX5 := (HXV.out.alloc _).grown hg5 (fun e => by have := hOV.row_ge pt e.symm; omega); have x5 := hX5.cell (i := 1) rfl; have f5 := hX5.frozen 1; have hY5 := (HYV.out.alloc _).grown hg5 (fun e => hyq e); have y0 := hY5.cell (i := 0) rfl; have y1 := hY5.cell (i := 1) rfl; have y2 := hY5.cell (i := 2) rfl)
      refine (length_any _ p n t r1 (by omega) (by omega)).mono ?_
      rintro e w6 ⟨rfl, hb6⟩
      have hO7 : OwnI w5 (pt + 1) (.slice ao5 (k + 1) cap5) (fromTo l (k + 1)) := by rw [HFS.out]; exact OwnI.snoc (by rw [hfl] at hO5 ⊢; exact hO5)
      have hO8 : OwnI (w5.setCell ⟨pt, 1, none⟩ (.slice ao5 (k + 1) cap5)) (pt + 1) (.slice ao5 (k + 1) cap5) (fromTo l (k + 1)) := World.ownsRow.kept hO7 (grown_set (grown_refl w5 (some pt)) 1 _) (.inr (fun e => by have := hO7.row_ge pt e; omega))
      have hX8 : Blk (w5.setCell ⟨pt, 1, none⟩ (.slice ao5 (k + 1) cap5)) pt [.slice (some ⟨b, off, none⟩) len cap, .slice ao5 (k + 1) cap5] 83 := hX5.set 1 _
      have hB8 : Below w.heap.size w (w5.setCell ⟨pt, 1, none⟩ (.slice ao5 (k + 1) cap5)) := ((HBV.out.alloc HBV.out.size _).grown hg5 (by have := HBV.out.size; simp at *; omega) (fun j hj => by have := hOV.row_ge j hj; omega)).setCell hwpt _
      have hS8 : pt + 1 ≤ (w5.setCell ⟨pt, 1, none⟩ (.slice ao5 (k + 1) cap5)).heap.size := hX8.lt
      have hO9 := hO8.below hb6
      have hX9 := hX8.below hb6 hX8.lt
      have hB9 := hB8.trans (hb6.mono hB8.size)
      have hS9 := Nat.le_trans hS8 hb6.size
      clear hO7 hO8 hX8 hB8 hS8 hO5 hg5 hX5 x5 f5 hY5 y0 y1 y2 hOV hSV x1 hb6
      go_wp2
      go_roundw
      case rel => exact ⟨k + 1, _, by go_num, by omega, by rw [HS.out], hX9, hO9, hB9, hS9⟩
      case measure => simp [intOf]; omega
    · have hkk : k = len := by omega
      subst hkk
      have hO2 : OwnI wr w.heap.size fv (fromTo l k) := by
        refine ⟨hO.1, ?_⟩
        rcases hO.2 with h1 | ⟨g, cp, cur, h1, h2, h3⟩
        · exact .inl h1
        · exact .inr ⟨g, cp, cur, h1, by omega, h3⟩
      go_wp2
      go_ret
      exact ⟨pt, fv, rfl, hwpt, hX, hO2, hB⟩
end Go.Proofs.Ytabdmcgfiabaoaa
