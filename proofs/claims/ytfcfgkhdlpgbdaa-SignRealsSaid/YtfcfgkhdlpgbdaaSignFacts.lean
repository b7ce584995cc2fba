/- What a signature under an ideal book is: plain facts; a block size that is refused; cut. Conditions: as named in each theorem. -/
import Derived.Test.YtfcfgkhdlpgbdaaSignRight2
import Derived.Test.YtfcfgkhdlpgbdaaSignRef3
import Derived.Test.YtfcfgkhdlpgbdaaSignAwake
import Derived.Deep.Cut
namespace Go.Proofs.Ytfcfgkhdlpgbdaa
open Go.RowKit
set_option linter.unusedVariables false

theorem snoc_ind {α : Type} {P : List α → Prop} (h0 : P []) (h1 : ∀ l x, P l → P (l ++ [x])) : ∀ l, P l := by
  intro l
  rw [← List.reverse_reverse l]
  induction l.reverse with
  | nil => exact h0
  | cons x l ih => rw [List.reverse_cons]; exact h1 _ _ ih
theorem marks_take (seen : Bk) : ∀ (L : List ByteArray) (k : Nat) (p mk : ByteArray), L[k]? = some p → (marksOf seen L).2[k]? = some mk → bytesOf p ∈ (marksOf seen L).1 ∧ mk = numS ((marksOf seen L).1.idxOf (bytesOf p) + 1) := by
  refine snoc_ind (by intro k p mk h; simp at h) ?_
  · intro L x ih k p mk h1 h2
    rw [marksOf_snoc] at h2 ⊢
    have hl := marksOf_len seen L
    simp only [markS] at h2 ⊢
    by_cases hk : k < L.length
    · rw [List.getElem?_append_left hk] at h1
      rw [List.getElem?_append_left (by omega)] at h2
      obtain ⟨a, b⟩ := ih k p mk h1 h2
      exact ⟨(mem_addS _ _ _).2 (.inl a), by rw [idx_addS a]; exact b⟩
    · rw [List.getElem?_append_right (by omega)] at h1
      rw [List.getElem?_append_right (by omega)] at h2
      have e : k - L.length = 0 := by
        have := (List.getElem?_eq_some_iff.1 h1).1
        simp at this; omega
      rw [e] at h1
      rw [hl, e] at h2
      simp only [List.getElem?_cons_zero, Option.some.injEq] at h1 h2
      subst h1; subst h2
      exact ⟨(mem_addS _ _ _).2 (.inr rfl), by rw [idx_self]⟩
theorem marks_size (seen : Bk) : ∀ (L : List ByteArray) (t : ByteArray), t ∈ (marksOf seen L).2 → t.size = 32 := by
  refine snoc_ind (by intro t h; simp [marksOf] at h) ?_
  · intro L x ih t h
    rw [marksOf_snoc] at h
    simp only [markS, List.mem_append, List.mem_singleton] at h
    rcases h with h | h
    · exact ih t h
    · rw [h]; exact numS_size _
theorem weakI_bd (s : ByteArray) : 0 ≤ weakI s ∧ weakI s ≤ 4294967295 := by
  unfold weakI
  have := weak_lt (bytesOf s)
  omega
theorem piece_size (s : ByteArray) (block k : Nat) : (piece s block k).size ≤ s.size := by unfold piece; rw [ByteArray.size_extract]; omega
theorem sign_ok (s : ByteArray) (block : Nat) (T : List ByteArray) (hb : 16 ≤ block) (hb2 : block ≤ 1024) (hs : s.size ≤ 524288) (hT : T.length = cnt s.size block) (h32 : ∀ t ∈ T, t.size = 32) : sigOk block s.size ((pieces s block (cnt s.size block)).map weakI) T := by
  have hl : ((pieces s block (cnt s.size block)).map weakI).length = cnt s.size block := by rw [List.length_map, pieces_len]
  refine ⟨by omega, by omega, by omega, by omega, by simpa using hl, by omega, ?_⟩
  intro j hj x t hx ht
  have hx2 := List.mem_of_getElem? hx
  simp only [List.mem_map] at hx2
  obtain ⟨p, _, rfl⟩ := hx2
  have := weakI_bd p
  exact ⟨this.1, this.2, h32 t (List.mem_of_getElem? ht)⟩
theorem flat1 {α : Type} (g : α → Value) (l : List α) : l.flatMap (fun x => [g x]) = l.map g := by
  induction l with
  | nil => rfl
  | cons x l ih => rw [List.flatMap_cons, ih]; rfl
theorem RowI.rs {w : World} {base n cap : Nat} {ao : Option Addr} {l : List Int} (h : RowI w base (.slice ao n cap) l) (hn : l.length = n) : Rs w ao n cap 1 l (fun x => [.int .i64 x]) := by
  refine Rs.of_owns (f := fun x : Int => [Value.int .i64 x]) (size := 1) (base := base) (e := 3) (fun _ => rfl) hn ?_
  rw [flat1]; subst hn; exact h
theorem RowS.rs {w : World} {base n cap : Nat} {ao : Option Addr} {l : List ByteArray} (h : RowS w base (.slice ao n cap) l) (hn : l.length = n) : Rs w ao n cap 1 l (fun x => [.string x]) := by
  refine Rs.of_owns (f := fun x : ByteArray => [Value.string x]) (size := 1) (base := base) (e := 9) (fun _ => rfl) hn ?_
  rw [flat1]; subst hn; exact h
theorem rs_nil {α : Type} (w : World) (f : α → List Value) : Rs w none 0 0 1 ([] : List α) f := ⟨by omega, by decide, rfl, fun h => by omega⟩

/-- a text, or its first bytes -/
def cutS (s : ByteArray) (n : Nat) : ByteArray := if n < s.size then s.extract 0 n else s
theorem cutS_size (s : ByteArray) (n : Nat) : (cutS s n).size ≤ n := by
  unfold cutS
  split
  · rw [ByteArray.size_extract]; omega
  · omega
theorem cut_any (s : ByteArray) (n : Nat) (w : World) (hs : s.size ≤ maxLen) (hn : n ≤ 1000000) :
    Calls Try.prog 17 #[.string s, .int .i64 n] w fun e w' => e = .returned (.string (cutS s n)) ∧ w = w' := by
  unfold maxLen at hs
  by_cases h : n < s.size
  · have HC : Hid (cutS s n = s.extract 0 n) := Lib.hid (by unfold cutS; rw [if_pos h])
    go_enter Try.func17, Try.ntmps17
    go_wp2
    go_ret
    exact ⟨by rw [HC.out]; rfl, rfl⟩
  · have HC : Hid (cutS s n = s) := Lib.hid (by unfold cutS; rw [if_neg h])
    go_enter Try.func17, Try.ntmps17
    go_wp2
    go_ret
    exact ⟨by rw [HC.out]; rfl, rfl⟩

set_option maxHeartbeats 1000000 in
theorem sign_bad (w : World) (v : Value) (s : ByteArray) (block : Int) (wb : (Lit.int .i64 block).wf = true) (hb : ¬ (16 ≤ block ∧ block ≤ 1024)) :
    Calls Try.prog 19 #[v, .string s, .int .i64 block] w fun e w' => e = .returned (.tuple #[.agg #[.int .i64 0, .int .i64 0, .slice none 0 0, .slice none 0 0], .int .i64 1]) ∧ Below w.heap.size w w' := by
  have hsz := sigZ_run
  obtain ⟨V, hV⟩ : ∃ V, V = w.alloc (Obj.cells #[.int .i64 0, .int .i64 0, .slice none 0 0, .slice none 0 0] 31) := ⟨_, rfl⟩
  obtain ⟨p6, hp6⟩ : ∃ q, q = w.heap.size := ⟨_, rfl⟩
  have hZ : Blk V p6 [.int .i64 0, .int .i64 0, .slice none 0 0, .slice none 0 0] 31 := by rw [hV, hp6]; exact Blk.new w _ _
  have hkz : Below w.heap.size w ((((V.setCell ⟨p6, 0, none⟩ (.int .i64 0)).setCell ⟨p6, 1, none⟩ (.int .i64 0)).setCell ⟨p6, 2, none⟩ (.slice none 0 0)).setCell ⟨p6, 3, none⟩ (.slice none 0 0)) := by
    rw [hV, hp6]
    exact (((((bel_alloc w _).setCell (Nat.le_refl _) _).setCell (Nat.le_refl _) _).setCell (Nat.le_refl _) _).setCell (Nat.le_refl _) _)
  have HV := Lib.hid hV
  have HP6 := Lib.hid hp6
  have z0 := hZ.cell (i := 0) rfl
  have z1 := hZ.cell (i := 1) rfl
  have z2 := hZ.cell (i := 2) rfl
  have z3 := hZ.cell (i := 3) rfl
  have f0 := hZ.frozen 0
  have f1 := hZ.frozen 1
  have f2 := hZ.frozen 2
  have f3 := hZ.frozen 3
  have HZ := Lib.hid hZ
  have HB := Lib.hid hkz
  clear hZ hkz hV hp6
  have hf : decide (16 ≤ block ∧ block ≤ 1024) = false := by simpa using hb
  have HF := Lib.hid hf
  clear hf hb
  go_enter Try.func19, Try.ntmps19
  go_wp2_with fail
  refine (sgFits_any _ block false HF.out).mono ?_
  rintro e w1 ⟨rfl, rfl⟩
  rw [← HP6.out, ← HV.out]
  go_wp2
  refine bodyPost_ret (res_cell_row rfl _ _ p6 31 _ (0, 0) _ rfl ((((HZ.out.set 0 _).set 1 _).set 2 _).set 3 _) Try.underlying31 rfl (by kernel_rfl)) rfl ?_
  exact ⟨rfl, HB.out⟩
set_option maxHeartbeats 1000000 in
theorem refSign_bad (w : World) (v : Value) (s : ByteArray) (block : Int) (wb : (Lit.int .i64 block).wf = true) (hb : ¬ (16 ≤ block ∧ block ≤ 1024)) :
    Calls Try.prog 20 #[v, .string s, .int .i64 block] w fun e w' => e = .returned (.tuple #[.agg #[.int .i64 0, .int .i64 0, .slice none 0 0, .slice none 0 0], .int .i64 1]) ∧ Below w.heap.size w w' := by
  have hsz := sigZ_run
  obtain ⟨V, hV⟩ : ∃ V, V = w.alloc (Obj.cells #[.int .i64 0, .int .i64 0, .slice none 0 0, .slice none 0 0] 31) := ⟨_, rfl⟩
  obtain ⟨p6, hp6⟩ : ∃ q, q = w.heap.size := ⟨_, rfl⟩
  have hZ : Blk V p6 [.int .i64 0, .int .i64 0, .slice none 0 0, .slice none 0 0] 31 := by rw [hV, hp6]; exact Blk.new w _ _
  have hkz : Below w.heap.size w ((((V.setCell ⟨p6, 0, none⟩ (.int .i64 0)).setCell ⟨p6, 1, none⟩ (.int .i64 0)).setCell ⟨p6, 2, none⟩ (.slice none 0 0)).setCell ⟨p6, 3, none⟩ (.slice none 0 0)) := by
    rw [hV, hp6]
    exact (((((bel_alloc w _).setCell (Nat.le_refl _) _).setCell (Nat.le_refl _) _).setCell (Nat.le_refl _) _).setCell (Nat.le_refl _) _)
  have HV := Lib.hid hV
  have HP6 := Lib.hid hp6
  have z0 := hZ.cell (i := 0) rfl
  have z1 := hZ.cell (i := 1) rfl
  have z2 := hZ.cell (i := 2) rfl
  have z3 := hZ.cell (i := 3) rfl
  have f0 := hZ.frozen 0
  have f1 := hZ.frozen 1
  have f2 := hZ.frozen 2
  have f3 := hZ.frozen 3
  have HZ := Lib.hid hZ
  have HB := Lib.hid hkz
  clear hZ hkz hV hp6
  by_cases h1 : block < 16
  · clear hb
    go_enter Try.func20, Try.ntmps20
    go_upto_region 1 with fail
    rw [← HP6.out, ← HV.out]
    go_wp2
    refine bodyPost_ret (res_cell_row rfl _ _ p6 31 _ (0, 0) _ rfl ((((HZ.out.set 0 _).set 1 _).set 2 _).set 3 _) Try.underlying31 rfl (by kernel_rfl)) rfl ?_
    exact ⟨rfl, HB.out⟩
  · have h2 : 1024 < block := by omega
    clear hb
    go_enter Try.func20, Try.ntmps20
    go_upto_region 1 with fail
    rw [← HP6.out, ← HV.out]
    go_wp2
    refine bodyPost_ret (res_cell_row rfl _ _ p6 31 _ (0, 0) _ rfl ((((HZ.out.set 0 _).set 1 _).set 2 _).set 3 _) Try.underlying31 rfl (by kernel_rfl)) rfl ?_
    exact ⟨rfl, HB.out⟩
end Go.Proofs.Ytfcfgkhdlpgbdaa
