/- Steps in memory; the reference's Texts. Conditions: as named in each theorem. -/
import Derived.Test.YtgemhgllifhckaaChecked
import Derived.Test.YtgemhgllifhckaaChainMath
import Derived.Test.YtgemhgllifhckaaArgs
import Derived.Deep.LoopGhost
import Derived.OpenShut
namespace Go.Proofs.Ytgemhgllifhckaa
open Go.RowKit
set_option linter.unusedVariables false

def St.c (x : St) : List Value := [.int .i64 x.pos, .int .i64 x.len, .string x.text]
def St.ok (x : St) : Prop := (Lit.int .i64 x.pos).wf = true ∧ (Lit.int .i64 x.len).wf = true ∧ x.text.size ≤ maxLen
theorem stepZ_run (w : World) : (zeroValue 76).run Try.prog w = .ok (.agg #[.int .i64 0, .int .i64 0, .string ByteArray.empty]) w := by kernel_rfl
theorem infoStep : (Try.prog.info? 76).map (fun i => (i.zero, i.size, i.bytes)) = some (some (.agg #[.int .i64 0, .int .i64 0, .string ByteArray.empty]), 3, 32) := by kernel_rfl
theorem cells_new (w : World) (l : List Value) (e : TypeId) : ∀ j u, l[j]? = some u → (w.alloc (.cells l.toArray e)).cell? ((⟨w.heap.size, 0, none⟩ : Addr).add j) = some u := by
  intro j u hj
  have := (Blk.new w l e).cell hj
  have hadd : (⟨w.heap.size, 0, none⟩ : Addr).add j = ⟨w.heap.size, j, none⟩ := by unfold Addr.add; split <;> simp_all
  rw [hadd]; exact this
theorem sc_one (x : St) : ∀ u ∈ x.c, u.oneCell' = true := by
  intro u hu
  simp only [St.c, List.mem_cons, List.not_mem_nil, or_false] at hu
  rcases hu with rfl | rfl | rfl <;> rfl
/-- a list of steps that the walk owns -/
def Own (w : World) (base : Nat) (v : Value) (l : List St) : Prop := w.ownsRow base 76 3 v l.length (l.flatMap St.c)
theorem Own.nil (w : World) (base : Nat) : Own w base (.slice none 0 0) [] := World.ownsRow_nil _ _ _ _
theorem Own.alloc {w : World} {base : Nat} {v : Value} {l : List St} (h : Own w base v l) (o : Obj) : Own (w.alloc o) base v l := World.ownsRow.alloc h o
theorem Own.snoc {w : World} {base : Nat} {v : Value} {l : List St} {x : St} (h : w.ownsRow base 76 3 v (l.length + 1) (l.flatMap St.c ++ x.c)) : Own w base v (l ++ [x]) := by
  unfold Own; simpa using h
theorem Own.row_ge {w : World} {base : Nat} {v : Value} {l : List St} (h : Own w base v l) : ∀ j, v.ownBlock = some j → base ≤ j := fun j hj => (World.ownsRow.lt h j hj).1
theorem below_via {a w w' : World} {B : Nat} (h : Below B a w) (h2 : Below w.heap.size w w') (hB : B ≤ w.heap.size) : Below B a w' := h.trans (h2.mono hB)

theorem strNe {t : ByteArray} (h : t.size ≠ 0) : (t.toList == []) = false := by
  rw [ByteArray.toList_eq]
  cases ht : t.data.toList with
  | nil =>
    exfalso; apply h
    have : t.data.toList.length = 0 := by rw [ht]; rfl
    simpa using this
  | cons a l => rfl
theorem strEmpty {t : ByteArray} (h : t.size = 0) : t = ByteArray.empty := by
  apply ByteArray.ext; apply Array.eq_empty_of_size_eq_zero; exact h
def szOf : Value → Nat
  | .string s => s.size
  | _ => 0
def textsN (s : ByteArray) (n : Nat) : List St := (List.range n).map fun i => ⟨0, 0, s.extract (4096 * i) (4096 * (i + 1))⟩
theorem textsN_succ (s : ByteArray) (n : Nat) : textsN s (n + 1) = textsN s n ++ [⟨0, 0, s.extract (4096 * n) (4096 * (n + 1))⟩] := by
  unfold textsN; rw [List.range_succ, List.map_append]; rfl
theorem textsN_len (s : ByteArray) (n : Nat) : (textsN s n).length = n := by simp [textsN]
theorem texts_eq (s : ByteArray) (n : Nat) (h : n = (s.size + 4095) / 4096) : texts s = textsN s n := by rw [h]; rfl
theorem cut_self (s : ByteArray) : s.extract 0 s.size = s := ByteArray.extract_zero_size
theorem cut_cut (s : ByteArray) (n i j : Nat) (hj : n + j ≤ s.size) : (s.extract n s.size).extract i j = s.extract (n + i) (n + j) := by
  rw [ByteArray.extract_extract, Nat.min_eq_left hj]
theorem cut_over (s : ByteArray) (i j : Nat) (hj : s.size ≤ j) : s.extract i s.size = s.extract i j := by
  apply ByteArray.ext
  rw [ByteArray.data_extract, ByteArray.data_extract]
  apply Array.ext
  · simp only [Array.size_extract]; have : s.data.size = s.size := rfl; omega
  · intro k h1 h2; simp

set_option maxRecDepth 100000 in
set_option maxHeartbeats 2000000 in
theorem refTexts_any (base : Nat) (w : World) (v : Value) (out : List St) (s : ByteArray) (hO : Own w base v out) (hb : base ≤ w.heap.size) (hs : s.size ≤ 100000000) (hn : out.length ≤ 100000000) :
    Calls Try.prog 67 #[v, .string s] w fun e w' => ∃ v', e = .returned v' ∧ Own w' base v' (out ++ texts s) ∧ Below base w w' := by
  obtain ⟨i0, hi, hz0, hz1, hz2⟩ := info_parts infoStep
  have hgz := stepZ_run
  go_enter Try.func67, Try.ntmps67
  go_wp2
  go_loopw [0, 1] (fun a b wr => ∃ (j : Nat) (t : ByteArray), 4096 * j ≤ s.size ∧ b = .string t ∧ t = s.extract (4096 * j) s.size ∧ Own wr base a (out ++ textsN s j) ∧ Below base w wr) (fun a b _ => szOf b)
  case atStart => exact ⟨0, s, by omega, rfl, by rw [Nat.mul_zero, cut_self], by simpa [textsN] using hO, Below.refl _ _⟩
  case round =>
    clear hO
    obtain ⟨j, t, hj, rfl, ht, hO, hB⟩ := hrel
    have hsz : t.size = s.size - 4096 * j := by rw [ht, ByteArray.size_extract]; omega
    have hb2 := Nat.le_trans hb hB.size
    have HS := Lib.hid hsz
    have hts : t.size ≤ 100000000 := by omega
    have hjs : j ≤ 100000000 := by omega
    have hlen : (out ++ textsN s j).length ≤ 200000000 := by rw [List.length_append, textsN_len]; omega
    obtain ⟨L, hL⟩ : ∃ L, L = out ++ textsN s j := ⟨_, rfl⟩
    rw [← hL] at hO hlen
    have HL := Lib.hid hL
    have HT := Lib.hid ht
    clear ht hsz hL
    by_cases hlt : 4096 < t.size
    · have hsz := HS.out
      have hx : t.extract 0 4096 = s.extract (4096 * j) (4096 * (j + 1)) := by rw [HT.out, cut_cut _ _ _ _ (by omega)]; rfl
      have hr : t.extract 4096 t.size = s.extract (4096 * (j + 1)) s.size := by rw [hsz, HT.out, cut_cut _ _ _ _ (by omega)]; congr 1; omega
      have hrs : (t.extract 4096 t.size).size < t.size := by rw [ByteArray.size_extract]; omega
      have HR := Lib.hid hr
      have HRS := Lib.hid hrs
      have HJ : Hid (4096 * (j + 1) ≤ s.size) := Lib.hid (by omega)
      have hsu : out ++ textsN s (j + 1) = L ++ [⟨0, 0, t.extract 0 4096⟩] := by rw [textsN_succ, hx, HL.out, List.append_assoc]
      have HSU := Lib.hid hsu
      clear hx hr hrs hsu hsz hj
      go_wp2_with (at_builtin; refine wpList_append_own _ rfl _ _ 23 rfl base 76 i0 (.agg #[.int .i64 0, .int .i64 0, .string ByteArray.empty]) 3 32 Try.underlying23 hi hz0 hz1 hz2 rfl (by decide) _ _ _ rfl (hO.alloc _) ⟨wr.heap.size, 0, none⟩ 1 1 [.int .i64 0, .int .i64 0, .string (t.extract 0 4096)] rfl rfl (cells_new wr _ _) (sc_one ⟨0, 0, t.extract 0 4096⟩) (by unfold maxLen; omega) (by omega) (by simp; omega) ?_; intro v' w5 hO5 hg5 _)
      have hO6 : Own w5 base v' (out ++ textsN s (j + 1)) := by rw [HSU.out]; exact Own.snoc hO5
      have hB6 : Below base w w5 := (hB.alloc hb2 _).grown hg5 (by simp; omega) hO.row_ge
      clear hO5 hg5
      go_wp2
      go_roundw
      case rel => exact ⟨j + 1, _, HJ.out, rfl, HR.out, hO6, hB6⟩
      case measure => exact HRS.out
    · by_cases h0 : t.size = 0
      · have hte : t = ByteArray.empty := by
          apply ByteArray.ext; apply Array.eq_empty_of_size_eq_zero; exact h0
        have hfin : out ++ texts s = L := by rw [HL.out, texts_eq s j (by have := HS.out; omega)]
        have HF := Lib.hid hfin
        subst hte
        clear hfin h0
        go_wp2
        go_ret
        exact ⟨_, rfl, by rw [HF.out]; exact hO, hB⟩
      · have hne := strNe h0
        have hfin : out ++ texts s = L ++ [⟨0, 0, t⟩] := by
          have := HS.out
          rw [HL.out, texts_eq s (j + 1) (by omega), textsN_succ, List.append_assoc, HT.out, cut_over s _ (4096 * (j + 1)) (by omega)]
        have HF := Lib.hid hfin
        clear hfin
        go_wp2_with (at_builtin; refine wpList_append_own _ rfl _ _ 23 rfl base 76 i0 (.agg #[.int .i64 0, .int .i64 0, .string ByteArray.empty]) 3 32 Try.underlying23 hi hz0 hz1 hz2 rfl (by decide) _ _ _ rfl (hO.alloc _) ⟨wr.heap.size, 0, none⟩ 1 1 [.int .i64 0, .int .i64 0, .string t] rfl rfl (cells_new wr _ _) (sc_one ⟨0, 0, t⟩) (by unfold maxLen; omega) (by omega) (by simp; omega) ?_; intro v' w5 hO5 hg5 _)
        have hO6 : Own w5 base v' (out ++ texts s) := by rw [HF.out]; exact Own.snoc hO5
        have hB6 : Below base w w5 := (hB.alloc hb2 _).grown hg5 (by simp; omega) hO.row_ge
        clear hO5 hg5
        go_wp2
        go_ret
        exact ⟨_, rfl, hO6, hB6⟩
end Go.Proofs.Ytgemhgllifhckaa
