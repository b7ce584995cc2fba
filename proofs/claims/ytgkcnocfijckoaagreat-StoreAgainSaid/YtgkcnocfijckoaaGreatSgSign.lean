/- sign's Sign under an ideal book. Conditions: as named in each theorem. -/
import Derived.Test.YtgkcnocfijckoaaGreatQB
import Derived.Test.YtgkcnocfijckoaaGreatQR
import Derived.Test.YtgkcnocfijckoaaGreatStepAppend
import Derived.Test.YtgkcnocfijckoaaGreatQC
import Derived.Maps.Range
import Derived.Laws.ResultCell
import Derived.Deep.RegionHeldLaw
namespace Go.Proofs.YtgkcnocfijckoaaGreat.Sg
open Go.RowKit
set_option linter.unusedVariables false
set_option linter.unusedSimpArgs false
/-- how many blocks a text of a size has -/
def cnt (size block : Nat) : Nat := (size + block - 1) / block
def piece (s : ByteArray) (block i : Nat) : ByteArray := s.extract (i * block) ((i + 1) * block)
def pieces (s : ByteArray) (block n : Nat) : List ByteArray := (List.range n).map (piece s block)
theorem pieces_succ (s : ByteArray) (block n : Nat) : pieces s block (n + 1) = pieces s block n ++ [piece s block n] := by unfold pieces; rw [List.range_succ, List.map_append]; rfl
theorem pieces_len (s : ByteArray) (block n : Nat) : (pieces s block n).length = n := by simp [pieces]
theorem piece_end (s : ByteArray) (block i : Nat) : s.extract (i * block) (min ((i + 1) * block) s.size) = piece s block i := by
  unfold piece
  apply ByteArray.ext
  rw [ByteArray.data_extract, ByteArray.data_extract]
  have : s.data.size = s.size := rfl
  apply Array.ext
  · simp only [Array.size_extract]; omega
  · intro k h1 h2; simp
theorem cnt_spec {size block : Nat} (hb : 0 < block) (i : Nat) : i < cnt size block ↔ i * block < size := by
  unfold cnt
  rw [Nat.lt_div_iff_mul_lt hb]
  omega
theorem cnt_le {size block : Nat} (hb : 0 < block) : cnt size block ≤ size := by
  unfold cnt
  rw [Nat.div_le_iff_le_mul_add_pred hb]
  have : size ≤ block * size := Nat.le_mul_of_pos_left _ hb
  omega
def bytesOf (s : ByteArray) : List UInt8 := s.data.toList
def weakI (s : ByteArray) : Int := ((weak (bytesOf s) : Nat) : Int)
/-- texts are marked, one behind the other -/
abbrev Bk := List (List UInt8)
def markS (z : Bk × List ByteArray) (p : ByteArray) : Bk × List ByteArray := (addS z.1 (bytesOf p), z.2 ++ [numS (z.1.idxOf (bytesOf p) + 1)])
def marksOf (seen : Bk) (l : List ByteArray) : Bk × List ByteArray := l.foldl markS (seen, [])
theorem marksOf_snoc (seen : Bk) (l : List ByteArray) (p : ByteArray) : marksOf seen (l ++ [p]) = markS (marksOf seen l) p := by unfold marksOf; rw [List.foldl_append]; rfl
theorem marksOf_len (seen : Bk) (l : List ByteArray) : (marksOf seen l).2.length = l.length := by
  have h : ∀ (l : List ByteArray) (z : Bk × List ByteArray), (l.foldl markS z).2.length = z.2.length + l.length := by
    intro l
    induction l with
    | nil => intro z; rfl
    | cons p l ih => intro z; rw [List.foldl_cons, ih]; unfold markS; simp; omega
  unfold marksOf
  rw [h]; simp
theorem marksOf_seen (seen : Bk) (l : List ByteArray) : (marksOf seen l).1 = (l.map bytesOf).foldl addS seen := by
  have h : ∀ (l : List ByteArray) (z : Bk × List ByteArray), (l.foldl markS z).1 = (l.map bytesOf).foldl addS z.1 := by
    intro l
    induction l with
    | nil => intro z; rfl
    | cons p l ih => intro z; rw [List.foldl_cons, ih]; rfl
  exact h l _
theorem fold_addS_len (l : Bk) : ∀ seen : Bk, (l.foldl addS seen).length ≤ seen.length + l.length := by
  induction l with
  | nil => intro seen; simp
  | cons s l ih => intro seen; rw [List.foldl_cons]; have := ih (addS seen s); have := addS_len seen s; simp only [List.length_cons]; omega
end Go.Proofs.YtgkcnocfijckoaaGreat.Sg
namespace Go.Proofs.YtgkcnocfijckoaaGreat.Sg
open Go.RowKit
set_option linter.unusedVariables false
set_option linter.unusedSimpArgs false
theorem sgFits_any (w : World) (b : Int) (R : Bool) (hr : decide (16 ≤ b ∧ b ≤ 1024) = R) :
    Calls Tryz.prog 102 #[.int .i64 b] w fun e w' => e = .returned (.bool R) ∧ w = w' := by
  go_enter Tryz.func102, Tryz.ntmps102
  by_cases h1 : 16 ≤ b
  · by_cases h2 : b ≤ 1024
    · have hR : R = true := by rw [← hr]; simp [h1, h2]
      subst hR
      clear hr
      go_wp2
      go_ret
      exact ⟨rfl, rfl⟩
    · have hR : R = false := by rw [← hr]; simp [h2]
      subst hR
      clear hr
      go_wp2
      go_ret
      exact ⟨rfl, rfl⟩
  · have hR : R = false := by rw [← hr]; simp [h1]
    subst hR
    clear hr
    go_wp2
    go_ret
    exact ⟨rfl, rfl⟩
theorem sgCount_any (w : World) (size block : Nat) (hs : size ≤ 524288) (hb : 16 ≤ block) (hb2 : block ≤ 1024) :
    Calls Tryz.prog 103 #[.int .i64 size, .int .i64 block] w fun e w' => e = .returned (.int .i64 (cnt size block : Nat)) ∧ w = w' := by
  have hq : ((size : Int) + block - 1).tdiv (block : Int) = ((cnt size block : Nat) : Int) := by
    have e : (size : Int) + block - 1 = ((size + block - 1 : Nat) : Int) := by omega
    rw [e]; unfold cnt; rfl
  have hb0 : ¬ (block : Int) = 0 := by omega
  have hc : cnt size block ≤ 524288 := Nat.le_trans (cnt_le (by omega)) hs
  obtain ⟨c, hce⟩ : ∃ c, c = cnt size block := ⟨_, rfl⟩
  rw [← hce] at hq hc
  rw [← hce]
  clear hce
  go_enter Tryz.func103, Tryz.ntmps103
  go_wp2
  go_ret
  exact ⟨rfl, rfl⟩
theorem sgPiece_any (w : World) (s : ByteArray) (i block : Nat) (hs : s.size ≤ 524288) (hb : 16 ≤ block) (hb2 : block ≤ 1024) (hi : i * block < s.size) :
    Calls Tryz.prog 104 #[.string s, .int .i64 i, .int .i64 block] w fun e w' => e = .returned (.string (piece s block i)) ∧ w = w' := by
  have hp := piece_end s block i
  have hm : (i + 1) * block = i * block + block := by rw [Nat.add_mul, Nat.one_mul]
  have hil : i ≤ 524288 := by
    have : i * 1 ≤ i * block := Nat.mul_le_mul_left _ (by omega)
    omega
  obtain ⟨a, ha⟩ : ∃ a, a = i * block := ⟨_, rfl⟩
  have h1 : (i : Int) * (block : Int) = (a : Int) := by rw [ha]; exact (Int.natCast_mul _ _).symm
  have h2 : ((i : Int) + 1) * (block : Int) = (a : Int) + block := by rw [Int.add_mul, Int.one_mul, h1]
  rw [hm] at hp
  rw [← ha] at hp hi
  obtain ⟨e, he⟩ : ∃ e, e = min (a + block) s.size := ⟨_, rfl⟩
  rw [← he] at hp
  have hmv : (if (s.size : Int) < (a : Int) + block then (s.size : Int) else (a : Int) + block) = (e : Int) := by rw [he]; split <;> omega
  have hae : a ≤ e := by omega
  have hes : e ≤ s.size := by omega
  have HP := Lib.hid hp
  clear ha he hm hp
  go_enter Tryz.func104, Tryz.ntmps104
  go_wp2
  go_ret
  rw [← HP.out]
  exact ⟨rfl, rfl⟩
end Go.Proofs.YtgkcnocfijckoaaGreat.Sg
namespace Go.Proofs.YtgkcnocfijckoaaGreat.Sg
open Go.RowKit
set_option linter.unusedVariables false
set_option linter.unusedSimpArgs false
def RowI (w : World) (base : Nat) (v : Value) (l : List Int) : Prop := w.ownsRow base 3 1 v l.length (l.map (Value.int .i64))
def RowS (w : World) (base : Nat) (v : Value) (l : List ByteArray) : Prop := w.ownsRow base 9 1 v l.length (l.map Value.string)
theorem RowI.snoc {w : World} {base : Nat} {v : Value} {l : List Int} {x : Int} (h : w.ownsRow base 3 1 v (l.length + 1) (l.map (Value.int .i64) ++ [.int .i64 x])) : RowI w base v (l ++ [x]) := by unfold RowI; simpa using h
theorem RowS.snoc {w : World} {base : Nat} {v : Value} {l : List ByteArray} {x : ByteArray} (h : w.ownsRow base 9 1 v (l.length + 1) (l.map Value.string ++ [.string x])) : RowS w base v (l ++ [x]) := by unfold RowS; simpa using h
theorem infoIntS : (Tryz.prog.info? 3).map (fun i => (i.zero, i.size, i.bytes)) = some (some (.int .i64 0), 1, 8) := by kernel_rfl
theorem infoStrS : (Tryz.prog.info? 9).map (fun i => (i.zero, i.size, i.bytes)) = some (some (.string ByteArray.empty), 1, 16) := by kernel_rfl
theorem sigZ_run (w : World) : (zeroValue 136).run Tryz.prog w = .ok (.agg #[.int .i64 0, .int .i64 0, .slice none 0 0, .slice none 0 0]) w := by kernel_rfl
def sigZ : List Value := [.int .i64 0, .int .i64 0, .slice none 0 0, .slice none 0 0]
theorem sg_new (w : World) (x : Value) (e : TypeId) : ∀ j u, [x][j]? = some u → (w.alloc (.cells #[x] e)).cell? ((⟨w.heap.size, 0, none⟩ : Addr).add j) = some u := by
  intro j u hj
  have := (Blk.new w [x] e).cell hj
  have hadd : (⟨w.heap.size, 0, none⟩ : Addr).add j = ⟨w.heap.size, j, none⟩ := by unfold Addr.add; split <;> simp_all
  rw [hadd]; exact this
structure SgR (w wr : World) (p m p6 p8 : Nat) (b z : Int) (wv sv : Value) (LI : List Int) (SN : Bk) (LS : List ByteArray) : Prop where
  g : Blk wr p8 [.int .i64 b, .int .i64 z, wv, sv] 136
  z : Blk wr p6 [.int .i64 0, .int .i64 0, .slice none 0 0, .slice none 0 0] 136
  i : RowI wr (p8 + 1) wv LI
  s : RowS wr (p8 + 1) sv LS
  ap : ApartR wv sv
  k : BookI wr p m SN
  gw : w.grownBy wr (some m)
  pw : p < w.heap.size
  mw : m < w.heap.size
  w6 : w.heap.size ≤ p6
  p68 : p6 < p8
section
variable {w wr : World} {p m p6 p8 : Nat} {b z : Int} {wv sv : Value} {LI : List Int} {SN : Bk} {LS : List ByteArray}
theorem SgR.drew (h : SgR w wr p m p6 p8 b z wv sv LI SN LS) : SgR w wr.drew p m p6 p8 b z wv sv LI SN LS :=
  ⟨h.g, h.z, h.i, h.s, h.ap, h.k, grown_drew h.gw, h.pw, h.mw, h.w6, h.p68⟩
theorem SgR.alloc (h : SgR w wr p m p6 p8 b z wv sv LI SN LS) (o : Obj) : SgR w (wr.alloc o) p m p6 p8 b z wv sv LI SN LS :=
  ⟨h.g.alloc _, h.z.alloc _, World.ownsRow.alloc h.i _, World.ownsRow.alloc h.s _, h.ap, h.k.grown (World.grownBy_alloc wr o none) (by simp) (by simp), grown_alloc h.gw _, h.pw, h.mw, h.w6, h.p68⟩
theorem SgR.mark (h : SgR w wr p m p6 p8 b z wv sv LI SN LS) {w' : World} {SN' : Bk} (hk : BookI w' p m SN') (hg : wr.grownBy w' (some m)) : SgR w w' p m p6 p8 b z wv sv LI SN' LS := by
  have h1 := h.pw; have h2 := h.mw; have h3 := h.w6; have h4 := h.p68
  refine ⟨h.g.grown hg (by simp; omega), h.z.grown hg (by simp; omega), World.ownsRow.kept h.i hg ?_, World.ownsRow.kept h.s hg ?_, h.ap, hk, h.gw.trans hg, h1, h2, h3, h4⟩
  · exact .inr fun e => by have := (World.ownsRow.lt h.i m e).1; omega
  · exact .inr fun e => by have := (World.ownsRow.lt h.s m e).1; omega
theorem own_ne {u : Value} {r : Option Nat} (h : ∀ j, r = some j → u.ownBlock ≠ some j) : u.ownBlock = none ∨ u.ownBlock ≠ r := by
  cases hu : u.ownBlock with
  | none => exact .inl rfl
  | some j => exact .inr fun e => h j e.symm hu
theorem SgR.weak (h : SgR w wr p m p6 p8 b z wv sv LI SN LS) {w5 : World} {v5 : Value} {x : Int} (ho : w5.ownsRow (p8 + 1) 3 1 v5 (LI.length + 1) (LI.map (Value.int .i64) ++ [.int .i64 x]))
    (hg : wr.grownBy w5 wv.ownBlock) (hb : v5.ownBlock = wv.ownBlock ∨ ∃ q, sv.ownBlock ≠ some q ∧ v5.ownBlock = some q) : SgR w (w5.setCell ⟨p8, 2, none⟩ v5) p m p6 p8 b z v5 sv (LI ++ [x]) SN LS := by
  have h1 := h.pw; have h2 := h.mw; have h3 := h.w6; have h4 := h.p68
  have hgs : w5.grownBy (w5.setCell ⟨p8, 2, none⟩ v5) (some p8) := grown_set (grown_refl _ _) 2 _
  have far : ∀ q, q ≤ p8 → some q ≠ wv.ownBlock := fun q hq e => by have := (World.ownsRow.lt h.i q e.symm).1; omega
  have hgw : w.grownBy (w5.setCell ⟨p8, 2, none⟩ v5) (some m) := (h.gw.andThen hg (fun j e => .inl (by have := (World.ownsRow.lt h.i j e).1; omega))).andThen hgs (fun j e => .inl (by simp only [Option.some.injEq] at e; omega))
  refine ⟨(h.g.grown hg (far p8 (by omega))).set 2 v5, (h.z.grown hg (far p6 (by omega))).setOther (by simp; omega) v5, RowI.snoc (World.ownsRow.kept ho hgs ?_), World.ownsRow.kept (World.ownsRow.kept h.s hg (own_ne h.ap)) hgs ?_, ?_, (h.k.grown hg (far p (by omega)) (far m (by omega))).grown hgs (by simp; omega) (by simp; omega), hgw, h1, h2, h3, h4⟩
  · exact .inr fun e => by have := (World.ownsRow.lt ho p8 e).1; omega
  · exact .inr fun e => by have := (World.ownsRow.lt h.s p8 e).1; omega
  · intro j hj e
    rcases hb with hb | ⟨q, hq, hb⟩
    · exact h.ap j (by rw [← hb]; exact hj) e
    · rw [hb] at hj; simp only [Option.some.injEq] at hj; subst hj; exact hq e
theorem SgR.strong (h : SgR w wr p m p6 p8 b z wv sv LI SN LS) {w5 : World} {v5 : Value} {x : ByteArray} (ho : w5.ownsRow (p8 + 1) 9 1 v5 (LS.length + 1) (LS.map Value.string ++ [.string x]))
    (hg : wr.grownBy w5 sv.ownBlock) (hb : v5.ownBlock = sv.ownBlock ∨ ∃ q, wv.ownBlock ≠ some q ∧ v5.ownBlock = some q) : SgR w (w5.setCell ⟨p8, 3, none⟩ v5) p m p6 p8 b z wv v5 LI SN (LS ++ [x]) := by
  have h1 := h.pw; have h2 := h.mw; have h3 := h.w6; have h4 := h.p68
  have hgs : w5.grownBy (w5.setCell ⟨p8, 3, none⟩ v5) (some p8) := grown_set (grown_refl _ _) 3 _
  have far : ∀ q, q ≤ p8 → some q ≠ sv.ownBlock := fun q hq e => by have := (World.ownsRow.lt h.s q e.symm).1; omega
  have hgw : w.grownBy (w5.setCell ⟨p8, 3, none⟩ v5) (some m) := (h.gw.andThen hg (fun j e => .inl (by have := (World.ownsRow.lt h.s j e).1; omega))).andThen hgs (fun j e => .inl (by simp only [Option.some.injEq] at e; omega))
  refine ⟨(h.g.grown hg (far p8 (by omega))).set 3 v5, (h.z.grown hg (far p6 (by omega))).setOther (by simp; omega) v5, World.ownsRow.kept (World.ownsRow.kept h.i hg (own_ne (fun j hj e => h.ap j e hj))) hgs ?_, RowS.snoc (World.ownsRow.kept ho hgs ?_), ?_, (h.k.grown hg (far p (by omega)) (far m (by omega))).grown hgs (by simp; omega) (by simp; omega), hgw, h1, h2, h3, h4⟩
  · exact .inr fun e => by have := (World.ownsRow.lt h.i p8 e).1; omega
  · exact .inr fun e => by have := (World.ownsRow.lt ho p8 e).1; omega
  · intro j hj e
    rcases hb with hb | ⟨q, hq, hb⟩
    · rw [hb] at e; exact h.ap j hj e
    · rw [hb] at e; simp only [Option.some.injEq] at e; subst e; exact hq hj
theorem SgR.done (h : SgR w wr p m p6 p8 b z wv sv LI SN LS) {w' : World} (hg : wr.grownBy w' (some p6)) : RowI w' w.heap.size wv LI ∧ RowS w' w.heap.size sv LS ∧ BookI w' p m SN ∧ w.grownBy w' (some m) := by
  have h1 := h.pw; have h2 := h.mw; have h3 := h.w6; have h4 := h.p68
  refine ⟨owns_mono (World.ownsRow.kept h.i hg ?_) (by omega), owns_mono (World.ownsRow.kept h.s hg ?_) (by omega), h.k.grown hg (by simp; omega) (by simp; omega), h.gw.andThen hg (fun j e => .inl (by simp only [Option.some.injEq] at e; omega))⟩
  · exact .inr fun e => by have := (World.ownsRow.lt h.i p6 e).1; omega
  · exact .inr fun e => by have := (World.ownsRow.lt h.s p6 e).1; omega
end
theorem fresh_ne {w : World} {base : Nat} {e : TypeId} {size n : Nat} {v : Value} {xs : List Value} (h : w.ownsRow base e size v n xs) : v.ownBlock ≠ some w.heap.size := fun e => by have := (World.ownsRow.lt h _ e).2; omega
set_option maxRecDepth 100000 in
set_option maxHeartbeats 2000000 in
theorem sign_ideal (w : World) (p m : Nat) (seen : List (List UInt8)) (s : ByteArray) (block : Nat) (h : BookI w p m seen) (hs : s.size ≤ 524288) (hb : 16 ≤ block) (hb2 : block ≤ 1024) (hsn : seen.length ≤ 90000000) :
    Calls Tryz.prog 82 #[.pointer (some ⟨p, 0, none⟩), .string s, .int .i64 block] w fun e w' => ∃ wv sv, e = .returned (.tuple #[.agg #[.int .i64 block, .int .i64 s.size, wv, sv], .int .i64 0]) ∧
      RowI w' w.heap.size wv ((pieces s block (cnt s.size block)).map weakI) ∧ RowS w' w.heap.size sv (marksOf seen (pieces s block (cnt s.size block))).2 ∧ BookI w' p m (marksOf seen (pieces s block (cnt s.size block))).1 ∧ w.grownBy w' (some m) := by
  obtain ⟨i0, hi, hz0, hz1, hz2⟩ := info_parts infoIntS
  obtain ⟨i1, hj, hy0, hy1, hy2⟩ := info_parts infoStrS
  have hsz := sigZ_run
  have hpm := h.2.2.2.2.1
  obtain ⟨n, hn⟩ : ∃ n, n = cnt s.size block := ⟨_, rfl⟩
  have hnl : n ≤ 524288 := by rw [hn]; exact Nat.le_trans (cnt_le (by omega)) hs
  have HN := Lib.hid hn
  rw [← hn]
  obtain ⟨V, hV⟩ : ∃ V, V = (w.alloc (Obj.cells #[.int .i64 0, .int .i64 0, .slice none 0 0, .slice none 0 0] 136)).alloc (Obj.cells #[.int .i64 block, .int .i64 s.size, .slice none 0 0, .slice none 0 0] 136) := ⟨_, rfl⟩
  obtain ⟨p6, hp6⟩ : ∃ q, q = w.heap.size := ⟨_, rfl⟩
  obtain ⟨p8, hp8⟩ : ∃ q, q = w.heap.size + 1 := ⟨_, rfl⟩
  have hZ : Blk V p6 [.int .i64 0, .int .i64 0, .slice none 0 0, .slice none 0 0] 136 := by rw [hV, hp6]; exact (Blk.new w _ _).alloc _
  have hG : Blk V p8 [.int .i64 block, .int .i64 s.size, .slice none 0 0, .slice none 0 0] 136 := by
    have := Blk.new (w.alloc (Obj.cells #[.int .i64 0, .int .i64 0, .slice none 0 0, .slice none 0 0] 136)) [.int .i64 block, .int .i64 s.size, .slice none 0 0, .slice none 0 0] 136
    rw [World.size_alloc] at this
    rw [hV, hp8]; exact this
  have hgV : w.grownBy V (some m) := by rw [hV]; exact grown_alloc (grown_alloc (grown_refl _ _) _) _
  have hKV : BookI V p m seen := by
    refine h.below (B := w.heap.size) ?_ hpm.1 hpm.2
    rw [hV]; exact ((Below.refl _ _).alloc (Nat.le_refl _) _).alloc (by simp) _
  have HR : Hid (SgR w V p m p6 p8 block s.size (.slice none 0 0) (.slice none 0 0) [] seen []) := Lib.hid ⟨hG, hZ, World.ownsRow_nil _ _ _ _, World.ownsRow_nil _ _ _ _, (fun j hj => by simp [Value.ownBlock] at hj), hKV, hgV, hpm.1, hpm.2, by omega, by omega⟩
  have HV := Lib.hid hV
  have HP6 := Lib.hid hp6
  have HP8 := Lib.hid hp8
  clear hV hp6 hp8 h hpm hn hZ hG hgV hKV
  go_enter Tryz.func82, Tryz.ntmps82
  go_wp2_with fail
  refine (sgFits_any _ block true (by simp; omega)).mono ?_
  rintro e w1 ⟨rfl, rfl⟩
  go_wp2_with fail
  refine (sgCount_any _ s.size block hs hb hb2).mono ?_
  rintro e w2 ⟨rfl, rfl⟩
  rw [← HN.out]
  go_wp2
  rw [← HP8.out, ← HP6.out, ← HV.out]
  go_loopw [27] (fun i wr => ∃ (k : Nat) (wv sv : Value), i = .int .i64 k ∧ k ≤ n ∧ SgR w wr p m p6 p8 block s.size wv sv ((pieces s block k).map weakI) (marksOf seen (pieces s block k)).1 (marksOf seen (pieces s block k)).2) (fun i _ => n - (intOf i).toNat)
  case atStart => exact ⟨0, _, _, rfl, by omega, HR.out⟩
  case round =>
    clear HR
    obtain ⟨k, wv, sv, rfl, hk, hR⟩ := hrel
    have hsl := marksOf_len seen (pieces s block k)
    have hsn2 := fold_addS_len ((pieces s block k).map bytesOf) seen
    rw [← marksOf_seen, List.length_map] at hsn2
    rw [pieces_len] at hsl hsn2
    have hil : ((pieces s block k).map weakI).length = k := by rw [List.length_map, pieces_len]
    have hps := pieces_succ s block k
    have hms := marksOf_snoc seen (pieces s block k) (piece s block k)
    by_cases hlt : k < n
    · have hkb : k * block < s.size := (cnt_spec (by omega) k).1 (by rw [← HN.out]; exact hlt)
      have hIe : (pieces s block (k + 1)).map weakI = (pieces s block k).map weakI ++ [weakI (piece s block k)] := by rw [hps, List.map_append]; rfl
      rw [← hps] at hms
      have hpz : (piece s block k).size ≤ 524288 := by unfold piece; rw [ByteArray.size_extract]; omega
      obtain ⟨P, hP⟩ : ∃ P, P = piece s block k := ⟨_, rfl⟩
      rw [← hP] at hms hIe hpz
      obtain ⟨LI, hLI⟩ : ∃ L, L = (pieces s block k).map weakI := ⟨_, rfl⟩
      obtain ⟨MK, hMK⟩ : ∃ M, M = marksOf seen (pieces s block k) := ⟨_, rfl⟩
      rw [← hLI] at hR hil hIe
      rw [← hMK] at hR hms hsl hsn2
      obtain ⟨SN, LS⟩ := MK
      simp only at hR hsl hsn2
      have HIE := Lib.hid hIe
      have HMS := Lib.hid hms
      have HP := Lib.hid hP
      have HIL := Lib.hid hil
      have HSL := Lib.hid hsl
      obtain ⟨aw, kw, rfl⟩ := slice_of hR.i
      obtain ⟨av, kv, rfl⟩ := slice_of hR.s
      have HR := Lib.hid hR
      have c2 := hR.g.cell (i := 2) rfl
      have wI := weakI P
      obtain ⟨WV, hWV⟩ : ∃ W : Int, W = weakI P := ⟨_, rfl⟩
      have hwe : ((weak P.data.toList : Nat) : Int) = WV := hWV.symm
      have HWV := Lib.hid hWV
      have a0 : (wr.alloc (Obj.cells #[.int .i64 WV] 3)).cell? ⟨p8, 2, none⟩ = some (.slice aw LI.length kw) := (hR.g.alloc _).cell (i := 2) rfl
      have hIa : Hid (wr.ownsRow (p8 + 1) 3 1 (.slice aw LI.length kw) LI.length (LI.map (Value.int .i64))) := Lib.hid hR.i
      have hp8w := hR.g.lt
      clear hP hIe hms hps hLI hMK hil hsl hR wI hWV
      go_wp2_with fail
      refine (sgPiece_any _ s k block hs hb hb2 hkb).mono ?_
      rintro e w3 ⟨rfl, rfl⟩
      rw [← HP.out]
      go_wp2_with fail
      go_region_law (first
        | (refine step_append_at rfl (.tmp 35) (.tmp 38) 49 rfl (p8 + 1) 3 i0 (.int .i64 0) 1 8 Tryz.underlying49 hi hz0 hz1 hz2 rfl (by decide) (.slice aw LI.length kw) LI.length (LI.map (Value.int .i64)) (by simp [Act.eval]) (World.ownsRow.alloc (w := wr.drew) hIa.out _) ⟨wr.heap.size, 0, none⟩ 1 1 [.int .i64 WV] (by simp [Act.eval]) rfl (sg_new wr.drew _ _) (by intro u hu; simp only [List.mem_singleton] at hu; subst hu; rfl) (by rw [HIL.out]; unfold maxLen; omega) (by rw [HIL.out]; omega) (by simp; omega) ?_; intro v' w5 hO5 hg5 hrb; obtain ⟨ao5, cap5, rfl⟩ := slice_of hO5; have hG5 := (HR.out.drew.alloc _).g.grown hg5 (fun e => by have := (World.ownsRow.lt hIa.out p8 e.symm).1; omega); have c5 := hG5.cell (i := 2) rfl; have f5 := hG5.frozen 2)
        | (go_simp; go_at_call 105; refine (rollSum_any P _ hpz).mono ?_; rintro e w' ⟨rfl, rfl⟩; rw [hwe]))
      all_goals (
        have hR6 := (HR.out.drew.alloc _).weak hO5 hg5 (hrb.imp id (fun e => ⟨_, fresh_ne (HR.out.drew.alloc _).s, e⟩))
        obtain ⟨w6, hw6⟩ : ∃ W, W = w5.setCell ⟨p8, 2, none⟩ (.slice ao5 (LI.length + 1) cap5) := ⟨_, rfl⟩
        rw [← hw6] at hR6
        rw [← hw6]
        clear hw6 hG5 c5 f5 hO5 hg5 hrb a0 c2 hIa HR w5 hp8w
        obtain ⟨MB, hMB⟩ : ∃ M, M = numS (SN.idxOf (bytesOf P) + 1) := ⟨_, rfl⟩
        have HC := Lib.hid (mark_ideal w6.drew p m SN P hR6.k (Nat.le_trans hpz (by decide)) (by omega))
        change Hid (Calls _ _ _ _ (fun e w' => e = .returned (.string (numS (SN.idxOf (bytesOf P) + 1))) ∧ _)) at HC
        rw [← hMB] at HC
        have HMB := Lib.hid hMB
        have c3 := hR6.g.cell (i := 3) rfl
        have HR := Lib.hid hR6
        clear hMB hR6
        go_wp2_with fail
        go_region_law (first
          | (go_simp; go_at_call 46; refine HC.out.mono ?_; rintro e w7 ⟨rfl, hK7, hg7⟩; have hR7 := HR.out.drew.mark hK7 hg7; have c7 := hR7.g.cell (i := 3) rfl; have a7 : (w7.alloc (Obj.cells #[.string MB] 9)).cell? ⟨p8, 3, none⟩ = some (.slice av LS.length kv) := (hR7.g.alloc _).cell (i := 3) rfl; have hp8w := hR7.g.lt; have HR7 := Lib.hid hR7; have HSa := Lib.hid hR7.s; clear hK7 hg7 hR7)
          | (refine step_append_at rfl (.tmp 42) (.tmp 46) 75 rfl (p8 + 1) 9 i1 (.string ByteArray.empty) 1 16 Tryz.underlying75 hj hy0 hy1 hy2 rfl (by decide) (.slice av LS.length kv) LS.length (LS.map Value.string) (by simp [Act.eval]) (World.ownsRow.alloc HSa.out _) ⟨_, 0, none⟩ 1 1 [.string MB] (by simp [Act.eval]) rfl (sg_new _ _ _) (by intro u hu; simp only [List.mem_singleton] at hu; subst hu; rfl) (by rw [HSL.out]; unfold maxLen; omega) (by rw [HSL.out]; omega) (by simp; omega) ?_; intro v' w8 hO8 hg8 hrb; obtain ⟨ao8, cap8, rfl⟩ := slice_of hO8; have hG8 := (HR7.out.alloc _).g.grown hg8 (fun e => by have := (World.ownsRow.lt HSa.out p8 e.symm).1; omega); have c8 := hG8.cell (i := 3) rfl; have f8 := hG8.frozen 3))
        all_goals (
          have hR9 := (HR7.out.alloc _).strong hO8 hg8 (hrb.imp id (fun e => ⟨_, fresh_ne (HR7.out.alloc _).i, e⟩))
          obtain ⟨w9, hw9⟩ : ∃ W, W = w8.setCell ⟨p8, 3, none⟩ (.slice ao8 (LS.length + 1) cap8) := ⟨_, rfl⟩
          rw [← hw9] at hR9
          rw [← hw9]
          have HR9 := Lib.hid hR9
          clear hw9 hR9 hG8 c8 f8 hO8 hg8 hrb c7 a7 HR7 HSa c3 HC HR hp8w w8
          go_wp2
          go_round
          case rel =>
            refine ⟨k + 1, .slice ao5 (LI.length + 1) cap5, .slice ao8 (LS.length + 1) cap8, rfl, by omega, ?_⟩
            rw [HIE.out, HMS.out, ← HWV.out]
            simp only [markS]
            rw [← HMB.out]
            exact HR9.out
          case measure => simp [intOf]; omega))
    · have hkn : k = n := by omega
      subst hkn
      obtain ⟨LI, hLI⟩ : ∃ L, L = (pieces s block k).map weakI := ⟨_, rfl⟩
      obtain ⟨MK, hMK⟩ : ∃ M, M = marksOf seen (pieces s block k) := ⟨_, rfl⟩
      rw [← hLI] at hR
      rw [← hMK] at hR
      have HLI := Lib.hid hLI
      have HMK := Lib.hid hMK
      obtain ⟨SN, LS⟩ := MK
      simp only at hR
      have HR := Lib.hid hR
      obtain ⟨aw, kw, rfl⟩ := slice_of hR.i
      obtain ⟨av, kv, rfl⟩ := slice_of hR.s
      have g0 := hR.g.cell (i := 0) rfl
      have g1 := hR.g.cell (i := 1) rfl
      have g2 := hR.g.cell (i := 2) rfl
      have g3 := hR.g.cell (i := 3) rfl
      have z0 := hR.z.cell (i := 0) rfl
      have z1 := hR.z.cell (i := 1) rfl
      have z2 := hR.z.cell (i := 2) rfl
      have z3 := hR.z.cell (i := 3) rfl
      have f0 := hR.z.frozen 0
      have f1 := hR.z.frozen 1
      have f2 := hR.z.frozen 2
      have f3 := hR.z.frozen 3
      clear hR hps hms hsl hsn2 hil hLI hMK
      go_wp2
      refine bodyPost_ret (res_cell_row rfl _ _ p6 136 _ (0, 0) _ rfl ((((HR.out.z.set 0 _).set 1 _).set 2 _).set 3 _) Tryz.underlying136 rfl (by kernel_rfl)) rfl ?_
      obtain ⟨d1, d2, d3, d4⟩ := HR.out.done (grown_set (grown_set (grown_set (grown_set (grown_refl wr (some p6)) 0 (.int .i64 block)) 1 (.int .i64 s.size)) 2 (.slice aw LI.length kw)) 3 (.slice av LS.length kv))
      rw [← HLI.out, ← HMK.out]
      exact ⟨_, _, rfl, d1, d2, d3, d4⟩
end Go.Proofs.YtgkcnocfijckoaaGreat.Sg
