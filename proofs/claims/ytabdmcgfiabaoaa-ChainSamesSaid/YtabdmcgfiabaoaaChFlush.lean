/- Tidy's flush. Conditions: as named in each theorem. -/
import Derived.Test.YtabdmcgfiabaoaaOwnsBase
import Derived.Test.YtabdmcgfiabaoaaChBytes
import Derived.Deep.RegionLaw
import Derived.Maps.AppendAt
namespace Go.Proofs.Ytabdmcgfiabaoaa
open Go.RowKit
set_option linter.unusedVariables false
/-- of what was there nothing has turned but the blocks p and q and a row of the walk's own -/
structure Most (ro : Option Nat) (p q : Nat) (w w' : World) : Prop where
  os : w'.os = w.os
  tape : w'.tape = w.tape
  output : w'.output = w.output
  size : w.heap.size ≤ w'.heap.size
  block : ∀ k, k < w.heap.size → k ≠ p → k ≠ q → some k ≠ ro → w'.heap[k]? = w.heap[k]?
theorem Most.refl (ro : Option Nat) (p q : Nat) (w : World) : Most ro p q w w := ⟨rfl, rfl, rfl, Nat.le_refl _, fun _ _ _ _ _ => rfl⟩
theorem Most.drew {ro : Option Nat} {p q : Nat} {a w : World} (h : Most ro p q a w) : Most ro p q a w.drew := ⟨h.os, h.tape, h.output, h.size, h.block⟩
theorem Most.drewN {ro : Option Nat} {p q : Nat} {a w : World} (h : Most ro p q a w) (n : Nat) : Most ro p q a (w.drewN n) := ⟨h.os, h.tape, h.output, h.size, h.block⟩
theorem Most.grown {ro : Option Nat} {p q : Nat} {a w w' : World} {row : Option Nat} (h : Most ro p q a w) (hg : w.grownBy w' row) (hr : ∀ k, row = some k → a.heap.size ≤ k ∨ k = p ∨ k = q ∨ ro = some k) : Most ro p q a w' :=
  ⟨hg.os.trans h.os, hg.tape.trans h.tape, hg.output.trans h.output, Nat.le_trans h.size hg.size, fun k hk hp hq hro => (hg.block k (by have := h.size; omega) (fun e => by rcases hr k e.symm with h1 | h1 | h1 | h1; omega; exact hp h1; exact hq h1; exact hro h1.symm)).trans (h.block k hk hp hq hro)⟩
theorem Most.setCell {ro : Option Nat} {p q : Nat} {a w : World} (h : Most ro p q a w) {i : Addr} (hi : i.block = p ∨ i.block = q) (u : Value) : Most ro p q a (w.setCell i u) :=
  ⟨h.os, h.tape, h.output, by simpa using h.size, fun k hk hp hq hro => (Below.heap_setCell _ _ _ _ (by rintro rfl; rcases hi with h1 | h1; exact hp h1; exact hq h1)).trans (h.block k hk hp hq hro)⟩
theorem Most.alloc {ro : Option Nat} {p q : Nat} {a w : World} (h : Most ro p q a w) (o : Obj) : Most ro p q a (w.alloc o) :=
  ⟨h.os, h.tape, h.output, by simp; have := h.size; omega, fun k hk hp hq hro => (Below.heap_alloc _ _ _ (by have := h.size; omega)).trans (h.block k hk hp hq hro)⟩
theorem Most.below {ro : Option Nat} {B p q : Nat} {a w : World} (h : Most ro p q a w) (hB : B ≤ a.heap.size) (hp : B ≤ p) (hq : B ≤ q) (hr : ∀ k, ro = some k → B ≤ k) : Below B a w :=
  ⟨h.os, h.tape, h.output, h.size, fun k hk => h.block k (by omega) (by omega) (by omega) (fun e => by have := hr k e.symm; omega)⟩
theorem Most.blk {ro : Option Nat} {p q : Nat} {a w : World} (h : Most ro p q a w) {r : Nat} {cs : List Value} {t : TypeId} (hb : Blk a r cs t) (hp : r ≠ p) (hq : r ≠ q) (hr : some r ≠ ro) : Blk w r cs t := by
  have := hb.lt
  unfold Blk at hb ⊢; rw [h.block r this hp hq hr]; exact hb
/-- the row's block is the elder one or a new one -/
def RowF (w : World) (ro r : Option Nat) : Prop := r = ro ∨ ∀ k, r = some k → w.heap.size ≤ k
theorem RowF.step {w w' : World} {ro r r' : Option Nat} (h : RowF w ro r) (hw : w.heap.size ≤ w'.heap.size) (h' : r' = r ∨ r' = some w'.heap.size) : RowF w ro r' := by
  rcases h' with rfl | rfl
  · exact h
  · right; intro k hk; injection hk with hk; omega
theorem RowF.ok {w : World} {ro r : Option Nat} (h : RowF w ro r) : ∀ k, r = some k → w.heap.size ≤ k ∨ ro = some k := by
  intro k hk
  rcases h with h | h
  · right; rw [← h]; exact hk
  · left; exact h k hk
theorem cellAt_sz {w : World} {p : Nat} {t : ByteArray} {e : TypeId} (h : Blk w p [.string t] e) : szOf ((w.cell? ⟨p, 0, none⟩).getD undef) = t.size := by
  rw [h.cell (i := 0) rfl]; rfl
theorem step_append_own {P : Program} {ops : Array Oper} {o : Oper} {a : Act} {w : World} {K : Act → World → Prop} {Q : Exit → Act → World → Prop} {E : Prop}
    (hg : o.guard = none) (s x : Operand) (t : TypeId) (hop : o.op = Op.call { callee := Callee.builtin Builtin.append, args := #[s, x], argTypes := #[t, t] })
    (base : Nat) (e : TypeId) (i : TypeInfo) (z : Value) (size bytes : Nat) (h1 : P.underlying t = some (.slice e)) (h2 : P.info? e = some i) (h3 : i.zero = some z) (h4 : i.size = size) (h5 : i.bytes = bytes) (h6 : z.cells.size = size) (h7 : 0 < size)
    (v : Value) (n : Nat) (xs : List Value) (hs : a.eval s = v) (hown : w.ownsRow base e size v n xs)
    (ad : Addr) (m c : Nat) (news : List Value) (hx : a.eval x = .slice (some ad) m c) (hl : news.length = m * size) (hnews : ∀ j u, news[j]? = some u → w.cell? (ad.add j) = some u) (h1c : ∀ u ∈ news, u.oneCell' = true)
    (b1 : n + m ≤ maxLen) (b2 : (n + m) * bytes ≤ 140737488355328) (hbase : base ≤ w.heap.size)
    (hK : ∀ v' w', w'.ownsRow base e size v' (n + m) (xs ++ news) → w.grownBy w' v.ownBlock → (v'.ownBlock = v.ownBlock ∨ v'.ownBlock = some w.heap.size) → K (a.put o.dst v') w') :
    if Region.wanted o (yielded ops a.tmps) = true then Oper.wp P o a w K Q else E := by
  have hw : Region.wanted o (yielded ops a.tmps) = true := by simp [Region.wanted, hg]
  rw [if_pos hw]
  obtain ⟨v', w', hr, r2, r3, r4, r5⟩ := run_append_own_at (P := P) w base t o.type e i z size bytes h1 h2 h3 h4 h5 h6 h7 v n xs hown ad m c news hl hnews h1c b1 b2 hbase
  unfold Oper.wp execOp
  simp only [hop, resolve, invoke, builtin, Sem.run_bind, Sem.run_pure, Result.andThen_ok, List.map_toArray, List.map_cons, List.map_nil, hs, hx, hr]
  exact hK v' w' r2 r3 r5
set_option maxRecDepth 100000 in
set_option maxHeartbeats 1000000 in
theorem chFlush_any (w : World) (pH pO base : Nat) (v : Value) (out : List St) (s : ByteArray) (hH : Blk w pH [.string s] 9) (hP : Blk w pO [v] 22) (hO : Own w base v out) (hpq : pH ≠ pO) (hp : pH < base) (hq : pO < base) (hb : base ≤ w.heap.size)
    (hs : s.size ≤ 100000000) (hn : out.length ≤ 100000000) :
    Calls Try.prog 30 #[.pointer (some ⟨pH, 0, none⟩), .pointer (some ⟨pO, 0, none⟩)] w fun e w' => e = .returned (.tuple #[]) ∧ ∃ v', Blk w' pH [.string ByteArray.empty] 9 ∧ Blk w' pO [v'] 22 ∧ Own w' base v' (out ++ texts s) ∧ Most v.ownBlock pH pO w w' ∧ RowF w v.ownBlock v'.ownBlock := by
  obtain ⟨i0, hi, hz0, hz1, hz2⟩ := info_parts infoStep
  have hgz := stepZ_run
  go_enter Try.func30, Try.ntmps30
  go_wp2
  go_loopw [2] (fun _ wr => ∃ (j : Nat) (t : ByteArray) (u : Value), j ≤ (s.size + 4095) / 4096 ∧ t = s.extract (4096 * j) s.size ∧ Blk wr pH [.string t] 9 ∧ Blk wr pO [u] 22 ∧ Own wr base u (out ++ textsN s j) ∧ Most v.ownBlock pH pO w wr ∧ RowF w v.ownBlock u.ownBlock) (fun _ wr => szOf ((wr.cell? ⟨pH, 0, none⟩).getD undef))
  case atStart => exact ⟨0, s, v, by omega, by rw [Nat.mul_zero, cut_self], hH, hP, by simpa [textsN] using hO, Most.refl _ _ _ _, .inl rfl⟩
  case round =>
    clear hH hP hO
    obtain ⟨j, t, u, hj, ht, hH, hP, hO, hM, hF⟩ := hrel
    have HRF := Lib.hid hF
    clear hF
    have hsz : t.size = s.size - 4096 * j := by rw [ht, ByteArray.size_extract]; omega
    have hb2 := Nat.le_trans hb hM.size
    have h0 := hH.cell (i := 0) rfl
    have hP0 := hP.cell (i := 0) rfl
    have f0 := hH.frozen 0
    have g0 := hP.frozen 0
    have hts : t.size ≤ 100000000 := by omega
    have hlen : (out ++ textsN s j).length ≤ 200000000 := by rw [List.length_append, textsN_len]; omega
    obtain ⟨L, hL⟩ : ∃ L, L = out ++ textsN s j := ⟨_, rfl⟩
    rw [← hL] at hO hlen
    by_cases hte : t.size = 0
    · have hfin : out ++ texts s = L := by rw [hL, texts_eq s j (by omega)]
      obtain rfl := strEmpty hte
      have HF := Lib.hid hfin
      clear hL hfin hte ht hsz
      go_wp2
      go_end0
      exact ⟨rfl, u, hH, hP, by rw [HF.out]; exact hO, hM, HRF.out⟩
    · have hne := strNe hte
      obtain ⟨m, hm⟩ : ∃ m, m = min t.size 4096 := ⟨_, rfl⟩
      have hx : t.extract 0 m = s.extract (4096 * j) (4096 * (j + 1)) := by
        by_cases hlt : 4096 < t.size
        · rw [show m = 4096 by omega, ht, cut_cut _ _ _ _ (by omega)]; rfl
        · rw [show m = t.size by omega, cut_self, ht, cut_over s _ (4096 * (j + 1)) (by omega)]
      have hr : t.extract m t.size = s.extract (4096 * (j + 1)) s.size := by
        by_cases hlt : 4096 < t.size
        · rw [hsz, show m = 4096 by omega, ht, cut_cut _ _ _ _ (by omega)]; congr 1; omega
        · apply ByteArray.ext; apply Array.ext
          · rw [ByteArray.data_extract, ByteArray.data_extract, Array.size_extract, Array.size_extract]
            have : t.data.size = t.size := rfl
            have : s.data.size = s.size := rfl
            omega
          · intro i h1 h2
            rw [ByteArray.data_extract, Array.size_extract] at h1
            have : t.data.size = t.size := rfl
            omega
      have hrs : (t.extract m t.size).size < t.size := by rw [ByteArray.size_extract]; omega
      have hmv : (if (4096 : Int) < (t.size : Int) then (4096 : Int) else (t.size : Int)) = (m : Int) := by split <;> omega
      have hsu : out ++ textsN s (j + 1) = L ++ [⟨0, 0, t.extract 0 m⟩] := by rw [textsN_succ, hx, hL, List.append_assoc]
      have HSU := Lib.hid hsu
      have HR := Lib.hid hr
      have HRS := Lib.hid hrs
      have HJ : Hid (j + 1 ≤ (s.size + 4095) / 4096) := Lib.hid (by omega)
      have hmt : m ≤ t.size := by omega
      have hmt2 : (m : Int) ≤ (t.size : Int) := by omega
      have HH := Lib.hid hH
      have HP := Lib.hid hP
      have HM := Lib.hid hM
      clear hm hx hr hrs hsu hL hte ht hsz hj hH hP hM
      have a0 : (wr.alloc (Obj.cells #[.int .i64 0, .int .i64 0, .string (t.extract 0 m)] 55)).cell? ⟨pO, 0, none⟩ = some u := (HP.out.alloc _).cell (i := 0) rfl
      have a1 : (wr.alloc (Obj.cells #[.int .i64 0, .int .i64 0, .string (t.extract 0 m)] 55)).cell? ⟨pH, 0, none⟩ = some (.string t) := (HH.out.alloc _).cell (i := 0) rfl
      go_wp2
      go_region_law (refine step_append_own rfl (.tmp 8) (.tmp 13) 22 rfl base 55 i0 (.agg #[.int .i64 0, .int .i64 0, .string ByteArray.empty]) 3 32 Try.underlying22 hi hz0 hz1 hz2 rfl (by decide) u L.length (L.flatMap St.c) (by simp [Act.eval]) (World.ownsRow.alloc (w := wr.drew) hO _) ⟨wr.heap.size, 0, none⟩ 1 1 [.int .i64 0, .int .i64 0, .string (t.extract 0 m)] (by simp [Act.eval]) rfl (cells_new wr.drew _ _) (sc_one ⟨0, 0, t.extract 0 m⟩) (by unfold maxLen; omega) (by omega) (by simp; omega) ?_; intro v' w5 hO5 hg5 hrb; have hF5 : RowF w v.ownBlock v'.ownBlock := HRF.out.step (Nat.le_trans HM.out.size (by simp)) hrb; obtain ⟨ao5, cap5, rfl⟩ := owns_slice hO5; have hP5 := (HP.out.drew.alloc _).grown hg5 (fun e => by have := hO.row_ge pO e.symm; omega); have c5 := hP5.cell (i := 0) rfl; have f5 := hP5.frozen 0)
      all_goals
        have hge := hO.row_ge
        have hPW : Blk (w5.setCell ⟨pO, 0, none⟩ (.slice ao5 (L.length + 1) cap5)) pO [.slice ao5 (L.length + 1) cap5] 22 := hP5.set 0 _
        have hHW : Blk (w5.setCell ⟨pO, 0, none⟩ (.slice ao5 (L.length + 1) cap5)) pH [.string t] 9 := ((HH.out.alloc _).drew.grown hg5 (fun e => by have := hge pH e.symm; omega)).setOther hpq _
        have hOW : Own (w5.setCell ⟨pO, 0, none⟩ (.slice ao5 (L.length + 1) cap5)) base (.slice ao5 (L.length + 1) cap5) (out ++ textsN s (j + 1)) := by
          rw [HSU.out]
          refine Own.snoc (World.ownsRow.kept hO5 (grown_set (grown_refl w5 (some pO)) 0 _) (.inr ?_))
          intro e
          have := (World.ownsRow.lt hO5 pO e).1
          omega
        have hMW : Most v.ownBlock pH pO w (w5.setCell ⟨pO, 0, none⟩ (.slice ao5 (L.length + 1) cap5)) := (((HM.out.alloc _).drew).grown hg5 (fun k hk => (HRF.out.ok k hk).elim .inl (fun h => .inr (.inr (.inr h))))).setCell (.inr rfl) _
        have hsz5 : base ≤ (w5.setCell ⟨pO, 0, none⟩ (.slice ao5 (L.length + 1) cap5)).heap.size := by have := hg5.size; simp at *; omega
        obtain ⟨W, hW⟩ : ∃ W, W = w5.setCell ⟨pO, 0, none⟩ (.slice ao5 (L.length + 1) cap5) := ⟨_, rfl⟩
        rw [← hW] at hPW hHW hOW hMW hsz5
        rw [← hW]
        have HPW := Lib.hid hPW
        have HHW := Lib.hid hHW
        have HOW := Lib.hid hOW
        have HMW := Lib.hid hMW
        have HF5 := Lib.hid hF5
        have q0 := hHW.cell (i := 0) rfl
        have q1 := hHW.frozen 0
        have hsl0 := cellAt_sz HH.out
        clear hF5 hrb hW hPW hHW hOW hMW hO5 hg5 hP5 c5 f5 a0 a1 h0 hP0 f0 g0 hge HSU
        go_wp2
        go_roundw
        case rel => exact ⟨j + 1, _, _, HJ.out, HR.out, HHW.out.set 0 _, HPW.out.setOther (fun e => hpq e.symm) _, World.ownsRow.kept HOW.out (grown_set (grown_refl W (some pH)) 0 _) (.inr (fun e => by have := HOW.out.row_ge pH e; omega)), HMW.out.setCell (.inl rfl) _, HF5.out⟩
        case measure =>
          rw [hsl0, cellAt_sz (HHW.out.set 0 (.string (t.extract m t.size)))]
          exact HRS.out
end Go.Proofs.Ytabdmcgfiabaoaa
