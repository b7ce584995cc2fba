/- The document's real book: Mark and Is. Conditions: as named in each theorem. -/
import Derived.Test.YtgemhgllifhckaaAppendRow2
import Derived.Deep.AppendLies
import Derived.Test.YtgemhgllifhckaaQA
import Derived.ArgAppend
import Derived.Laws.IdiomStrings
import Derived.Test.YtgemhgllifhckaaShaRTurn
import Derived.Deep.RegionHeld3
import Derived.Deep.QuietTactic
import Derived.BigQuiet
namespace Go.Proofs.Ytgemhgllifhckaa
open Go.RowKit
set_option linter.unusedVariables false
set_option linter.unusedSimpArgs false
theorem drewO {w : World} {base : Nat} {T : TypeId} {sz n : Nat} {v : Value} {xs : List Value} (h : w.ownsRow base T sz v n xs) : w.drew.ownsRow base T sz v n xs := h
theorem cellA {w : World} {p : Addr} {v : Value} (h : w.cell? p = some v) (o : Obj) : (w.alloc o).cell? p = some v :=
  (World.cell?_of_block (w := w) ((World.grownBy_alloc w o none).block p.block (World.block_lt_of_cell? w _ h) (by simp))).trans h
theorem run_append_keeps {P : Program} (w : World) (t ty : TypeId) (base : Nat) (e : TypeId) (i : TypeInfo) (z : Value) (size bytes : Nat) (ht : P.underlying t = some (.slice e)) (hi : P.info? e = some i) (hz : i.zero = some z)
    (hsize : i.size = size) (hby : i.bytes = bytes) (hzs : z.cells.size = size) (hsz : 0 < size)
    (g n cap : Nat) (xs : List Value) (hown : w.ownsRow base e size (.slice (some ⟨g, 0, none⟩) n cap) n xs)
    (ad : Addr) (m c : Nat) (news : List Value) (hl : news.length = m * size) (hnews : ∀ j u, news[j]? = some u → w.cell? (ad.add j) = some u) (h1 : ∀ u ∈ news, u.oneCell' = true)
    (h63 : n + m ≤ maxLen) (hbytes : (n + m) * bytes ≤ 140737488355328) (hbase : base ≤ w.heap.size) :
    ∃ v' w', (Builtin.append_ #[t, t] ty #[.slice (some ⟨g, 0, none⟩) n cap, .slice (some ad) m c]).run P w = .ok v' w' ∧
      w'.ownsRow base e size v' (n + m) (xs ++ news) ∧ w.grownBy w' (some g) ∧ ∀ j u, xs[j]? = some u → w'.cell? ⟨g, j, none⟩ = some u := by
  obtain ⟨v', w', hr, h2, h3, _, _⟩ := run_append_own_at (P := P) w base t ty e i z size bytes ht hi hz hsize hby hzs hsz _ n xs hown ad m c news hl hnews h1 h63 hbytes hbase
  refine ⟨v', w', hr, h2, h3, ?_⟩
  intro j u hu
  have hold := hown.cells (g := g) rfl j u hu
  rw [add_off', Nat.zero_add] at hold
  have hxl := hown.1
  subst hsize
  subst hby
  rcases hown.2 with ⟨h0, _⟩ | ⟨g', cap', cur, h4, hbg, hg, hnc, hcm, hcs, htake⟩
  · cases h0
  · injection h4 with h4 h5 h6
    injection h4 with h4
    injection h4 with h4
    subst h4 h6
    by_cases hroom : n + m ≤ cap
    · have hfit : n * i.size + news.length ≤ cur.size := by rw [hl, hcs, ← Nat.add_mul]; exact Nat.mul_le_mul_right _ hroom
      have hr2 := run_append_room (P := P) w t ty e i ht hi g n cap cur hg ad m c news hl hnews h1 hroom hfit
      have hh := hr.symm.trans hr2
      injection hh with hv hw
      subst hv
      have := h2.cells (g := g) rfl j u (by rw [List.getElem?_append_left (List.getElem?_eq_some_iff.1 hu).1]; exact hu)
      rw [add_off', Nat.zero_add] at this
      exact this
    · have hsmall : n + m ≤ 9223372036854775807 := by simp only [maxLen] at h63; omega
      have hr2 := run_append_grow (P := P) w t ty e i z ht hi hz ⟨g, 0, none⟩ n cap xs hxl (hown.cells (g := g) rfl) ad m c news hl hnews (by omega) (by omega) (growslice_fits (by omega) hbytes)
      have hh := hr.symm.trans hr2
      injection hh with hv hw
      subst hw
      exact cellA (w := w.drew) hold _
theorem step_append_keeps {P : Program} {w : World} {ops : Array Oper} {o : Oper} {a : Act} {K : Act → World → Prop} {Q : Exit → Act → World → Prop} {E : Prop} (hgd : o.guard = none) (s x : Operand) (t : TypeId)
    (ho : o.op = .call { callee := .builtin .append, args := #[s, x], argTypes := #[t, t] })
    (base : Nat) (e : TypeId) (i : TypeInfo) (z : Value) (size bytes : Nat) (ht : P.underlying t = some (.slice e)) (hi : P.info? e = some i) (hz : i.zero = some z)
    (hsize : i.size = size) (hby : i.bytes = bytes) (hzs : z.cells.size = size) (hsz : 0 < size)
    (g n cap : Nat) (xs : List Value) (hs : a.eval s = .slice (some ⟨g, 0, none⟩) n cap) (hown : w.ownsRow base e size (.slice (some ⟨g, 0, none⟩) n cap) n xs)
    (ad : Addr) (m c : Nat) (news : List Value) (hx : a.eval x = .slice (some ad) m c) (hl : news.length = m * size) (hnews : ∀ j u, news[j]? = some u → w.cell? (ad.add j) = some u) (h1 : ∀ u ∈ news, u.oneCell' = true)
    (h63 : n + m ≤ maxLen) (hbytes : (n + m) * bytes ≤ 140737488355328) (hbase : base ≤ w.heap.size)
    (h : ∀ v' w', w'.ownsRow base e size v' (n + m) (xs ++ news) → w.grownBy w' (some g) → (∀ j u, xs[j]? = some u → w'.cell? ⟨g, j, none⟩ = some u) → K (a.put o.dst v') w') :
    if Region.wanted o (yielded ops a.tmps) = true then Oper.wp P o a w K Q else E := by
  have hw : Region.wanted o (yielded ops a.tmps) = true := by simp [Region.wanted, hgd]
  rw [if_pos hw]
  obtain ⟨v', w', hr, h2, h3, h4⟩ := run_append_keeps (P := P) w t o.type base e i z size bytes ht hi hz hsize hby hzs hsz g n cap xs hown ad m c news hl hnews h1 h63 hbytes hbase
  unfold Oper.wp execOp
  simp only [ho, resolve, invoke, builtin, Sem.run_bind, Sem.run_pure, Result.andThen_ok, List.map_toArray, List.map_cons, List.map_nil, hs, hx, hr]
  exact h v' w' h2 h3 h4
end Go.Proofs.Ytgemhgllifhckaa
namespace Go.Proofs.Ytgemhgllifhckaa
open Go.RowKit
set_option linter.unusedVariables false
set_option linter.unusedSimpArgs false
def ByR (w : World) (base : Nat) (v : Value) (n : Nat) (l : List UInt8) : Prop :=
  l.length = n ∧ ∃ g cap cur fz, v = .slice (some ⟨g, 0, none⟩) n cap ∧ base ≤ g ∧ w.heap[g]? = some (.cells cur 5 fz) ∧ (fz.2 = 0 ∨ cur.size ≤ fz.1) ∧ n ≤ cap ∧ cap ≤ maxLen ∧ cur.size = cap ∧ cur.toList.take n = byteC l
theorem ByR.of_owns {w : World} {base : Nat} {v : Value} {n : Nat} {l : List UInt8} (h : w.ownsRow base 5 1 v n (byteC l)) (hn : 0 < n) : ByR w base v n l := by
  have hl := h.1
  rw [byteC_len, Nat.mul_one] at hl
  rcases h.2 with ⟨_, h0⟩ | ⟨g, cap, cur, rfl, hb, hg, hnc, hcm, hcs, ht⟩
  · omega
  · exact ⟨hl, g, cap, cur, (0, 0), rfl, hb, hg, .inl rfl, hnc, hcm, by rw [hcs, Nat.mul_one], by rw [Nat.mul_one] at ht; exact ht⟩
theorem ByR.slice {w : World} {base : Nat} {v : Value} {n : Nat} {l : List UInt8} (h : ByR w base v n l) : ∃ g cap, v = .slice (some ⟨g, 0, none⟩) n cap ∧ base ≤ g ∧ g < w.heap.size ∧ n ≤ cap := by
  obtain ⟨_, g, cap, cur, fz, rfl, hb, hg, _, hnc, _⟩ := h
  exact ⟨g, cap, rfl, hb, (Array.getElem?_eq_some_iff.1 hg).1, hnc⟩
theorem ByR.cell {w : World} {base g cap : Nat} {n : Nat} {l : List UInt8} (h : ByR w base (.slice (some ⟨g, 0, none⟩) n cap) n l) {j : Nat} {c : UInt8} (hc : l[j]? = some c) : w.cell? ⟨g, j, none⟩ = some (.int .u8 (c.toNat : Nat)) := by
  obtain ⟨hl, g', cap', cur, fz, h1, hb, hg, _, hnc, hcm, hcs, ht⟩ := h
  injection h1 with h1 h2 h3
  injection h1 with h1
  injection h1 with h1
  subst h1
  have hj : j < n := by rw [← hl]; exact (List.getElem?_eq_some_iff.1 hc).1
  have h4 := byteC_get l j c hc
  rw [← ht, List.getElem?_take, if_pos hj, Array.getElem?_toList] at h4
  simp [World.cell?, hg, h4]
theorem ByR.kept {w w' : World} {base : Nat} {v : Value} {n : Nat} {l : List UInt8} (h : ByR w base v n l) (hb : Below w.heap.size w w') : ByR w' base v n l := by
  obtain ⟨hl, g, cap, cur, fz, rfl, hb1, hg, rest⟩ := h
  exact ⟨hl, g, cap, cur, fz, rfl, hb1, by rw [hb.block g (Array.getElem?_eq_some_iff.1 hg).1]; exact hg, rest⟩
/-- what a text's letters become -/
theorem letters_byR (w : World) (base : Nat) (hb : base ≤ w.heap.size) (s : ByteArray) (hs : s.size ≤ 1000000000) : ∃ (cap : Nat) (C : Array Value) (fz : Nat × Nat),
    (convert 9 81 (.string s)).run Try.prog w = .ok (.slice (some ⟨w.heap.size, 0, none⟩) s.size cap) (w.drew.alloc (.cells C 5 fz)) ∧
    ByR (w.drew.alloc (.cells C 5 fz)) base (.slice (some ⟨w.heap.size, 0, none⟩) s.size cap) s.size s.data.toList := by
  refine ⟨_, _, _, run_bytes_of_string w _ _ _ s Try.underlying9 Try.underlying81 Try.underlying5, by rw [Array.length_toList]; rfl, w.heap.size, _, _, _, rfl, hb, heap_alloc_new w.drew _, .inr (Nat.le_refl _), grownCap_ge w s.size 0 _, grownCap_le_maxLen w s.size 0 _ (by unfold maxLen; omega), ?_, ?_⟩
  · unfold bytesRow
    rw [Array.size_append, Array.size_map, Array.size_replicate]
    have := grownCap_ge w s.size 0 5
    have e : s.data.size = s.size := rfl
    omega
  · unfold bytesRow byteC
    rw [Array.toList_append, Array.toList_map]
    exact List.take_left' (by rw [List.length_map, Array.length_toList]; rfl)
theorem byteC_app' (l : List UInt8) (c : UInt8) : byteC (l ++ [c]) = byteC l ++ [.int .u8 (c.toNat : Nat)] := by simp [byteC]
/-- one byte more -/
theorem wpList_append_byR {P : Program} (w : World) {ops : Array Oper} {rest : List Oper} {o : Oper} {a : Act} {Q : Exit → Act → World → Prop}
    (hg : o.guard = none) (s x : Operand) (t : TypeId) (hop : o.op = Op.call { callee := Callee.builtin Builtin.append, args := #[s, x], argTypes := #[t, t] })
    (i : TypeInfo) (z : Value) (h1 : P.underlying t = some (.slice 5)) (h2 : P.info? 5 = some i) (h3 : i.zero = some z) (h4 : i.size = 1) (h5 : i.bytes = 1) (h6 : z.cells.size = 1)
    (base : Nat) (v : Value) (n : Nat) (l : List UInt8) (hs : a.eval s = v) (hr : ByR w base v n l) (hbase : base ≤ w.heap.size)
    (ad : Addr) (c : Nat) (d : UInt8) (y : Int) (hy : y = (d.toNat : Nat)) (hx : a.eval x = .slice (some ad) 1 c) (hc : ∀ j u, [Value.int .u8 y][j]? = some u → w.cell? (ad.add j) = some u)
    (b1 : n + 1 ≤ 2000000000)
    (hK : ∀ v' w', ByR w' base v' (n + 1) (l ++ [d]) → w.grownBy w' v.ownBlock → wpList P ops Q rest (a.put o.dst v') w') :
    wpList P ops Q (o :: rest) a w := by
  subst hy
  have hr0 := hr
  obtain ⟨hl, g, cap, cur, fz, rfl, hb, hgq, hfz, hnc, hcm, hcs, ht⟩ := hr
  have hlt := (Array.getElem?_eq_some_iff.1 hgq).1
  refine wpList_append_arg w hg s x t hop 5 i z 1 1 h1 h2 h3 h4 h5 h6 (by decide) g 0 n cap (byteC l) hs (by rw [byteC_len, hl, Nat.mul_one]) ?_ ad 1 c [.int .u8 (d.toNat : Nat)] hx rfl hc (by intro u hu; simp at hu; subst hu; rfl) ?_ (by unfold maxLen; omega) (by omega) ?_ ?_
  · intro j u hu
    have hj : j < l.length := by rw [← byteC_len]; exact (List.getElem?_eq_some_iff.1 hu).1
    have := hr0.cell (List.getElem?_eq_getElem hj)
    rw [Nat.zero_add, this]
    rw [byteC_get l j _ (List.getElem?_eq_getElem hj)] at hu
    exact hu
  · intro hroom j hj
    have hj0 : j = 0 := by simpa using hj
    subst hj0
    have hn : n < cur.size := by omega
    constructor
    · simp [World.cell?, hgq, hn]
    · simp [World.frozen?, hgq]
      omega
  · intro hroom
    have hn : n < cur.size := by omega
    refine hK _ _ ⟨by rw [List.length_append, hl]; rfl, g, cap, cur.setIfInBounds n (.int .u8 (d.toNat : Nat)), fz, rfl, hb, ?_, by rw [Array.size_setIfInBounds]; exact hfz, hroom, hcm, by rw [Array.size_setIfInBounds]; exact hcs, ?_⟩ ?_
    · simp only [World.setCells, World.setCell, Array.getElem?_modify, hgq, if_true, Option.map_some, Nat.zero_add, Nat.mul_one]
      simp
    · rw [Array.toList_setIfInBounds, byteC_app', List.take_add_one, List.getElem?_set_self (by rw [Array.length_toList]; exact hn), List.take_set_of_le (Nat.le_refl _), ht]
      rfl
    · simp only [World.setCells]
      exact grown_set (grown_refl _ _) _ _
  · intro _ v' w' hown hgrow
    refine hK v' w' (ByR.of_owns (owns_mono (by rw [byteC_app']; exact hown) hbase) (by omega)) ?_
    exact ⟨hgrow.os, hgrow.tape, hgrow.output, hgrow.size, fun k hk _ => hgrow.block k hk (by simp)⟩
end Go.Proofs.Ytgemhgllifhckaa
namespace Go.Proofs.Ytgemhgllifhckaa
open Go.RowKit
set_option linter.unusedVariables false
set_option linter.unusedSimpArgs false
def RBlkP (u : V8) (w : World) (e : Ending) (w' : World) : Prop := ∃ v, e = .returned v ∧ w'.ownsRow w.heap.size 3 1 v 8 (iV u.list) ∧ Below w.heap.size w w'
theorem addV_take (v u : V8) {j : Nat} (h : j < 8) : ∃ x y, v.list[j]? = some x ∧ u.list[j]? = some y ∧ (addV v u).list.take (j + 1) = (addV v u).list.take j ++ [(x + y) % 4294967296] := by
  have hj : j = 0 ∨ j = 1 ∨ j = 2 ∨ j = 3 ∨ j = 4 ∨ j = 5 ∨ j = 6 ∨ j = 7 := by omega
  rcases hj with rfl | rfl | rfl | rfl | rfl | rfl | rfl | rfl <;> exact ⟨_, _, rfl, rfl, rfl⟩
theorem sum4_ok (a b c d : Nat) (ha : a < 4294967296) (hb : b < 4294967296) (hc : c < 4294967296) (hd : d < 4294967296) : IntKind.i64.wrap ((a : Int) + (b : Int)) = (a : Int) + (b : Int) ∧ IntKind.i64.wrap ((a : Int) + (b : Int) + (c : Int)) = (a : Int) + (b : Int) + (c : Int) ∧ IntKind.i64.wrap ((a : Int) + (b : Int) + (c : Int) + (d : Int)) = (a : Int) + (b : Int) + (c : Int) + (d : Int) := ⟨IntWalk.i64_in _ (by omega), IntWalk.i64_in _ (by omega), IntWalk.i64_in _ (by omega)⟩
theorem low_sum4 (a b c d X : Nat) (ha : a < 4294967296) (hb : b < 4294967296) (hc : c < 4294967296) (hd : d < 4294967296) (hX : X = (a + b + c + d) % 4294967296) (W : World) : Calls Try.prog 113 #[.int .i64 ((a : Int) + (b : Int) + (c : Int) + (d : Int))] W fun e w' => e = .returned (.int .i64 (X : Nat)) ∧ w' = W := by
  have h := low_any (a + b + c + d) (by omega) W
  rw [← hX, show ((a + b + c + d : Nat) : Int) = (a : Int) + (b : Int) + (c : Int) + (d : Int) by omega] at h
  exact h
theorem xor_shift (x y k : Nat) (hx : x < 4294967296) (hy : y < 4294967296) (hk : 0 < k) : bits .xor .i64 (x : Int) ((y : Int) / (k : Int)) = ((x ^^^ y / k : Nat) : Int) := by
  have h := i64_xor x (y / k) (Nat.lt_trans hx (by decide)) (Nat.lt_of_le_of_lt (Nat.div_le_self _ _) (Nat.lt_trans hy (by decide)))
  rw [show ((y / k : Nat) : Int) = (y : Int) / (k : Int) by simp] at h
  exact h
theorem x32 (x y : Nat) (hx : x < 4294967296) (hy : y < 4294967296) : bits .xor .i64 (x : Int) (y : Int) = ((x ^^^ y : Nat) : Int) := i64_xor x y (Nat.lt_trans hx (by decide)) (Nat.lt_trans hy (by decide))
theorem a32 (x y : Nat) (hx : x < 4294967296) (hy : y < 4294967296) : bits .and .i64 (x : Int) (y : Int) = ((x &&& y : Nat) : Int) := i64_and x y (Nat.lt_trans hx (by decide)) (Nat.lt_trans hy (by decide))
theorem sha_quiet_dr {P : Program} {f : FuncId} {args : Array Value} {w : World} {n : Nat} {v : Value} (h : Calls P f args (w.drewN n) fun e w' => e = .returned v ∧ w' = (w.drewN n).drew) : Calls P f args (w.drewN n) fun e w'' => e = .returned v ∧ ∃ m, w'' = w.drewN m :=
  Calls.quiet_of (h.mono fun _ _ ⟨he, hm⟩ => ⟨he, 1, by rw [hm]; rfl⟩)
set_option maxRecDepth 100000 in
set_option maxHeartbeats 8000000 in
theorem shaRefBlock_any (w : World) (B1 B2 : Nat) (vh vk : Value) (H : V8) (hH : H.lt) (KL : List Nat) (hKL : KL.length = 64) (hKb : ∀ x ∈ KL, x < 4294967296) (pb off cb : Nat) (B : Nat → Nat) (hBl : ∀ k, B k < 256) (hpb : pb < w.heap.size)
    (hcell : ∀ j, j < 64 → w.cell? ⟨pb, off + j, none⟩ = some (.int .u8 (B j : Nat))) (hh : w.ownsRow B1 3 1 vh 8 (iV H.list)) (hk : w.ownsRow B2 3 1 vk 64 (iV KL)) :
    Calls Try.prog 81 #[vh, vk, .slice (some ⟨pb, off, none⟩) 64 cb] w (RBlkP (blkV (fun i => KL.getD i 0) B H) w) := by
  obtain ⟨i0, hi, hz0, hz1, hz2⟩ := info_parts infoIntH
  obtain ⟨ah, ch, rfl⟩ := slice_own hh
  obtain ⟨ak, ck, rfl⟩ := slice_own hk
  obtain ⟨gh, rfl, _, hgh, hch, hcellh⟩ := own_cell hh (by decide)
  obtain ⟨gk, rfl, _, hgk, hck, hcellk⟩ := own_cell hk (by decide)
  obtain ⟨K, hK⟩ : ∃ K : Nat → Nat, K = fun i => KL.getD i 0 := ⟨_, rfl⟩
  rw [← hK]
  have hkk : ∀ n, n < 64 → KL[n]? = some (K n) := fun n hn => by rw [hK]; simp only; rw [List.getD_eq_getElem?_getD, List.getElem?_eq_getElem (by rw [hKL]; exact hn)]; rfl
  have HKK : Hid (∀ n, n < 64 → KL[n]? = some (K n) ∧ K n < 4294967296) := Lib.hid (fun n hn => ⟨hkk n hn, hKb _ (List.mem_of_getElem? (hkk n hn))⟩)
  have HC := Lib.hid hcell
  have HCH := Lib.hid hcellh
  have HCK := Lib.hid hcellk
  have HH := Lib.hid hH
  have HG := Lib.hid (And.intro hpb (And.intro hgh hgk))
  clear hcell hcellh hcellk hK hkk hh hk hKL hKb hH hpb hgh hgk
  go_enter Try.func81, Try.ntmps81
  go_wp2_with fail
  go_loopw [7, 8] (fun v iv wr => ∃ n : Nat, iv = .int .i64 n ∧ n ≤ 64 ∧ wr.ownsRow w.heap.size 3 1 v n (iV (wList B n)) ∧ Below w.heap.size w wr) (fun _ iv _ => 64 - (intOf iv).toNat)
  case atStart => exact ⟨0, by go_num, by omega, World.ownsRow_nil _ _ _ _, Below.refl _ _⟩
  case round =>
    obtain ⟨n, rfl, hn, hO, hB⟩ := hrel
    obtain ⟨av, cv, rfl⟩ := slice_own hO
    have hS := hB.size
    by_cases hlt : n < 64
    · by_cases h16 : n < 16
      · obtain ⟨q0, hq0⟩ : ∃ q, q = 4 * n := ⟨_, rfl⟩
        have i0' : 4 * (n : Int) = (q0 : Int) := by omega
        have hW := wW_lo B h16
        rw [← hq0] at hW
        have w0 : IntKind.i64.wrap (4 * (n : Int)) = 4 * (n : Int) := IntWalk.i64_in _ (by omega)
        have hq63 : q0 + 3 < 64 := by omega
        clear hq0
        obtain ⟨q1, hq1⟩ : ∃ q, q = q0 + 1 := ⟨_, rfl⟩
        obtain ⟨q2, hq2⟩ : ∃ q, q = q0 + 2 := ⟨_, rfl⟩
        obtain ⟨q3, hq3⟩ : ∃ q, q = q0 + 3 := ⟨_, rfl⟩
        rw [← hq1, ← hq2, ← hq3] at hW
        have k0 : q0 < 64 := by omega
        have k1 : q1 < 64 := by omega
        have k2 : q2 < 64 := by omega
        have k3 : q3 < 64 := by omega
        have e1 : (q0 : Int) + 1 = (q1 : Int) := by omega
        have e2 : (q0 : Int) + 2 = (q2 : Int) := by omega
        have e3 : (q0 : Int) + 3 = (q3 : Int) := by omega
        have v0 : IntKind.i64.wrap (q0 : Int) = (q0 : Int) := IntWalk.i64_in _ (by omega)
        have v1 : IntKind.i64.wrap (q1 : Int) = (q1 : Int) := IntWalk.i64_in _ (by omega)
        have v2 : IntKind.i64.wrap (q2 : Int) = (q2 : Int) := IntWalk.i64_in _ (by omega)
        have v3 : IntKind.i64.wrap (q3 : Int) = (q3 : Int) := IntWalk.i64_in _ (by omega)
        clear hq1 hq2 hq3 hq63
        have p0 : (0 : Int) ≤ (q0 : Int) := by omega
        have p1 : (0 : Int) ≤ (q1 : Int) := by omega
        have p2 : (0 : Int) ≤ (q2 : Int) := by omega
        have p3 : (0 : Int) ≤ (q3 : Int) := by omega
        have o0 : (q0 : Int) < 64 := by omega
        have o1 : (q1 : Int) < 64 := by omega
        have o2 : (q2 : Int) < 64 := by omega
        have o3 : (q3 : Int) < 64 := by omega
        have b0 := (hB.cell (p := ⟨pb, off + q0, none⟩) HG.out.1).trans (HC.out q0 k0)
        have b1 := (hB.cell (p := ⟨pb, off + q1, none⟩) HG.out.1).trans (HC.out q1 k1)
        have b2 := (hB.cell (p := ⟨pb, off + q2, none⟩) HG.out.1).trans (HC.out q2 k2)
        have b3 := (hB.cell (p := ⟨pb, off + q3, none⟩) HG.out.1).trans (HC.out q3 k3)
        have l0 := hBl q0
        have l1 := hBl q1
        have l2 := hBl q2
        have l3 := hBl q3
        obtain ⟨y0, hy0⟩ : ∃ y, y = B q0 := ⟨_, rfl⟩
        obtain ⟨y1, hy1⟩ : ∃ y, y = B q1 := ⟨_, rfl⟩
        obtain ⟨y2, hy2⟩ : ∃ y, y = B q2 := ⟨_, rfl⟩
        obtain ⟨y3, hy3⟩ : ∃ y, y = B q3 := ⟨_, rfl⟩
        rw [← hy0] at b0 l0 hW
        rw [← hy1] at b1 l1 hW
        rw [← hy2] at b2 l2 hW
        rw [← hy3] at b3 l3 hW
        have u0 : IntKind.i64.wrap (y0 : Int) = (y0 : Int) := IntWalk.i64_in _ (by omega)
        have u1 : IntKind.i64.wrap (y1 : Int) = (y1 : Int) := IntWalk.i64_in _ (by omega)
        have u2 : IntKind.i64.wrap (y2 : Int) = (y2 : Int) := IntWalk.i64_in _ (by omega)
        have u3 : IntKind.i64.wrap (y3 : Int) = (y3 : Int) := IntWalk.i64_in _ (by omega)
        have t0 : IntKind.i64.wrap ((y0 : Int) * 16777216) = (y0 : Int) * 16777216 := IntWalk.i64_in _ (by omega)
        have t1 : IntKind.i64.wrap ((y1 : Int) * 65536) = (y1 : Int) * 65536 := IntWalk.i64_in _ (by omega)
        have t2 : IntKind.i64.wrap ((y2 : Int) * 256) = (y2 : Int) * 256 := IntWalk.i64_in _ (by omega)
        have s1 : IntKind.i64.wrap ((y0 : Int) * 16777216 + (y1 : Int) * 65536) = (y0 : Int) * 16777216 + (y1 : Int) * 65536 := IntWalk.i64_in _ (by omega)
        have s2 : IntKind.i64.wrap ((y0 : Int) * 16777216 + (y1 : Int) * 65536 + (y2 : Int) * 256) = (y0 : Int) * 16777216 + (y1 : Int) * 65536 + (y2 : Int) * 256 := IntWalk.i64_in _ (by omega)
        have s3 : IntKind.i64.wrap ((y0 : Int) * 16777216 + (y1 : Int) * 65536 + (y2 : Int) * 256 + (y3 : Int)) = (y0 : Int) * 16777216 + (y1 : Int) * 65536 + (y2 : Int) * 256 + (y3 : Int) := IntWalk.i64_in _ (by omega)
        have HX : Hid ((y0 : Int) * 16777216 + (y1 : Int) * 65536 + (y2 : Int) * 256 + (y3 : Int) = ((wW B n : Nat) : Int)) := Lib.hid (by rw [hW]; omega)
        have HOB := Lib.hid (And.intro hO hB)
        clear hy0 hy1 hy2 hy3 hW hO hB
        go_upto_region 6 with fail
        go_region_held3 (fun w' => w'.cell? ⟨pb, off + q0, none⟩ = some (.int .u8 (y0 : Nat)) ∧ w'.cell? ⟨pb, off + q1, none⟩ = some (.int .u8 (y1 : Nat)) ∧ w'.cell? ⟨pb, off + q2, none⟩ = some (.int .u8 (y2 : Nat)) ∧ w'.cell? ⟨pb, off + q3, none⟩ = some (.int .u8 (y3 : Nat)))
          (first | exact ⟨b0, b1, b2, b3⟩ | exact ⟨cellA b0 _, cellA b1 _, cellA b2 _, cellA b3 _⟩ | exact ⟨d0, d1, d2, d3⟩)
          ((refine step_append_lies _ (by rfl) _ _ _ (by rfl) w.heap.size 3 i0 (.int .i64 0) 1 8 Try.underlying50 hi hz0 hz1 hz2 rfl (by decide) (.slice av n cv) n (iV (wList B n)) (by rfl) (drewO (World.ownsRow.alloc HOB.out.1 _)) ⟨wr.heap.size, 0, none⟩ 1 1 [.int .i64 ((y0 : Int) * 16777216 + (y1 : Int) * 65536 + (y2 : Int) * 256 + (y3 : Int))] (by rfl) (by rfl) (cell1_new _ _ _) (one1 _ rfl) (by decide) (by unfold maxLen; omega) (by omega) (by simp; omega) (wr.heap.size + 1) (by simp) ?_; intro gg cap w1 hown1 hgrow hat hlt'; have hB1 : Below w.heap.size w w1 := ((HOB.out.2.alloc HOB.out.2.size _).drew).grown hgrow (Nat.le_trans HOB.out.2.size (by simp)) (fun j hj => (World.ownsRow.lt HOB.out.1 j hj).1); have d0 := (hB1.cell (p := ⟨pb, off + q0, none⟩) HG.out.1).trans ((HOB.out.2.cell (p := ⟨pb, off + q0, none⟩) HG.out.1).symm.trans b0); have d1 := (hB1.cell (p := ⟨pb, off + q1, none⟩) HG.out.1).trans ((HOB.out.2.cell (p := ⟨pb, off + q1, none⟩) HG.out.1).symm.trans b1); have d2 := (hB1.cell (p := ⟨pb, off + q2, none⟩) HG.out.1).trans ((HOB.out.2.cell (p := ⟨pb, off + q2, none⟩) HG.out.1).symm.trans b2); have d3 := (hB1.cell (p := ⟨pb, off + q3, none⟩) HG.out.1).trans ((HOB.out.2.cell (p := ⟨pb, off + q3, none⟩) HG.out.1).symm.trans b3)))
        all_goals
          have hO4 : w1.ownsRow w.heap.size 3 1 (.slice (some ⟨gg, 0, none⟩) (n + 1) cap) (n + 1) (iV (wList B (n + 1))) := by
            rw [wList, iV_app]
            have := hown1
            rw [HX.out] at this
            exact this
          have HF := Lib.hid (And.intro hO4 hB1)
          clear d0 d1 d2 d3 hown1 hgrow hat hlt' hO4 hB1 HOB HX b0 b1 b2 b3
          go_wp2
          exact ⟨⟨n + 1, by go_num, by omega, HF.out⟩, by simp [intOf]; omega⟩
      · obtain ⟨gw, rfl, hgw1, hgw2, hcw, hcl⟩ := own_cell hO (by omega)
        have hW := wW_hi B h16
        obtain ⟨n16, hn16⟩ : ∃ m, m = n - 16 := ⟨_, rfl⟩
        obtain ⟨n15, hn15⟩ : ∃ m, m = n - 15 := ⟨_, rfl⟩
        obtain ⟨n7, hn7⟩ : ∃ m, m = n - 7 := ⟨_, rfl⟩
        obtain ⟨n2, hn2⟩ : ∃ m, m = n - 2 := ⟨_, rfl⟩
        rw [← hn16, ← hn15, ← hn7, ← hn2] at hW
        have c16 := hcl n16 _ (wList_at B (show n16 < n by omega))
        have c15 := hcl n15 _ (wList_at B (show n15 < n by omega))
        have c7 := hcl n7 _ (wList_at B (show n7 < n by omega))
        have c2 := hcl n2 _ (wList_at B (show n2 < n by omega))
        have hxl16 : (iV (wList B n))[n16]? = some (.int .i64 (wW B n16 : Nat)) := by unfold iV; rw [List.getElem?_map, wList_at B (show n16 < n by omega)]; rfl
        have hxl7 : (iV (wList B n))[n7]? = some (.int .i64 (wW B n7 : Nat)) := by unfold iV; rw [List.getElem?_map, wList_at B (show n7 < n by omega)]; rfl
        have l16 := wW_lt B hBl n16
        have l15 := wW_lt B hBl n15
        have l7 := wW_lt B hBl n7
        have l2 := wW_lt B hBl n2
        obtain ⟨A0, hA0⟩ : ∃ A, A = wW B n16 := ⟨_, rfl⟩
        obtain ⟨A1, hA1⟩ : ∃ A, A = wW B n15 := ⟨_, rfl⟩
        obtain ⟨A9, hA9⟩ : ∃ A, A = wW B n7 := ⟨_, rfl⟩
        obtain ⟨A14, hA14⟩ : ∃ A, A = wW B n2 := ⟨_, rfl⟩
        rw [← hA0] at c16 hW l16 hxl16
        rw [← hA1] at c15 hW l15
        rw [← hA9] at c7 hW l7 hxl7
        rw [← hA14] at c2 hW l2
        clear hA0 hA1 hA9 hA14
        have e16 : (n : Int) - 16 = (n16 : Int) := by omega
        have e15 : (n : Int) - 15 = (n15 : Int) := by omega
        have e7 : (n : Int) - 7 = (n7 : Int) := by omega
        have e2 : (n : Int) - 2 = (n2 : Int) := by omega
        have m16 : IntKind.i64.wrap (n16 : Int) = (n16 : Int) := IntWalk.i64_in _ (by omega)
        have m15 : IntKind.i64.wrap (n15 : Int) = (n15 : Int) := IntWalk.i64_in _ (by omega)
        have m7 : IntKind.i64.wrap (n7 : Int) = (n7 : Int) := IntWalk.i64_in _ (by omega)
        have m2 : IntKind.i64.wrap (n2 : Int) = (n2 : Int) := IntWalk.i64_in _ (by omega)
        have p16 : (0 : Int) ≤ (n16 : Int) := by omega
        have p15 : (0 : Int) ≤ (n15 : Int) := by omega
        have p7 : (0 : Int) ≤ (n7 : Int) := by omega
        have p2 : (0 : Int) ≤ (n2 : Int) := by omega
        have o16 : (n16 : Int) < (n : Int) := by omega
        have o15 : (n15 : Int) < (n : Int) := by omega
        have o7 : (n7 : Int) < (n : Int) := by omega
        have o2 : (n2 : Int) < (n : Int) := by omega
        have x1 := x32 (rotW A1 7) (rotW A1 18) (rotW_lt _ _ l15) (rotW_lt _ _ l15)
        have x2 : bits .xor .i64 ((rotW A1 7 ^^^ rotW A1 18 : Nat) : Int) ((A1 : Int) / 8) = ((g0 A1 : Nat) : Int) := xor_shift (rotW A1 7 ^^^ rotW A1 18) A1 8 (xor_lt (rotW_lt _ _ l15) (rotW_lt _ _ l15)) l15 (by decide)
        have x3 := x32 (rotW A14 17) (rotW A14 19) (rotW_lt _ _ l2) (rotW_lt _ _ l2)
        have x4 : bits .xor .i64 ((rotW A14 17 ^^^ rotW A14 19 : Nat) : Int) ((A14 : Int) / 1024) = ((g1 A14 : Nat) : Int) := xor_shift (rotW A14 17 ^^^ rotW A14 19) A14 1024 (xor_lt (rotW_lt _ _ l2) (rotW_lt _ _ l2)) l2 (by decide)
        have lG0 := g0_lt l15
        have lG1 := g1_lt l2
        obtain ⟨G0, hG0⟩ : ∃ G, G = g0 A1 := ⟨_, rfl⟩
        obtain ⟨G1, hG1⟩ : ∃ G, G = g1 A14 := ⟨_, rfl⟩
        rw [← hG0] at x2 lG0 hW
        rw [← hG1] at x4 lG1 hW
        clear hG0 hG1
        obtain ⟨s1, s2, s3⟩ := sum4_ok A0 G0 A9 G1 l16 lG0 l7 lG1
        have HLW := Lib.hid (fun W => low_sum4 A0 G0 A9 G1 _ l16 lG0 l7 lG1 hW W)
        obtain ⟨X, hX⟩ : ∃ X, X = wW B n := ⟨_, rfl⟩
        rw [← hX] at HLW
        have HX := Lib.hid hX
        have HOB := Lib.hid (And.intro hO hB)
        have f16 : (iV (wList B n))[n16]? = some (.int .i64 (A0 : Nat)) := hxl16
        have f7 : (iV (wList B n))[n7]? = some (.int .i64 (A9 : Nat)) := hxl7
        clear hxl16 hxl7 hX hW hcl hn16 hn15 hn7 hn2 hO hB
        go_upto_region 9 with fail
        go_region_held3 (fun w' => w'.cell? ⟨gw, n16, none⟩ = some (.int .i64 (A0 : Nat)) ∧ w'.cell? ⟨gw, n7, none⟩ = some (.int .i64 (A9 : Nat)))
          (first | exact ⟨c16, c7⟩ | exact ⟨cellA c16 _, cellA c7 _⟩ | exact ⟨hkp n16 _ f16, hkp n7 _ f7⟩)
          (first
            | (go_at_call_of 114 (Value.int .i64 7); ((with_reducible refine (right_7 A1 l15 _).mono ?_)); rintro e' w4 ⟨rfl, rfl⟩)
            | (go_at_call_of 114 (Value.int .i64 18); ((with_reducible refine (right_18 A1 l15 _).mono ?_)); rintro e' w4 ⟨rfl, rfl⟩)
            | (go_at_call_of 114 (Value.int .i64 17); ((with_reducible refine (right_17 A14 l2 _).mono ?_)); rintro e' w4 ⟨rfl, rfl⟩)
            | (go_at_call_of 114 (Value.int .i64 19); ((with_reducible refine (right_19 A14 l2 _).mono ?_)); rintro e' w4 ⟨rfl, rfl⟩)
            | (go_at_call 113; ((with_reducible refine (HLW.out _).mono ?_)); rintro e' w4 ⟨rfl, rfl⟩)
            | (refine step_append_keeps (by rfl) _ _ _ (by rfl) w.heap.size 3 i0 (.int .i64 0) 1 8 Try.underlying50 hi hz0 hz1 hz2 rfl (by decide) gw n cv (iV (wList B n)) (by rfl) (World.ownsRow.alloc (drewO (drewO (drewO (drewO (drewO HOB.out.1))))) _) ⟨wr.heap.size, 0, none⟩ 1 1 [.int .i64 (X : Nat)] (by rfl) (by rfl) (cell1_new _ _ _) (one1 _ rfl) (by unfold maxLen; omega) (by omega) (by simp; omega) ?_; intro v1 w1 hown1 hgrow hkp))
        all_goals
          have hO4 : w1.ownsRow w.heap.size 3 1 v1 (n + 1) (iV (wList B (n + 1))) := by
            rw [wList, iV_app]
            have := hown1
            rw [HX.out] at this
            exact this
          have hB1 : Below w.heap.size w w1 := ((HOB.out.2.alloc HOB.out.2.size (Obj.cells #[.int .i64 (X : Nat)] 3)).drew.drew.drew.drew.drew).grown hgrow (Nat.le_trans HOB.out.2.size (by simp)) (fun j hj => by cases hj; exact hgw1)
          have HF := Lib.hid (And.intro hO4 hB1)
          clear hown1 hgrow hkp hO4 hB1 HOB HX c16 c15 c7 c2 f16 f7 HLW x1 x2 x3 x4 s1 s2 s3
          go_wp2
          exact ⟨⟨n + 1, by go_num, by omega, HF.out⟩, by simp [intOf]; omega⟩
    · have hn64 : n = 64 := by omega
      subst hn64
      obtain ⟨gw, rfl, hgw1, hgw2, hcw, hcl⟩ := own_cell hO (by omega)
      have hE : (wr.alloc (Obj.cells #[] 3)).ownsRow wr.heap.size 3 1 (.slice (some ⟨wr.heap.size, 0, none⟩) 0 0) 0 [] := World.ownsRow_lit (base := wr.heap.size) (e := 3) (size := 1) wr #[] 0 (Nat.le_refl _) (by decide) rfl
      have hcc : 0 < 8 → ∃ ad, some (⟨gh, 0, none⟩ : Addr) = some ad ∧ ∀ j u, (iV H.list)[j]? = some u → (wr.alloc (Obj.cells #[] 3)).cell? (ad.add j) = some u := fun _ => ⟨_, rfl, fun j u hu => by
        rw [add_off', Nat.zero_add]
        unfold iV at hu
        rw [List.getElem?_map] at hu
        cases hx : H.list[j]? with
        | none => rw [hx] at hu; cases hu
        | some x =>
          rw [hx] at hu
          cases hu
          exact cellA ((hB.cell (p := ⟨gh, j, none⟩) HG.out.2.1).trans (HCH.out j x hx)) _⟩
      have h1 : ∀ u ∈ iV H.list, u.oneCell' = true := by
        intro u hu
        unfold iV at hu
        obtain ⟨x, _, rfl⟩ := List.mem_map.1 hu
        rfl
      have hl8 : (iV H.list).length = 8 * 1 := rfl
      obtain ⟨IH, hIH⟩ : ∃ IH, IH = iV H.list := ⟨_, rfl⟩
      rw [← hIH] at hcc h1 hl8
      have HCC := Lib.hid (And.intro hE (And.intro hcc (And.intro h1 hl8)))
      have HOB := Lib.hid (And.intro hO hB)
      have HIH := Lib.hid hIH
      clear hE hcc h1 hl8 hO hB hcl hIH
      go_wp2_with (at_builtin; refine wpList_append_row rfl _ _ 50 rfl wr.heap.size 3 i0 (.int .i64 0) 1 8 Try.underlying50 hi hz0 hz1 hz2 rfl (by decide) wr.heap.size rfl HCC.out.1 (some ⟨gh, 0, none⟩) 8 ch IH rfl HCC.out.2.2.2 HCC.out.2.1 HCC.out.2.2.1 (by unfold maxLen; omega) (by omega) (by simp) ?_)
      intro v' w1 hO1 hg1
      have hB1 : Below w.heap.size w w1 := (HOB.out.2.alloc HOB.out.2.size _).grown hg1 (by have := HOB.out.2.size; simp; omega) (fun j hj => by cases hj; exact HOB.out.2.size)
      have hW1 : w1.ownsRow w.heap.size 3 1 (.slice (some ⟨gw, 0, none⟩) 64 cv) 64 (iV (wList B 64)) := World.ownsRow.kept (World.ownsRow.alloc HOB.out.1 _) hg1 (by simp [Value.ownBlock]; omega)
      have hV1 : w1.ownsRow w.heap.size 3 1 v' 8 (iV H.list) := by rw [← HIH.out]; exact owns_mono hO1 HOB.out.2.size
      have HS := Lib.hid (And.intro hV1 (And.intro hW1 hB1))
      clear hO1 hg1 hB1 hW1 hV1 HOB HCC HIH
      go_wp2_with fail
      go_loopw [11, 12] (fun v iv wr => ∃ n : Nat, iv = .int .i64 n ∧ n ≤ 64 ∧ wr.ownsRow w.heap.size 3 1 v 8 (iV (rnds K B H n).list) ∧ wr.ownsRow w.heap.size 3 1 (.slice (some ⟨gw, 0, none⟩) 64 cv) 64 (iV (wList B 64)) ∧ Below w.heap.size w wr) (fun _ iv _ => 64 - (intOf iv).toNat)
      case atStart => exact ⟨0, by go_num, by omega, HS.out⟩
      case round =>
        clear HS
        obtain ⟨n, rfl, hn, hV, hW, hB⟩ := hrel
        obtain ⟨av, vc, rfl⟩ := slice_own hV
        obtain ⟨gv, rfl, hgv1, hgv2, hvc, hvl⟩ := own_cell hV (by omega)
        by_cases hlt : n < 64
        · have hul := rnds_lt (K := K) (B := B) HH.out n
          have hnx : rnds K B H (n + 1) = rnd (K n) (wW B n) (rnds K B H n) := rfl
          obtain ⟨u, hu⟩ : ∃ u, u = rnds K B H n := ⟨_, rfl⟩
          rw [← hu] at hul hnx hvl
          have HNX := Lib.hid hnx
          clear hu hnx
          obtain ⟨a, b, c, d, e, f, g, h⟩ := u
          obtain ⟨la, lb, lc, ld, le, lf, lg, lh⟩ := hul
          simp only at la lb lc ld le lf lg lh
          have c0 := hvl 0 a rfl
          have c1 := hvl 1 b rfl
          have c2 := hvl 2 c rfl
          have c3 := hvl 3 d rfl
          have c4 := hvl 4 e rfl
          have c5 := hvl 5 f rfl
          have c6 := hvl 6 g rfl
          have c7 := hvl 7 h rfl
          have lW := wW_lt B hBl n
          obtain ⟨gW', hgW', _, _, _, hcl⟩ := own_cell hW (by omega)
          have hgW2 : gW' = gw := by cases hgW'; rfl
          subst hgW2
          have cw := hcl n _ (wList_at B (show n < 64 by omega))
          have lK := (HKK.out n hlt).2
          have ck := (hB.cell (p := ⟨gk, n, none⟩) HG.out.2.2).trans (HCK.out n _ (HKK.out n hlt).1)
          obtain ⟨WN, hWN⟩ : ∃ WN, WN = wW B n := ⟨_, rfl⟩
          rw [← hWN] at lW HNX cw
          obtain ⟨KN, hKN⟩ : ∃ KN, KN = K n := ⟨_, rfl⟩
          rw [← hKN] at lK HNX ck
          have HS := Lib.hid (And.intro hW hB)
          have i1 : (0 : Int) ≤ (n : Int) := by omega
          have i2 : (n : Int) < 64 := by omega
          have x1 := x32 (rotW e 6) (rotW e 11) (rotW_lt _ _ le) (rotW_lt _ _ le)
          have x2 : bits .xor .i64 ((rotW e 6 ^^^ rotW e 11 : Nat) : Int) ((rotW e 25 : Nat) : Int) = ((f1 e : Nat) : Int) := x32 (rotW e 6 ^^^ rotW e 11) (rotW e 25) (xor_lt (rotW_lt _ _ le) (rotW_lt _ _ le)) (rotW_lt _ _ le)
          have x3 := a32 e f le lf
          obtain ⟨E, hE⟩ : ∃ E, E = 4294967295 - e := ⟨_, rfl⟩
          have lE : E < 4294967296 := by omega
          have eE : (4294967295 : Int) - (e : Int) = (E : Int) := by omega
          have wE : IntKind.i64.wrap (E : Int) = (E : Int) := IntWalk.i64_in _ (by omega)
          have x4 := a32 E g lE lg
          have x5 : bits .xor .i64 ((e &&& f : Nat) : Int) ((E &&& g : Nat) : Int) = ((chN e f g : Nat) : Int) := by
            have hx := x32 (e &&& f) (E &&& g) (and_lt lf) (and_lt lg)
            rw [show (e &&& f) ^^^ (E &&& g) = chN e f g by rw [hE]; exact ch_eq le lf lg] at hx
            exact hx
          have lF := f1_lt le
          have lC := ch_lt (e := e) lf lg
          have HT : Hid (tOf KN WN ⟨a, b, c, d, e, f, g, h⟩ = h + f1 e + chN e f g + KN + WN) := Lib.hid rfl
          obtain ⟨F1, hF1⟩ : ∃ F, F = f1 e := ⟨_, rfl⟩
          obtain ⟨CH, hCH⟩ : ∃ C, C = chN e f g := ⟨_, rfl⟩
          rw [← hF1] at lF HT x2
          rw [← hCH] at lC HT x5
          obtain ⟨T, hT⟩ : ∃ T, T = tOf KN WN ⟨a, b, c, d, e, f, g, h⟩ := ⟨_, rfl⟩
          have hNX2 : rnds K B H (n + 1) = ⟨(T + (f0 a + majN a b c)) % 4294967296, a, b, c, (d + T) % 4294967296, e, f, g⟩ := by rw [HNX.out, hT]; rfl
          rw [← hT] at HT
          have lT : T < 21474836480 := by have := HT.out; omega
          have s1 : IntKind.i64.wrap ((h : Int) + (F1 : Int)) = (h : Int) + (F1 : Int) := IntWalk.i64_in _ (by omega)
          have s2 : IntKind.i64.wrap ((h : Int) + (F1 : Int) + (CH : Int)) = (h : Int) + (F1 : Int) + (CH : Int) := IntWalk.i64_in _ (by omega)
          have s3 : IntKind.i64.wrap ((h : Int) + (F1 : Int) + (CH : Int) + (KN : Int)) = (h : Int) + (F1 : Int) + (CH : Int) + (KN : Int) := IntWalk.i64_in _ (by omega)
          have s4 : IntKind.i64.wrap ((h : Int) + (F1 : Int) + (CH : Int) + (KN : Int) + (WN : Int)) = (T : Int) := by rw [IntWalk.i64_in _ (by omega)]; have := HT.out; omega
          have HNX2 := Lib.hid hNX2
          clear hV hW hB hvl hcl hWN hKN hF1 hCH hT hE hNX2 HNX HT hgW'
          go_upto_region 16 with fail
          go_quiet (first | (go_at_call_of 114 (Value.int .i64 6); refine sha_quiet_dr (right_6 e le _)) | (go_at_call_of 114 (Value.int .i64 11); refine sha_quiet_dr (right_11 e le _)) | (go_at_call_of 114 (Value.int .i64 25); refine sha_quiet_dr (right_25 e le _)))
          obtain ⟨W2, hW2⟩ : ∃ W, W = wr.drewN nq := ⟨_, rfl⟩
          replace c1 : W2.cell? ⟨gv, 1, none⟩ = some (.int .i64 (b : Nat)) := by rw [hW2]; exact c1
          replace c2 : W2.cell? ⟨gv, 2, none⟩ = some (.int .i64 (c : Nat)) := by rw [hW2]; exact c2
          replace c3 : W2.cell? ⟨gv, 3, none⟩ = some (.int .i64 (d : Nat)) := by rw [hW2]; exact c3
          replace c5 : W2.cell? ⟨gv, 5, none⟩ = some (.int .i64 (f : Nat)) := by rw [hW2]; exact c5
          replace c6 : W2.cell? ⟨gv, 6, none⟩ = some (.int .i64 (g : Nat)) := by rw [hW2]; exact c6
          have HS2 : Hid (W2.ownsRow w.heap.size 3 1 (.slice (some ⟨gW', 0, none⟩) 64 cv) 64 (iV (wList B 64)) ∧ Below w.heap.size w W2) := Lib.hid (by rw [hW2]; exact ⟨HS.out.1, below_drewN' HS.out.2 nq⟩)
          rw [← hW2]
          clear hW2 HS c0 c4 c7 cw ck x1 x2 x3 x4 x5 s1 s2 s3 s4 eE wE
          have y1 := x32 (rotW a 2) (rotW a 13) (rotW_lt _ _ la) (rotW_lt _ _ la)
          have y2 : bits .xor .i64 ((rotW a 2 ^^^ rotW a 13 : Nat) : Int) ((rotW a 22 : Nat) : Int) = ((f0 a : Nat) : Int) := x32 (rotW a 2 ^^^ rotW a 13) (rotW a 22) (xor_lt (rotW_lt _ _ la) (rotW_lt _ _ la)) (rotW_lt _ _ la)
          have y3 := a32 a b la lb
          have y4 := a32 a c la lc
          have y5 := x32 (a &&& b) (a &&& c) (and_lt lb) (and_lt lc)
          have y6 := a32 b c lb lc
          have y7 : bits .xor .i64 ((a &&& b ^^^ a &&& c : Nat) : Int) ((b &&& c : Nat) : Int) = ((majN a b c : Nat) : Int) := by
            have hx := x32 (a &&& b ^^^ a &&& c) (b &&& c) (xor_lt (and_lt lb) (and_lt lc)) (and_lt lc)
            rw [maj_eq] at hx
            exact hx
          have lF0 := f0_lt la
          have lMJ := maj_lt (c := c) la lb
          have hNX2 := HNX2.out
          obtain ⟨F0, hF0⟩ : ∃ F, F = f0 a := ⟨_, rfl⟩
          obtain ⟨MJ, hMJ⟩ : ∃ C, C = majN a b c := ⟨_, rfl⟩
          rw [← hF0] at lF0 hNX2 y2
          rw [← hMJ] at lMJ hNX2 y7
          obtain ⟨U, hU⟩ : ∃ U, U = F0 + MJ := ⟨_, rfl⟩
          rw [← hU] at hNX2
          have s5 : IntKind.i64.wrap ((F0 : Int) + (MJ : Int)) = (U : Int) := by rw [IntWalk.i64_in _ (by omega)]; omega
          have lU : U < 8589934592 := by omega
          obtain ⟨TU, hTU⟩ : ∃ TU, TU = T + U := ⟨_, rfl⟩
          obtain ⟨DT, hDT⟩ : ∃ DT, DT = d + T := ⟨_, rfl⟩
          rw [← hTU, ← hDT] at hNX2
          have s6 : IntKind.i64.wrap ((T : Int) + (U : Int)) = (TU : Int) := by rw [IntWalk.i64_in _ (by omega)]; omega
          have s7 : IntKind.i64.wrap ((d : Int) + (T : Int)) = (DT : Int) := by rw [IntWalk.i64_in _ (by omega)]; omega
          have lTU : TU < 4611686018427387904 := by omega
          have lDT : DT < 4611686018427387904 := by omega
          obtain ⟨M1, hM1⟩ : ∃ M, M = TU % 4294967296 := ⟨_, rfl⟩
          obtain ⟨M2, hM2⟩ : ∃ M, M = DT % 4294967296 := ⟨_, rfl⟩
          have HL1 : Hid (∀ W, Calls Try.prog 113 #[.int .i64 TU] W fun e w' => e = .returned (.int .i64 (M1 : Nat)) ∧ w' = W) := Lib.hid (fun W => by rw [hM1]; exact low_any TU lTU W)
          have HL2 : Hid (∀ W, Calls Try.prog 113 #[.int .i64 DT] W fun e w' => e = .returned (.int .i64 (M2 : Nat)) ∧ w' = W) := Lib.hid (fun W => by rw [hM2]; exact low_any DT lDT W)
          rw [← hM1, ← hM2] at hNX2
          have HNX := Lib.hid hNX2
          clear HNX2 hNX2 hF0 hMJ hU hTU hDT hM1 hM2 lTU lDT
          go_upto_region 17 with fail
          go_quiet (first | (go_at_call_of 114 (Value.int .i64 2); refine sha_quiet_dr (right_2 a la _)) | (go_at_call_of 114 (Value.int .i64 13); refine sha_quiet_dr (right_13 a la _)) | (go_at_call_of 114 (Value.int .i64 22); refine sha_quiet_dr (right_22 a la _)))
          obtain ⟨W3, hW3⟩ : ∃ W, W = W2.drewN nq := ⟨_, rfl⟩
          replace c1 : W3.cell? ⟨gv, 1, none⟩ = some (.int .i64 (b : Nat)) := by rw [hW3]; exact c1
          replace c2 : W3.cell? ⟨gv, 2, none⟩ = some (.int .i64 (c : Nat)) := by rw [hW3]; exact c2
          replace c3 : W3.cell? ⟨gv, 3, none⟩ = some (.int .i64 (d : Nat)) := by rw [hW3]; exact c3
          replace c5 : W3.cell? ⟨gv, 5, none⟩ = some (.int .i64 (f : Nat)) := by rw [hW3]; exact c5
          replace c6 : W3.cell? ⟨gv, 6, none⟩ = some (.int .i64 (g : Nat)) := by rw [hW3]; exact c6
          have HS3 : Hid (W3.ownsRow w.heap.size 3 1 (.slice (some ⟨gW', 0, none⟩) 64 cv) 64 (iV (wList B 64)) ∧ Below w.heap.size w W3) := Lib.hid (by rw [hW3]; exact ⟨HS2.out.1, below_drewN' HS2.out.2 nq⟩)
          rw [← hW3]
          clear hW3 HS2 y1 y2 y3 y4 y5 y6 y7 s5
          go_upto_region 18 with fail
          go_region_held3 (fun w' => w'.cell? ⟨gv, 1, none⟩ = some (.int .i64 (b : Nat)) ∧ w'.cell? ⟨gv, 2, none⟩ = some (.int .i64 (c : Nat)) ∧ w'.cell? ⟨gv, 3, none⟩ = some (.int .i64 (d : Nat)) ∧ w'.cell? ⟨gv, 5, none⟩ = some (.int .i64 (f : Nat)) ∧ w'.cell? ⟨gv, 6, none⟩ = some (.int .i64 (g : Nat)))
            (first | exact ⟨c1, c2, c3, c5, c6⟩ | exact ⟨cellA c1 _, cellA c2 _, cellA c3 _, cellA c5 _, cellA c6 _⟩)
            (first
              | (go_at_call_of 113 (Value.int .i64 (TU : Nat)); ((with_reducible refine (HL1.out _).mono ?_)); rintro e' w4 ⟨rfl, rfl⟩)
              | (go_at_call_of 113 (Value.int .i64 (DT : Nat)); ((with_reducible refine (HL2.out _).mono ?_)); rintro e' w4 ⟨rfl, rfl⟩))
          all_goals
            have hLit : (W3.alloc (Obj.cells #[.int .i64 (M1 : Nat), .int .i64 (a : Nat), .int .i64 (b : Nat), .int .i64 (c : Nat), .int .i64 (M2 : Nat), .int .i64 (e : Nat), .int .i64 (f : Nat), .int .i64 (g : Nat)] 3)).ownsRow w.heap.size 3 1 (.slice (some ⟨W3.heap.size, 0, none⟩) 8 8) 8 (iV (rnds K B H (n + 1)).list) := by
              rw [HNX.out]
              exact World.ownsRow_lit (base := w.heap.size) (e := 3) (size := 1) W3 #[.int .i64 (M1 : Nat), .int .i64 (a : Nat), .int .i64 (b : Nat), .int .i64 (c : Nat), .int .i64 (M2 : Nat), .int .i64 (e : Nat), .int .i64 (f : Nat), .int .i64 (g : Nat)] 8 HS3.out.2.size (by decide) rfl
            have HF := Lib.hid (And.intro hLit (And.intro (World.ownsRow.alloc HS3.out.1 (Obj.cells #[.int .i64 (M1 : Nat), .int .i64 (a : Nat), .int .i64 (b : Nat), .int .i64 (c : Nat), .int .i64 (M2 : Nat), .int .i64 (e : Nat), .int .i64 (f : Nat), .int .i64 (g : Nat)] 3)) (HS3.out.2.alloc HS3.out.2.size (Obj.cells #[.int .i64 (M1 : Nat), .int .i64 (a : Nat), .int .i64 (b : Nat), .int .i64 (c : Nat), .int .i64 (M2 : Nat), .int .i64 (e : Nat), .int .i64 (f : Nat), .int .i64 (g : Nat)] 3))))
            clear hLit HS3 HNX HL1 HL2 c1 c2 c3 c5 c6 s6 s7
            go_wp2
            exact ⟨⟨n + 1, by go_num, by omega, HF.out.1, HF.out.2.1, HF.out.2.2.drew⟩, by simp [intOf]; omega⟩
        · have hn64 : n = 64 := by omega
          obtain ⟨u, hu⟩ : ∃ u, u = rnds K B H n := ⟨_, rfl⟩
          have hfin : blkV K B H = addV H u := by rw [hu, hn64]; rfl
          have hul : u.lt := by rw [hu]; exact rnds_lt HH.out n
          rw [← hu] at hvl
          have HFIN := Lib.hid hfin
          obtain ⟨W0, hW0⟩ : ∃ W0, W0 = wr := ⟨_, rfl⟩
          have hG2 : ∀ j x, H.list[j]? = some x → W0.cell? ⟨gh, j, none⟩ = some (.int .i64 (x : Nat)) := fun j x hx => by rw [hW0]; exact (hB.cell (p := ⟨gh, j, none⟩) HG.out.2.1).trans (HCH.out j x hx)
          have hgh0 : gh < W0.heap.size := by rw [hW0]; exact Nat.lt_of_lt_of_le HG.out.2.1 hB.size
          rw [← hW0] at hvl hgv2 hB
          have HR := Lib.hid (And.intro hG2 (And.intro hvl (And.intro hgh0 (And.intro hgv2 hB))))
          have HUL := Lib.hid hul
          have HB0 := Lib.hid (hW0 ▸ Below.refl _ _ : Below W0.heap.size W0 wr)
          clear hn64 hu hfin hul hV hW hB hvl hG2 hgh0 hgv2 hW0
          go_wp2_with fail
          go_loopw [17, 18] (fun v iv wr => ∃ j : Nat, iv = .int .i64 j ∧ j ≤ 8 ∧ wr.ownsRow W0.heap.size 3 1 v j (iV ((addV H u).list.take j)) ∧ Below W0.heap.size W0 wr) (fun _ iv _ => 8 - (intOf iv).toNat)
          case atStart => exact ⟨0, by go_num, by omega, World.ownsRow_nil _ _ _ _, HB0.out⟩
          case round =>
            clear HB0
            obtain ⟨j, rfl, hj, hO, hB⟩ := hrel
            obtain ⟨ao, co, rfl⟩ := slice_own hO
            by_cases hlt : j < 8
            · obtain ⟨x, y, hx, hy, hset⟩ := addV_take H u hlt
              have gx := HR.out.1 j x hx
              have gy := HR.out.2.1 j y hy
              have cx := (hB.cell (p := ⟨gh, j, none⟩) HR.out.2.2.1).trans gx
              have cy := (hB.cell (p := ⟨gv, j, none⟩) HR.out.2.2.2.1).trans gy
              have lx : x < 4294967296 := V8.lt_at HH.out hx
              have ly : y < 4294967296 := V8.lt_at HUL.out hy
              obtain ⟨XY, hXY⟩ : ∃ XY, XY = x + y := ⟨_, rfl⟩
              have s1 : IntKind.i64.wrap ((x : Int) + (y : Int)) = (XY : Int) := by rw [IntWalk.i64_in _ (by omega)]; omega
              have lXY : XY < 4611686018427387904 := by omega
              rw [← hXY] at hset
              obtain ⟨M, hM⟩ : ∃ M, M = XY % 4294967296 := ⟨_, rfl⟩
              have HL : Hid (∀ W, Calls Try.prog 113 #[.int .i64 XY] W fun e w' => e = .returned (.int .i64 (M : Nat)) ∧ w' = W) := Lib.hid (fun W => by rw [hM]; exact low_any XY lXY W)
              rw [← hM] at hset
              have HSET := Lib.hid hset
              have HOB := Lib.hid (And.intro hO hB)
              have GX := Lib.hid (And.intro gx gy)
              have i1 : (0 : Int) ≤ (j : Int) := by omega
              have i2 : (j : Int) < 8 := by omega
              clear hM hXY hx hy hset hO hB gx gy lXY
              go_upto_region 23 with fail
              go_region_held3 (fun w' => w'.cell? ⟨gh, j, none⟩ = some (.int .i64 (x : Nat)) ∧ w'.cell? ⟨gv, j, none⟩ = some (.int .i64 (y : Nat)))
                (first | exact ⟨cx, cy⟩ | exact ⟨cellA cx _, cellA cy _⟩ | exact ⟨d0, d1⟩)
                (first
                  | (go_at_call 113; ((with_reducible refine (HL.out _).mono ?_)); rintro e' w4 ⟨rfl, rfl⟩)
                  | (refine step_append_lies _ (by rfl) _ _ _ (by rfl) W0.heap.size 3 i0 (.int .i64 0) 1 8 Try.underlying50 hi hz0 hz1 hz2 rfl (by decide) (.slice ao j co) j (iV ((addV H u).list.take j)) (by rfl) (drewO (World.ownsRow.alloc HOB.out.1 _)) ⟨wr.heap.size, 0, none⟩ 1 1 [.int .i64 (M : Nat)] (by rfl) (by rfl) (cell1_new _ _ _) (one1 _ rfl) (by decide) (by unfold maxLen; omega) (by omega) (by have := HOB.out.2.size; simp; omega) (wr.heap.size + 1) (by simp) ?_; intro gg cap w1 hown1 hgrow hat hlt'; have hB1 : Below W0.heap.size W0 w1 := ((HOB.out.2.alloc HOB.out.2.size _).drew).grown hgrow (Nat.le_trans HOB.out.2.size (by simp)) (fun q hq => (World.ownsRow.lt HOB.out.1 q hq).1); have d0 := (hB1.cell (p := ⟨gh, j, none⟩) HR.out.2.2.1).trans GX.out.1; have d1 := (hB1.cell (p := ⟨gv, j, none⟩) HR.out.2.2.2.1).trans GX.out.2))
              all_goals
                have hO4 : w1.ownsRow W0.heap.size 3 1 (.slice (some ⟨gg, 0, none⟩) (j + 1) cap) (j + 1) (iV ((addV H u).list.take (j + 1))) := by
                  rw [HSET.out, iV_app]; exact hown1
                have HF := Lib.hid (And.intro hO4 hB1)
                clear d0 d1 hown1 hgrow hat hlt' hO4 hB1 HOB GX HSET cx cy s1 HL
                go_wp2
                exact ⟨⟨j + 1, by go_num, by omega, HF.out.1, HF.out.2⟩, by simp [intOf]; omega⟩
            · have hj8 : j = 8 := by omega
              subst hj8
              have hO8 : wr.ownsRow W0.heap.size 3 1 (.slice ao 8 co) 8 (iV (blkV K B H).list) := by rw [HFIN.out]; exact hO
              have HF := Lib.hid (And.intro hO8 hB)
              clear hO hB hO8
              go_wp2
              go_ret
              exact ⟨_, rfl, owns_mono HF.out.1 HR.out.2.2.2.2.size, HR.out.2.2.2.2.trans (HF.out.2.mono HR.out.2.2.2.2.size)⟩
end Go.Proofs.Ytgemhgllifhckaa
namespace Go.Proofs.Ytgemhgllifhckaa
open Go.RowKit
set_option linter.unusedVariables false
set_option linter.unusedSimpArgs false
theorem below_alloc1 (w : World) (o : Obj) : Below w.heap.size w (w.alloc o) := (Below.refl _ _).alloc (Nat.le_refl _) _
theorem roots64 : (P64.map k3).take 64 = KL0 := List.take_of_length_le (by rw [List.length_map, P64_len]; exact Nat.le_refl _)
theorem P64_t8 : P64.take 8 = [2, 3, 5, 7, 11, 13, 17, 19] := by decide
theorem roots8 : (P64.map k2).take 8 = H0.list := by rw [← List.map_take, P64_t8]; rfl
theorem be8_last (n j : Nat) (l : List UInt8) : l ++ be8 n (j + 1) = l ++ be8 n j ++ [UInt8.ofNat (8 * n / 2 ^ (8 * (7 - j)))] := by rw [be8_succ, List.append_assoc]
theorem and255 (x : Nat) (hx : x < 4611686018427387904) : bits .and .i64 (x : Int) 255 = ((x % 256 : Nat) : Int) := by
  have h := i64_and x 255 (by omega) (by decide)
  rw [show x &&& 255 = x % 256 from Nat.and_two_pow_sub_one_eq_mod x 8] at h
  exact h
theorem padL_at (l : List UInt8) (q j : Nat) (hj : j < 64) (h : 64 * q + 64 ≤ l.length) : l[64 * q + j]? = some (((l.drop (64 * q)).take 64).getD j 0) := by
  have h1 : ((l.drop (64 * q)).take 64)[j]? = l[64 * q + j]? := by rw [List.getElem?_take, if_pos hj, List.getElem?_drop]
  rw [List.getD_eq_getElem?_getD, h1, List.getElem?_eq_getElem (by omega)]
  rfl
set_option maxRecDepth 100000 in
set_option maxHeartbeats 4000000 in
theorem rsum_any (w : World) (s : ByteArray) (hs : s.size ≤ 900000000) :
    Calls Try.prog 37 #[.string s] w fun e w' => e = .returned (.string (shaS s)) ∧ Below w.heap.size w w' := by
  obtain ⟨i0, hi, hz0, hz1, hz2⟩ := info_parts infoByte
  obtain ⟨K, hK⟩ : ∃ K : Nat → Nat, K = fun i => KL0.getD i 0 := ⟨_, rfl⟩
  obtain ⟨S, hS⟩ : ∃ S, S = s.data.toList := ⟨_, rfl⟩
  obtain ⟨n, hn⟩ : ∃ n, n = s.size := ⟨_, rfl⟩
  have hSn : S.length = n := by rw [hS, hn]; exact dl s
  obtain ⟨P, hP⟩ : ∃ P, P = padL S := ⟨_, rfl⟩
  have hH : shaS s = ⟨(outV (blks K P H0 (P.length / 64))).toArray⟩ := by rw [hP, hS, hK]; rfl
  obtain ⟨Z, hZ⟩ : ∃ Z, Z = (119 - n % 64) % 64 := ⟨_, rfl⟩
  have hPe : P = S ++ endA Z ++ be8 n 8 := by rw [hP, padL, hSn, endingL_eq, ← hZ, List.append_assoc]
  have hel := endingL_len n
  have hPm : P.length % 64 = 0 := by rw [hP, padL, List.length_append, hSn]; exact hel
  obtain ⟨R, hR⟩ : ∃ R, R = P.length / 64 := ⟨_, rfl⟩
  have hPR : P.length = 64 * R := by omega
  have hPl : P.length = n + 1 + Z + 8 := by rw [hPe, List.length_append, List.length_append, hSn, endA_len, be8_len]; omega
  rw [← hR] at hH
  have HH := Lib.hid hH
  have HPE := Lib.hid hPe
  have HPR := Lib.hid (And.intro hPR hPl)
  have HZ := Lib.hid hZ
  have hZ64 : Z < 64 := by omega
  have hs0 : n ≤ 900000000 := by omega
  obtain ⟨U, hU⟩ : ∃ U, U = shaS s := ⟨_, rfl⟩
  rw [← hU] at HH ⊢
  have HRT := Lib.hid (roots_3 64 (by decide) w)
  have HK := Lib.hid hK
  have HSN := Lib.hid (And.intro hS hn)
  clear hP hH hPe hel hPm hPR hPl hR hZ hU hs hK hS hn hSn
  go_enter Try.func37, Try.ntmps37
  go_wp2_with fail
  refine HRT.out.mono ?_
  rintro e w1 ⟨vk, rfl, hk1, hb1⟩
  rw [roots64] at hk1
  have HK1 := Lib.hid (And.intro hk1 hb1)
  have HRT2 := Lib.hid (roots_2 8 (by decide) w1)
  clear hk1 hb1 HRT
  go_wp2_with fail
  refine HRT2.out.mono ?_
  rintro e w2 ⟨vh, rfl, hh2, hb2⟩
  rw [roots8] at hh2
  have hk2 := own_below HK1.out.1 hb2
  have hB2 : Below w.heap.size w w2 := HK1.out.2.trans (hb2.mono HK1.out.2.size)
  obtain ⟨cap, C, fz, hcv, hby⟩ := letters_byR w2 w2.heap.size (Nat.le_refl _) s (by have := HSN.out.2; omega)
  obtain ⟨W3, hW3⟩ : ∃ W, W = w2.drew.alloc (.cells C 5 fz) := ⟨_, rfl⟩
  rw [← hW3] at hcv hby
  have hB3 : Below w2.heap.size w2 W3 := by rw [hW3]; exact (Below.refl _ _).drew.alloc (Nat.le_refl _) _
  rw [← HSN.out.1] at hby
  have hsz : s.size = n := HSN.out.2.symm
  rw [hsz] at hcv hby
  have HR2 := Lib.hid (And.intro (owns_mono hh2 HK1.out.2.size) (And.intro hk2 hB2))
  have HB3 := Lib.hid (And.intro (hby.kept (below_alloc1 W3 (Obj.cells #[.int .u8 128] 5))) hB3)
  clear hh2 hb2 hk2 hB2 hby hB3 hW3 HRT2 HK1 hsz
  go_wp2_with (at_builtin; refine wpList_append_byR _ rfl _ _ 81 rfl i0 (.int .u8 0) Try.underlying81 hi hz0 hz1 hz2 rfl w2.heap.size _ n S rfl HB3.out.1 (by have := HB3.out.2.size; simp; omega) ⟨W3.heap.size, 0, none⟩ 1 128 128 rfl rfl (cell1_new _ _ _) (by omega) ?_)
  intro v4 w4 hB4 hg4
  have hb4 : Below w2.heap.size w2 w4 := (HB3.out.2.alloc HB3.out.2.size _).grown hg4 (by have := HB3.out.2.size; simp; omega) (fun j hj => by cases hj; exact Nat.le_refl _)
  have H4 := Lib.hid (And.intro hB4 hb4)
  clear hB4 hg4 hb4 HB3 hcv
  go_wp2_with fail
  go_loopw [5] (fun v wr => ∃ k : Nat, k ≤ Z ∧ ByR wr w2.heap.size v (n + 1 + k) (S ++ endA k) ∧ Below w2.heap.size w2 wr) (fun v _ => n + 100 - lenOf v)
  case atStart => exact ⟨0, Nat.zero_le _, H4.out⟩
  case round =>
    clear H4
    obtain ⟨k, hk, hO, hB⟩ := hrel
    obtain ⟨g, cp, rfl, hg1, hg2, hcp⟩ := hO.slice
    have hS2 := hB.size
    obtain ⟨m, hm⟩ : ∃ m, m = n + 1 + k := ⟨_, rfl⟩
    rw [← hm] at hO hcp
    rw [← hm]
    by_cases hgo : k < Z
    · have hne : (((m : Int)) % 64 != 56) = true := by have := HZ.out; simp; omega
      have HO := Lib.hid (And.intro (hO.kept (below_alloc1 wr (Obj.cells #[.int .u8 0] 5))) hB)
      have HM := Lib.hid hm
      obtain ⟨L, hL⟩ : ∃ L, L = S ++ endA k := ⟨_, rfl⟩
      rw [← hL] at HO
      have HL := Lib.hid hL
      clear hO hB hm hL
      go_wp2_with (at_builtin; refine wpList_append_byR _ rfl _ _ 81 rfl i0 (.int .u8 0) Try.underlying81 hi hz0 hz1 hz2 rfl w2.heap.size _ m L rfl HO.out.1 (by simp; omega) ⟨wr.heap.size, 0, none⟩ 1 0 0 rfl rfl (cell1_new _ _ _) (by have := HM.out; omega) ?_)
      intro v5 w5 hB5 hg5
      have hb5 : Below w2.heap.size w2 w5 := (HO.out.2.alloc HO.out.2.size _).grown hg5 (by have := HO.out.2.size; simp; omega) (fun j hj => by cases hj; exact hg1)
      have hB6 : ByR w5 w2.heap.size v5 (n + 1 + (k + 1)) (S ++ endA (k + 1)) := by
        have e1 : S ++ endA (k + 1) = S ++ endA k ++ [0] := by rw [endA_succ, List.append_assoc]
        have e2 : n + 1 + (k + 1) = m + 1 := by have := HM.out; omega
        rw [e1, e2, ← HL.out]; exact hB5
      obtain ⟨g5, cp5, rfl, _, _, _⟩ := hB6.slice
      have HF := Lib.hid (And.intro hB6 hb5)
      clear hB5 hB6 hg5 hb5 HO
      go_wp2
      exact ⟨⟨k + 1, by omega, HF.out⟩, by have := HM.out; simp [lenOf]; omega⟩
    · have hkZ : k = Z := by omega
      have hne : (((m : Int)) % 64 != 56) = false := by have := HZ.out; simp; omega
      have HO : Hid (ByR wr w2.heap.size (.slice (some ⟨g, 0, none⟩) m cp) (n + 1 + Z + 0) (S ++ endA Z ++ be8 n 0) ∧ Below w2.heap.size w2 wr) := Lib.hid ⟨by
        have e : S ++ endA Z ++ be8 n 0 = S ++ endA k := by rw [hkZ]; simp [be8]
        rw [e, ← hkZ]
        have : n + 1 + k + 0 = m := by omega
        rw [this]; exact hO, hB⟩
      clear hO hB hm hkZ hcp
      go_wp2_with fail
      go_loopw [5, 6] (fun v i wr => ∃ j : Nat, i = .int .i64 (7 - (j : Int)) ∧ j ≤ 8 ∧ ByR wr w2.heap.size v (n + 1 + Z + j) (S ++ endA Z ++ be8 n j) ∧ Below w2.heap.size w2 wr) (fun _ i _ => (intOf i + 1).toNat)
      case atStart => exact ⟨0, by simp, by omega, HO.out⟩
      case round =>
        clear HO
        obtain ⟨j, rfl, hj, hO, hB⟩ := hrel
        obtain ⟨g, cp, rfl, hg1, hg2, hcp⟩ := hO.slice
        have hS2 := hB.size
        by_cases hlt : j < 8
        · have hj8 : j = 0 ∨ j = 1 ∨ j = 2 ∨ j = 3 ∨ j = 4 ∨ j = 5 ∨ j = 6 ∨ j = 7 := by omega
          rcases hj8 with rfl | rfl | rfl | rfl | rfl | rfl | rfl | rfl
          · obtain ⟨m, hm⟩ : ∃ m, m = n + 1 + Z + 0 := ⟨_, rfl⟩
            rw [← hm] at hO
            rw [← hm]
            obtain ⟨b, hb⟩ : ∃ b, b = 8 * n / 2 ^ (8 * (7 - 0)) % 256 := ⟨_, rfl⟩
            have w1 : IntKind.i64.wrap (8 * (s.size : Int)) = 8 * (n : Int) := by rw [IntWalk.i64_in _ (by have := HSN.out.2; omega)]; have := HSN.out.2; omega
            have hx1 : IntKind.u8.wrap (8 * (n : Int) / 72057594037927936) = (b : Int) := by rw [IntKind.wrap_u8, hb]; simp only [Nat.reduceSub, Nat.reduceMul, Nat.reducePow]; omega
            have hx2 : (8 * (n : Int) / 72057594037927936) % 256 = (b : Int) := by rw [hb]; simp only [Nat.reduceSub, Nat.reduceMul, Nat.reducePow]; omega
            have HBT : Hid ((b : Int) = ((UInt8.ofNat (8 * n / 2 ^ (8 * (7 - 0)))).toNat : Nat)) := Lib.hid (by rw [ofN8, hb])
            have HO := Lib.hid (And.intro (hO.kept (below_alloc1 wr (Obj.cells #[.int .u8 (b : Int)] 5))) hB)
            have HM := Lib.hid hm
            obtain ⟨L, hL⟩ : ∃ L, L = S ++ endA Z ++ be8 n 0 := ⟨_, rfl⟩
            rw [← hL] at HO
            have HL := Lib.hid hL
            obtain ⟨d, hd⟩ : ∃ d, d = UInt8.ofNat (8 * n / 2 ^ (8 * (7 - 0))) := ⟨_, rfl⟩
            rw [← hd] at HBT
            have HD := Lib.hid hd
            clear hb hO hB hm hL hd
            go_wp2_with (at_builtin; refine wpList_append_byR _ rfl _ _ 81 rfl i0 (.int .u8 0) Try.underlying81 hi hz0 hz1 hz2 rfl w2.heap.size _ m L rfl HO.out.1 (by simp; omega) ⟨wr.heap.size, 0, none⟩ 1 d (b : Int) HBT.out rfl (cell1_new _ _ _) (by have := HM.out; omega) ?_)
            intro v5 w5 hB5 hg5
            have hb5 : Below w2.heap.size w2 w5 := (HO.out.2.alloc HO.out.2.size _).grown hg5 (by have := HO.out.2.size; simp; omega) (fun j hj => by cases hj; exact hg1)
            have hB6 : ByR w5 w2.heap.size v5 (n + 1 + Z + 1) (S ++ endA Z ++ be8 n 1) := by
              have e2 : n + 1 + Z + 1 = m + 1 := by have := HM.out; omega
              rw [be8_last n 0, e2, ← HL.out, ← HD.out]; exact hB5
            obtain ⟨g5, cp5, rfl, _, _, _⟩ := hB6.slice
            have HF := Lib.hid (And.intro hB6 hb5)
            clear hB5 hB6 hg5 hb5 HO
            go_wp2
            exact ⟨⟨1, by simp, by omega, HF.out⟩, by simp [intOf]⟩
          · obtain ⟨m, hm⟩ : ∃ m, m = n + 1 + Z + 1 := ⟨_, rfl⟩
            rw [← hm] at hO
            rw [← hm]
            obtain ⟨b, hb⟩ : ∃ b, b = 8 * n / 2 ^ (8 * (7 - 1)) % 256 := ⟨_, rfl⟩
            have w1 : IntKind.i64.wrap (8 * (s.size : Int)) = 8 * (n : Int) := by rw [IntWalk.i64_in _ (by have := HSN.out.2; omega)]; have := HSN.out.2; omega
            have hx1 : IntKind.u8.wrap (8 * (n : Int) / 281474976710656) = (b : Int) := by rw [IntKind.wrap_u8, hb]; simp only [Nat.reduceSub, Nat.reduceMul, Nat.reducePow]; omega
            have hx2 : (8 * (n : Int) / 281474976710656) % 256 = (b : Int) := by rw [hb]; simp only [Nat.reduceSub, Nat.reduceMul, Nat.reducePow]; omega
            have HBT : Hid ((b : Int) = ((UInt8.ofNat (8 * n / 2 ^ (8 * (7 - 1)))).toNat : Nat)) := Lib.hid (by rw [ofN8, hb])
            have HO := Lib.hid (And.intro (hO.kept (below_alloc1 wr (Obj.cells #[.int .u8 (b : Int)] 5))) hB)
            have HM := Lib.hid hm
            obtain ⟨L, hL⟩ : ∃ L, L = S ++ endA Z ++ be8 n 1 := ⟨_, rfl⟩
            rw [← hL] at HO
            have HL := Lib.hid hL
            obtain ⟨d, hd⟩ : ∃ d, d = UInt8.ofNat (8 * n / 2 ^ (8 * (7 - 1))) := ⟨_, rfl⟩
            rw [← hd] at HBT
            have HD := Lib.hid hd
            clear hb hO hB hm hL hd
            go_wp2_with (at_builtin; refine wpList_append_byR _ rfl _ _ 81 rfl i0 (.int .u8 0) Try.underlying81 hi hz0 hz1 hz2 rfl w2.heap.size _ m L rfl HO.out.1 (by simp; omega) ⟨wr.heap.size, 0, none⟩ 1 d (b : Int) HBT.out rfl (cell1_new _ _ _) (by have := HM.out; omega) ?_)
            intro v5 w5 hB5 hg5
            have hb5 : Below w2.heap.size w2 w5 := (HO.out.2.alloc HO.out.2.size _).grown hg5 (by have := HO.out.2.size; simp; omega) (fun j hj => by cases hj; exact hg1)
            have hB6 : ByR w5 w2.heap.size v5 (n + 1 + Z + 2) (S ++ endA Z ++ be8 n 2) := by
              have e2 : n + 1 + Z + 2 = m + 1 := by have := HM.out; omega
              rw [be8_last n 1, e2, ← HL.out, ← HD.out]; exact hB5
            obtain ⟨g5, cp5, rfl, _, _, _⟩ := hB6.slice
            have HF := Lib.hid (And.intro hB6 hb5)
            clear hB5 hB6 hg5 hb5 HO
            go_wp2
            exact ⟨⟨2, by simp, by omega, HF.out⟩, by simp [intOf]⟩
          · obtain ⟨m, hm⟩ : ∃ m, m = n + 1 + Z + 2 := ⟨_, rfl⟩
            rw [← hm] at hO
            rw [← hm]
            obtain ⟨b, hb⟩ : ∃ b, b = 8 * n / 2 ^ (8 * (7 - 2)) % 256 := ⟨_, rfl⟩
            have w1 : IntKind.i64.wrap (8 * (s.size : Int)) = 8 * (n : Int) := by rw [IntWalk.i64_in _ (by have := HSN.out.2; omega)]; have := HSN.out.2; omega
            have hx1 : IntKind.u8.wrap (8 * (n : Int) / 1099511627776) = (b : Int) := by rw [IntKind.wrap_u8, hb]; simp only [Nat.reduceSub, Nat.reduceMul, Nat.reducePow]; omega
            have hx2 : (8 * (n : Int) / 1099511627776) % 256 = (b : Int) := by rw [hb]; simp only [Nat.reduceSub, Nat.reduceMul, Nat.reducePow]; omega
            have HBT : Hid ((b : Int) = ((UInt8.ofNat (8 * n / 2 ^ (8 * (7 - 2)))).toNat : Nat)) := Lib.hid (by rw [ofN8, hb])
            have HO := Lib.hid (And.intro (hO.kept (below_alloc1 wr (Obj.cells #[.int .u8 (b : Int)] 5))) hB)
            have HM := Lib.hid hm
            obtain ⟨L, hL⟩ : ∃ L, L = S ++ endA Z ++ be8 n 2 := ⟨_, rfl⟩
            rw [← hL] at HO
            have HL := Lib.hid hL
            obtain ⟨d, hd⟩ : ∃ d, d = UInt8.ofNat (8 * n / 2 ^ (8 * (7 - 2))) := ⟨_, rfl⟩
            rw [← hd] at HBT
            have HD := Lib.hid hd
            clear hb hO hB hm hL hd
            go_wp2_with (at_builtin; refine wpList_append_byR _ rfl _ _ 81 rfl i0 (.int .u8 0) Try.underlying81 hi hz0 hz1 hz2 rfl w2.heap.size _ m L rfl HO.out.1 (by simp; omega) ⟨wr.heap.size, 0, none⟩ 1 d (b : Int) HBT.out rfl (cell1_new _ _ _) (by have := HM.out; omega) ?_)
            intro v5 w5 hB5 hg5
            have hb5 : Below w2.heap.size w2 w5 := (HO.out.2.alloc HO.out.2.size _).grown hg5 (by have := HO.out.2.size; simp; omega) (fun j hj => by cases hj; exact hg1)
            have hB6 : ByR w5 w2.heap.size v5 (n + 1 + Z + 3) (S ++ endA Z ++ be8 n 3) := by
              have e2 : n + 1 + Z + 3 = m + 1 := by have := HM.out; omega
              rw [be8_last n 2, e2, ← HL.out, ← HD.out]; exact hB5
            obtain ⟨g5, cp5, rfl, _, _, _⟩ := hB6.slice
            have HF := Lib.hid (And.intro hB6 hb5)
            clear hB5 hB6 hg5 hb5 HO
            go_wp2
            exact ⟨⟨3, by simp, by omega, HF.out⟩, by simp [intOf]⟩
          · obtain ⟨m, hm⟩ : ∃ m, m = n + 1 + Z + 3 := ⟨_, rfl⟩
            rw [← hm] at hO
            rw [← hm]
            obtain ⟨b, hb⟩ : ∃ b, b = 8 * n / 2 ^ (8 * (7 - 3)) % 256 := ⟨_, rfl⟩
            have w1 : IntKind.i64.wrap (8 * (s.size : Int)) = 8 * (n : Int) := by rw [IntWalk.i64_in _ (by have := HSN.out.2; omega)]; have := HSN.out.2; omega
            have hx1 : IntKind.u8.wrap (8 * (n : Int) / 4294967296) = (b : Int) := by rw [IntKind.wrap_u8, hb]; simp only [Nat.reduceSub, Nat.reduceMul, Nat.reducePow]; omega
            have hx2 : (8 * (n : Int) / 4294967296) % 256 = (b : Int) := by rw [hb]; simp only [Nat.reduceSub, Nat.reduceMul, Nat.reducePow]; omega
            have HBT : Hid ((b : Int) = ((UInt8.ofNat (8 * n / 2 ^ (8 * (7 - 3)))).toNat : Nat)) := Lib.hid (by rw [ofN8, hb])
            have HO := Lib.hid (And.intro (hO.kept (below_alloc1 wr (Obj.cells #[.int .u8 (b : Int)] 5))) hB)
            have HM := Lib.hid hm
            obtain ⟨L, hL⟩ : ∃ L, L = S ++ endA Z ++ be8 n 3 := ⟨_, rfl⟩
            rw [← hL] at HO
            have HL := Lib.hid hL
            obtain ⟨d, hd⟩ : ∃ d, d = UInt8.ofNat (8 * n / 2 ^ (8 * (7 - 3))) := ⟨_, rfl⟩
            rw [← hd] at HBT
            have HD := Lib.hid hd
            clear hb hO hB hm hL hd
            go_wp2_with (at_builtin; refine wpList_append_byR _ rfl _ _ 81 rfl i0 (.int .u8 0) Try.underlying81 hi hz0 hz1 hz2 rfl w2.heap.size _ m L rfl HO.out.1 (by simp; omega) ⟨wr.heap.size, 0, none⟩ 1 d (b : Int) HBT.out rfl (cell1_new _ _ _) (by have := HM.out; omega) ?_)
            intro v5 w5 hB5 hg5
            have hb5 : Below w2.heap.size w2 w5 := (HO.out.2.alloc HO.out.2.size _).grown hg5 (by have := HO.out.2.size; simp; omega) (fun j hj => by cases hj; exact hg1)
            have hB6 : ByR w5 w2.heap.size v5 (n + 1 + Z + 4) (S ++ endA Z ++ be8 n 4) := by
              have e2 : n + 1 + Z + 4 = m + 1 := by have := HM.out; omega
              rw [be8_last n 3, e2, ← HL.out, ← HD.out]; exact hB5
            obtain ⟨g5, cp5, rfl, _, _, _⟩ := hB6.slice
            have HF := Lib.hid (And.intro hB6 hb5)
            clear hB5 hB6 hg5 hb5 HO
            go_wp2
            exact ⟨⟨4, by simp, by omega, HF.out⟩, by simp [intOf]⟩
          · obtain ⟨m, hm⟩ : ∃ m, m = n + 1 + Z + 4 := ⟨_, rfl⟩
            rw [← hm] at hO
            rw [← hm]
            obtain ⟨b, hb⟩ : ∃ b, b = 8 * n / 2 ^ (8 * (7 - 4)) % 256 := ⟨_, rfl⟩
            have w1 : IntKind.i64.wrap (8 * (s.size : Int)) = 8 * (n : Int) := by rw [IntWalk.i64_in _ (by have := HSN.out.2; omega)]; have := HSN.out.2; omega
            have hx1 : IntKind.u8.wrap (8 * (n : Int) / 16777216) = (b : Int) := by rw [IntKind.wrap_u8, hb]; simp only [Nat.reduceSub, Nat.reduceMul, Nat.reducePow]; omega
            have hx2 : (8 * (n : Int) / 16777216) % 256 = (b : Int) := by rw [hb]; simp only [Nat.reduceSub, Nat.reduceMul, Nat.reducePow]; omega
            have HBT : Hid ((b : Int) = ((UInt8.ofNat (8 * n / 2 ^ (8 * (7 - 4)))).toNat : Nat)) := Lib.hid (by rw [ofN8, hb])
            have HO := Lib.hid (And.intro (hO.kept (below_alloc1 wr (Obj.cells #[.int .u8 (b : Int)] 5))) hB)
            have HM := Lib.hid hm
            obtain ⟨L, hL⟩ : ∃ L, L = S ++ endA Z ++ be8 n 4 := ⟨_, rfl⟩
            rw [← hL] at HO
            have HL := Lib.hid hL
            obtain ⟨d, hd⟩ : ∃ d, d = UInt8.ofNat (8 * n / 2 ^ (8 * (7 - 4))) := ⟨_, rfl⟩
            rw [← hd] at HBT
            have HD := Lib.hid hd
            clear hb hO hB hm hL hd
            go_wp2_with (at_builtin; refine wpList_append_byR _ rfl _ _ 81 rfl i0 (.int .u8 0) Try.underlying81 hi hz0 hz1 hz2 rfl w2.heap.size _ m L rfl HO.out.1 (by simp; omega) ⟨wr.heap.size, 0, none⟩ 1 d (b : Int) HBT.out rfl (cell1_new _ _ _) (by have := HM.out; omega) ?_)
            intro v5 w5 hB5 hg5
            have hb5 : Below w2.heap.size w2 w5 := (HO.out.2.alloc HO.out.2.size _).grown hg5 (by have := HO.out.2.size; simp; omega) (fun j hj => by cases hj; exact hg1)
            have hB6 : ByR w5 w2.heap.size v5 (n + 1 + Z + 5) (S ++ endA Z ++ be8 n 5) := by
              have e2 : n + 1 + Z + 5 = m + 1 := by have := HM.out; omega
              rw [be8_last n 4, e2, ← HL.out, ← HD.out]; exact hB5
            obtain ⟨g5, cp5, rfl, _, _, _⟩ := hB6.slice
            have HF := Lib.hid (And.intro hB6 hb5)
            clear hB5 hB6 hg5 hb5 HO
            go_wp2
            exact ⟨⟨5, by simp, by omega, HF.out⟩, by simp [intOf]⟩
          · obtain ⟨m, hm⟩ : ∃ m, m = n + 1 + Z + 5 := ⟨_, rfl⟩
            rw [← hm] at hO
            rw [← hm]
            obtain ⟨b, hb⟩ : ∃ b, b = 8 * n / 2 ^ (8 * (7 - 5)) % 256 := ⟨_, rfl⟩
            have w1 : IntKind.i64.wrap (8 * (s.size : Int)) = 8 * (n : Int) := by rw [IntWalk.i64_in _ (by have := HSN.out.2; omega)]; have := HSN.out.2; omega
            have hx1 : IntKind.u8.wrap (8 * (n : Int) / 65536) = (b : Int) := by rw [IntKind.wrap_u8, hb]; simp only [Nat.reduceSub, Nat.reduceMul, Nat.reducePow]; omega
            have hx2 : (8 * (n : Int) / 65536) % 256 = (b : Int) := by rw [hb]; simp only [Nat.reduceSub, Nat.reduceMul, Nat.reducePow]; omega
            have HBT : Hid ((b : Int) = ((UInt8.ofNat (8 * n / 2 ^ (8 * (7 - 5)))).toNat : Nat)) := Lib.hid (by rw [ofN8, hb])
            have HO := Lib.hid (And.intro (hO.kept (below_alloc1 wr (Obj.cells #[.int .u8 (b : Int)] 5))) hB)
            have HM := Lib.hid hm
            obtain ⟨L, hL⟩ : ∃ L, L = S ++ endA Z ++ be8 n 5 := ⟨_, rfl⟩
            rw [← hL] at HO
            have HL := Lib.hid hL
            obtain ⟨d, hd⟩ : ∃ d, d = UInt8.ofNat (8 * n / 2 ^ (8 * (7 - 5))) := ⟨_, rfl⟩
            rw [← hd] at HBT
            have HD := Lib.hid hd
            clear hb hO hB hm hL hd
            go_wp2_with (at_builtin; refine wpList_append_byR _ rfl _ _ 81 rfl i0 (.int .u8 0) Try.underlying81 hi hz0 hz1 hz2 rfl w2.heap.size _ m L rfl HO.out.1 (by simp; omega) ⟨wr.heap.size, 0, none⟩ 1 d (b : Int) HBT.out rfl (cell1_new _ _ _) (by have := HM.out; omega) ?_)
            intro v5 w5 hB5 hg5
            have hb5 : Below w2.heap.size w2 w5 := (HO.out.2.alloc HO.out.2.size _).grown hg5 (by have := HO.out.2.size; simp; omega) (fun j hj => by cases hj; exact hg1)
            have hB6 : ByR w5 w2.heap.size v5 (n + 1 + Z + 6) (S ++ endA Z ++ be8 n 6) := by
              have e2 : n + 1 + Z + 6 = m + 1 := by have := HM.out; omega
              rw [be8_last n 5, e2, ← HL.out, ← HD.out]; exact hB5
            obtain ⟨g5, cp5, rfl, _, _, _⟩ := hB6.slice
            have HF := Lib.hid (And.intro hB6 hb5)
            clear hB5 hB6 hg5 hb5 HO
            go_wp2
            exact ⟨⟨6, by simp, by omega, HF.out⟩, by simp [intOf]⟩
          · obtain ⟨m, hm⟩ : ∃ m, m = n + 1 + Z + 6 := ⟨_, rfl⟩
            rw [← hm] at hO
            rw [← hm]
            obtain ⟨b, hb⟩ : ∃ b, b = 8 * n / 2 ^ (8 * (7 - 6)) % 256 := ⟨_, rfl⟩
            have w1 : IntKind.i64.wrap (8 * (s.size : Int)) = 8 * (n : Int) := by rw [IntWalk.i64_in _ (by have := HSN.out.2; omega)]; have := HSN.out.2; omega
            have hx1 : IntKind.u8.wrap (8 * (n : Int) / 256) = (b : Int) := by rw [IntKind.wrap_u8, hb]; simp only [Nat.reduceSub, Nat.reduceMul, Nat.reducePow]; omega
            have hx2 : (8 * (n : Int) / 256) % 256 = (b : Int) := by rw [hb]; simp only [Nat.reduceSub, Nat.reduceMul, Nat.reducePow]; omega
            have HBT : Hid ((b : Int) = ((UInt8.ofNat (8 * n / 2 ^ (8 * (7 - 6)))).toNat : Nat)) := Lib.hid (by rw [ofN8, hb])
            have HO := Lib.hid (And.intro (hO.kept (below_alloc1 wr (Obj.cells #[.int .u8 (b : Int)] 5))) hB)
            have HM := Lib.hid hm
            obtain ⟨L, hL⟩ : ∃ L, L = S ++ endA Z ++ be8 n 6 := ⟨_, rfl⟩
            rw [← hL] at HO
            have HL := Lib.hid hL
            obtain ⟨d, hd⟩ : ∃ d, d = UInt8.ofNat (8 * n / 2 ^ (8 * (7 - 6))) := ⟨_, rfl⟩
            rw [← hd] at HBT
            have HD := Lib.hid hd
            clear hb hO hB hm hL hd
            go_wp2_with (at_builtin; refine wpList_append_byR _ rfl _ _ 81 rfl i0 (.int .u8 0) Try.underlying81 hi hz0 hz1 hz2 rfl w2.heap.size _ m L rfl HO.out.1 (by simp; omega) ⟨wr.heap.size, 0, none⟩ 1 d (b : Int) HBT.out rfl (cell1_new _ _ _) (by have := HM.out; omega) ?_)
            intro v5 w5 hB5 hg5
            have hb5 : Below w2.heap.size w2 w5 := (HO.out.2.alloc HO.out.2.size _).grown hg5 (by have := HO.out.2.size; simp; omega) (fun j hj => by cases hj; exact hg1)
            have hB6 : ByR w5 w2.heap.size v5 (n + 1 + Z + 7) (S ++ endA Z ++ be8 n 7) := by
              have e2 : n + 1 + Z + 7 = m + 1 := by have := HM.out; omega
              rw [be8_last n 6, e2, ← HL.out, ← HD.out]; exact hB5
            obtain ⟨g5, cp5, rfl, _, _, _⟩ := hB6.slice
            have HF := Lib.hid (And.intro hB6 hb5)
            clear hB5 hB6 hg5 hb5 HO
            go_wp2
            exact ⟨⟨7, by simp, by omega, HF.out⟩, by simp [intOf]⟩
          · obtain ⟨m, hm⟩ : ∃ m, m = n + 1 + Z + 7 := ⟨_, rfl⟩
            rw [← hm] at hO
            rw [← hm]
            obtain ⟨b, hb⟩ : ∃ b, b = 8 * n / 2 ^ (8 * (7 - 7)) % 256 := ⟨_, rfl⟩
            have w1 : IntKind.i64.wrap (8 * (s.size : Int)) = 8 * (n : Int) := by rw [IntWalk.i64_in _ (by have := HSN.out.2; omega)]; have := HSN.out.2; omega
            have hx1 : IntKind.u8.wrap (8 * (n : Int)) = (b : Int) := by rw [IntKind.wrap_u8, hb]; simp only [Nat.reduceSub, Nat.reduceMul, Nat.reducePow]; omega
            have hx2 : (8 * (n : Int)) % 256 = (b : Int) := by rw [hb]; simp only [Nat.reduceSub, Nat.reduceMul, Nat.reducePow]; omega
            have HBT : Hid ((b : Int) = ((UInt8.ofNat (8 * n / 2 ^ (8 * (7 - 7)))).toNat : Nat)) := Lib.hid (by rw [ofN8, hb])
            have HO := Lib.hid (And.intro (hO.kept (below_alloc1 wr (Obj.cells #[.int .u8 (b : Int)] 5))) hB)
            have HM := Lib.hid hm
            obtain ⟨L, hL⟩ : ∃ L, L = S ++ endA Z ++ be8 n 7 := ⟨_, rfl⟩
            rw [← hL] at HO
            have HL := Lib.hid hL
            obtain ⟨d, hd⟩ : ∃ d, d = UInt8.ofNat (8 * n / 2 ^ (8 * (7 - 7))) := ⟨_, rfl⟩
            rw [← hd] at HBT
            have HD := Lib.hid hd
            clear hb hO hB hm hL hd
            go_wp2_with (at_builtin; refine wpList_append_byR _ rfl _ _ 81 rfl i0 (.int .u8 0) Try.underlying81 hi hz0 hz1 hz2 rfl w2.heap.size _ m L rfl HO.out.1 (by simp; omega) ⟨wr.heap.size, 0, none⟩ 1 d (b : Int) HBT.out rfl (cell1_new _ _ _) (by have := HM.out; omega) ?_)
            intro v5 w5 hB5 hg5
            have hb5 : Below w2.heap.size w2 w5 := (HO.out.2.alloc HO.out.2.size _).grown hg5 (by have := HO.out.2.size; simp; omega) (fun j hj => by cases hj; exact hg1)
            have hB6 : ByR w5 w2.heap.size v5 (n + 1 + Z + 8) (S ++ endA Z ++ be8 n 8) := by
              have e2 : n + 1 + Z + 8 = m + 1 := by have := HM.out; omega
              rw [be8_last n 7, e2, ← HL.out, ← HD.out]; exact hB5
            obtain ⟨g5, cp5, rfl, _, _, _⟩ := hB6.slice
            have HF := Lib.hid (And.intro hB6 hb5)
            clear hB5 hB6 hg5 hb5 HO
            go_wp2
            exact ⟨⟨8, by simp, by omega, HF.out⟩, by simp [intOf]⟩
        · have hj8 : j = 8 := by omega
          rw [hj8, ← HPE.out] at hO
          have hmP : n + 1 + Z + 8 = P.length := by have := HPR.out.2; omega
          obtain ⟨m, hm⟩ : ∃ m, m = n + 1 + Z + j := ⟨_, rfl⟩
          have hm2 : n + 1 + Z + 8 = m := by omega
          rw [← hm] at hcp ⊢
          rw [hm2] at hO hmP
          have HMP : Hid (m = 64 * R) := Lib.hid (by rw [hmP]; exact HPR.out.1)
          have ni : ¬ (0 : Int) ≤ 7 - (j : Int) := by omega
          obtain ⟨W5, hW5⟩ : ∃ W5, W5 = wr := ⟨_, rfl⟩
          have h5h : W5.ownsRow w.heap.size 3 1 vh 8 (iV H0.list) := by rw [hW5]; exact own_below HR2.out.1 hB
          have h5k : W5.ownsRow w.heap.size 3 1 vk 64 (iV KL0) := by rw [hW5]; exact own_below HR2.out.2.1 hB
          have h5B : Below w.heap.size w W5 := by rw [hW5]; exact HR2.out.2.2.trans (hB.mono HR2.out.2.2.size)
          have h5c : ∀ (i : Nat) (c : UInt8), P[i]? = some c → W5.cell? ⟨g, i, none⟩ = some (.int .u8 (c.toNat : Nat)) := fun i c hc => by rw [hW5]; exact hO.cell hc
          rw [← hW5] at hg2
          have HG := Lib.hid hg2
          have H5 := Lib.hid (And.intro h5h (And.intro h5k (And.intro h5B h5c)))
          have HB5 : Hid (Below W5.heap.size W5 wr) := Lib.hid (by rw [hW5]; exact Below.refl _ _)
          have hm64 : m ≤ 900000200 := by omega
          clear hO hB hm hm2 hmP hj8 h5h h5k h5B h5c hW5 hS2 hg1 hg2
          go_wp2_with fail
          go_loopw [4, 7] (fun v a wr => ∃ q : Nat, a = .int .i64 ((64 * q : Nat) : Int) ∧ q ≤ R ∧ wr.ownsRow w.heap.size 3 1 v 8 (iV (blks K P H0 q).list) ∧ Below W5.heap.size W5 wr) (fun _ a _ => 64 * R - (intOf a).toNat)
          case atStart => exact ⟨0, by simp, by omega, own_below H5.out.1 HB5.out, HB5.out⟩
          case round =>
            clear HB5
            obtain ⟨q, rfl, hq, hO, hB⟩ := hrel
            obtain ⟨a, ha⟩ : ∃ a, a = 64 * q := ⟨_, rfl⟩
            rw [← ha]
            obtain ⟨av, vc, rfl⟩ := slice_own hO
            by_cases hlt : q < R
            · have i1 : (a : Int) < (m : Int) := by have := HMP.out; omega
              have i2 : (0 : Int) ≤ (a : Int) := by omega
              have i3 : (a : Int) ≤ (a : Int) + 64 := by omega
              have i4 : (a : Int) + 64 ≤ (cp : Int) := by have := HMP.out; omega
              have i5 : ((a : Int) + 64).toNat = a + 64 := by omega
              have i6 : a + 64 - a = 64 := by omega
              have HBK : Hid (Calls Try.prog 81 #[.slice av 8 vc, vk, .slice (some ⟨g, a, none⟩) 64 (cp - a)] wr (RBlkP (blks K P H0 (q + 1)) wr)) := Lib.hid (by
                have hh := shaRefBlock_any wr w.heap.size w.heap.size (.slice av 8 vc) vk (blks K P H0 q) (blks_lt H0_lt q) KL0 KL0_len KL0_lt g a (cp - a) (byteAt ((P.drop (64 * q)).take 64)) (fun i => byteAt_lt _ i) (Nat.lt_of_lt_of_le HG.out hB.size) (fun i hi => by
                  rw [ha]
                  exact (hB.cell (p := ⟨g, 64 * q + i, none⟩) HG.out).trans (H5.out.2.2.2 _ _ (padL_at P q i hi (by have := HMP.out; have := HPR.out; omega)))) hO (own_below H5.out.2.1 hB)
                rw [← HK.out] at hh
                exact hh)
              have HOB := Lib.hid hB
              have HA := Lib.hid ha
              clear hO hB ha
              go_wp2_with fail
              refine HBK.out.mono ?_
              rintro e w6 ⟨v6, rfl, hO6, hb6⟩
              have HF : Hid (w6.ownsRow w.heap.size 3 1 v6 8 (iV (blks K P H0 (q + 1)).list) ∧ Below W5.heap.size W5 w6) := Lib.hid ⟨owns_mono hO6 (Nat.le_trans H5.out.2.2.1.size HOB.out.size), HOB.out.trans (hb6.mono HOB.out.size)⟩
              clear hO6 hb6 HBK
              go_wp2
              exact ⟨⟨q + 1, by have := HA.out; simp; omega, by omega, HF.out⟩, by have := HA.out; simp [intOf]; omega⟩
            · have hqR : q = R := by omega
              obtain ⟨u, hu⟩ : ∃ u, u = blks K P H0 q := ⟨_, rfl⟩
              have hul : u.lt := by rw [hu]; exact blks_lt H0_lt q
              have hUu : U = ⟨(outV u).toArray⟩ := by rw [HH.out, hu, hqR]
              rw [← hu] at hO
              obtain ⟨gv, rfl, hgv1, hgv2, hvc, hvl⟩ := own_cell hO (by omega)
              have ni2 : ¬ (a : Int) < (m : Int) := by have := HMP.out; omega
              obtain ⟨W6, hW6⟩ : ∃ W6, W6 = wr := ⟨_, rfl⟩
              rw [← hW6] at hvl hgv2
              have HV := Lib.hid (And.intro hvl (And.intro hgv2 (And.intro hul hUu)))
              have HB6 : Hid (Below w.heap.size w W6 ∧ Below W6.heap.size W6 wr) := Lib.hid (by rw [hW6]; exact ⟨H5.out.2.2.1.trans (hB.mono H5.out.2.2.1.size), Below.refl _ _⟩)
              clear hvl hgv2 hul hUu hO hB hW6 hu hqR ha
              go_wp2_with fail
              go_loopw [8, 9] (fun o i wr => ∃ j : Nat, i = .int .i64 j ∧ j ≤ 8 ∧ wr.ownsRow W6.heap.size 5 1 o (4 * j) (byteC ((u.list.take j).flatMap be4)) ∧ Below W6.heap.size W6 wr) (fun _ i _ => 8 - (intOf i).toNat)
              case atStart => exact ⟨0, by go_num, by omega, World.ownsRow_nil _ _ _ _, HB6.out.2⟩
              case round =>
                obtain ⟨j, rfl, hj, hO, hB⟩ := hrel
                obtain ⟨ao, co, rfl⟩ := slice_own hO
                have hS6 := hB.size
                by_cases hlt2 : j < 8
                · obtain ⟨_, y, _, hy, _, _⟩ := hmix_at u u hlt2
                  have ly := V8.lt_at HV.out.2.2.1 hy
                  have gy := HV.out.1 j y hy
                  have cy := (hB.cell (p := ⟨gv, j, none⟩) HV.out.2.1).trans gy
                  have HY : Hid (byteC ((u.list.take (j + 1)).flatMap be4) = byteC ((u.list.take j).flatMap be4) ++ [.int .u8 (((y / 16777216) % 256 : Nat) : Int), .int .u8 (((y / 65536) % 256 : Nat) : Int), .int .u8 (((y / 256) % 256 : Nat) : Int), .int .u8 ((y % 256 : Nat) : Int)]) := Lib.hid (by rw [outV_take u hy, byteC_be4])
                  obtain ⟨b0, hb0⟩ : ∃ b, b = (y / 16777216) % 256 := ⟨_, rfl⟩
                  obtain ⟨b1, hb1⟩ : ∃ b, b = (y / 65536) % 256 := ⟨_, rfl⟩
                  obtain ⟨b2, hb2⟩ : ∃ b, b = (y / 256) % 256 := ⟨_, rfl⟩
                  obtain ⟨b3, hb3⟩ : ∃ b, b = y % 256 := ⟨_, rfl⟩
                  rw [← hb0, ← hb1, ← hb2, ← hb3] at HY
                  have a1 : bits .and .i64 ((y : Int) / 65536) 255 = (b1 : Int) := by
                    have h := and255 (y / 65536) (by omega)
                    rw [← hb1, show ((y / 65536 : Nat) : Int) = (y : Int) / 65536 by omega] at h
                    exact h
                  have a2 : bits .and .i64 ((y : Int) / 256) 255 = (b2 : Int) := by
                    have h := and255 (y / 256) (by omega)
                    rw [← hb2, show ((y / 256 : Nat) : Int) = (y : Int) / 256 by omega] at h
                    exact h
                  have a3 : bits .and .i64 (y : Int) 255 = (b3 : Int) := by
                    have h := and255 y (by omega)
                    rw [← hb3] at h
                    exact h
                  have z0 : IntKind.u8.wrap ((y : Int) / 16777216) = (b0 : Int) := by rw [IntKind.wrap_u8, hb0]; omega
                  have z1 : IntKind.u8.wrap (b1 : Int) = (b1 : Int) := by rw [IntKind.wrap_u8]; omega
                  have z2 : IntKind.u8.wrap (b2 : Int) = (b2 : Int) := by rw [IntKind.wrap_u8]; omega
                  have z3 : IntKind.u8.wrap (b3 : Int) = (b3 : Int) := by rw [IntKind.wrap_u8]; omega
                  have z4 : ((y : Int) / 16777216) % 256 = (b0 : Int) := by rw [hb0]; omega
                  have z5 : (b1 : Int) % 256 = (b1 : Int) := by omega
                  have z6 : (b2 : Int) % 256 = (b2 : Int) := by omega
                  have z7 : (b3 : Int) % 256 = (b3 : Int) := by omega
                  have i1 : (0 : Int) ≤ (j : Int) := by omega
                  have i2 : (j : Int) < 8 := by omega
                  have HOB := Lib.hid (And.intro hO hB)
                  have GY := Lib.hid gy
                  have hgv2 := HV.out.2.1
                  have HGV := Lib.hid hgv2
                  clear hb0 hb1 hb2 hb3 hO hB hy gy hgv2 ly
                  go_upto_region 18 with fail
                  go_region_held3 (fun w' => w'.cell? ⟨gv, j, none⟩ = some (.int .i64 (y : Nat)))
                    (first | exact cy | exact cellA cy _ | exact d0)
                    ((refine step_append_lies _ (by rfl) _ _ _ (by rfl) W6.heap.size 5 i0 (.int .u8 0) 1 1 Try.underlying81 hi hz0 hz1 hz2 rfl (by decide) (.slice ao (4 * j) co) (4 * j) (byteC ((u.list.take j).flatMap be4)) (by rfl) (drewO (World.ownsRow.alloc HOB.out.1 _)) ⟨wr.heap.size, 0, none⟩ 4 4 [.int .u8 (b0 : Int), .int .u8 (b1 : Int), .int .u8 (b2 : Int), .int .u8 (b3 : Int)] (by rfl) (by rfl) (sha_cells_new wr _ _) (by intro x hx; simp only [List.mem_cons, List.not_mem_nil, or_false] at hx; rcases hx with rfl | rfl | rfl | rfl <;> rfl) (by decide) (by unfold maxLen; omega) (by omega) (by have := HOB.out.2.size; simp; omega) (wr.heap.size + 1) (by simp) ?_; intro gg cap w7 hown1 hgrow hat hlt'; have hB1 : Below W6.heap.size W6 w7 := ((HOB.out.2.alloc HOB.out.2.size _).drew).grown hgrow (Nat.le_trans HOB.out.2.size (by simp)) (fun q hq => (World.ownsRow.lt HOB.out.1 q hq).1); have d0 := (hB1.cell (p := ⟨gv, j, none⟩) HGV.out).trans GY.out))
                  all_goals
                    have hO4 : w7.ownsRow W6.heap.size 5 1 (.slice (some ⟨gg, 0, none⟩) (4 * j + 4) cap) (4 * (j + 1)) (byteC ((u.list.take (j + 1)).flatMap be4)) := by
                      rw [HY.out]; exact hown1
                    have HF := Lib.hid (And.intro hO4 hB1)
                    clear d0 hown1 hgrow hat hlt' hO4 hB1 HOB GY HY cy a1 a2 a3 z0 z1 z2 z3 z4 z5 z6 z7
                    go_wp2
                    exact ⟨⟨j + 1, by go_num, by omega, HF.out.1, HF.out.2⟩, by simp [intOf]; omega⟩
                · have hj8 : j = 8 := by omega
                  subst hj8
                  have hcv : (convert 81 9 (.slice ao (4 * 8) co)).run Try.prog wr = .ok (.string U) wr := by
                    rw [HV.out.2.2.2]
                    exact owns_bytes_str (outV u) Try.underlying81 Try.underlying5 Try.underlying9 hO (by omega)
                  have HF := Lib.hid (HB6.out.1.trans (hB.mono HB6.out.1.size))
                  clear hO hB
                  go_wp2
                  go_ret
                  exact ⟨rfl, HF.out⟩
end Go.Proofs.Ytgemhgllifhckaa
namespace Go.Proofs.Ytgemhgllifhckaa
open Go.RowKit
set_option linter.unusedVariables false
set_option linter.unusedSimpArgs false
/-- the document's real book -/
def RefReal (w : World) (q : Nat) : Prop := Blk w q [.bool true, .slice none 0 0] 38
theorem RefReal.next {w w' : World} {q : Nat} (h : RefReal w q) (hb : Below w.heap.size w w') : RefReal w' q := Blk.below h hb (Blk.lt h)
theorem RefReal.lt {w : World} {q : Nat} (h : RefReal w q) : q < w.heap.size := Blk.lt h
end Go.Proofs.Ytgemhgllifhckaa
