/- What was told as messages' bytes, and what is taken. Conditions: as named in each theorem. -/
import Derived.Test.YtlcpnpoleaanmaaMsgReadsWalk
import Derived.Test.YtlcpnpoleaanmaaBitsN
namespace Go.Proofs.Ytlcpnpoleaanmaa
open Go.RowKit
set_option linter.unusedVariables false
set_option linter.unusedSimpArgs false

/-- the texts that were told, and what the book has seen -/
structure TI (T : List ByteArray) (seen : List (List UInt8)) : Prop where
  a : ∀ t ∈ T, ∃ M, rightM M ∧ bodyL M ∈ seen ∧ t = mgS M (seen.idxOf (bodyL M) + 1)
  b : ∀ x ∈ seen, ∃ M, rightM M ∧ x = bodyL M ∧ mgS M (seen.idxOf x + 1) ∈ T
  c : seen.length ≤ T.length
theorem TI.nil : TI [] [] := ⟨(fun t h => by cases h), (fun x h => by cases h), Nat.le_refl _⟩
theorem TI.step {T : List ByteArray} {seen : List (List UInt8)} (h : TI T seen) {M : Mg} (hM : rightM M) : TI (T ++ [mgS M (seen.idxOf (bodyL M) + 1)]) (addS seen (bodyL M)) := by
  have hs := idx_self seen (bodyL M)
  refine ⟨fun t ht => ?_, fun x hx => ?_, ?_⟩
  · rw [List.mem_append] at ht
    rcases ht with ht | ht
    · obtain ⟨N, h1, h2, h3⟩ := h.a t ht
      exact ⟨N, h1, (mem_addS _ _ _).2 (.inl h2), by rw [idx_addS h2]; exact h3⟩
    · simp only [List.mem_cons, List.not_mem_nil, or_false] at ht
      exact ⟨M, hM, (mem_addS _ _ _).2 (.inr rfl), by rw [hs]; exact ht⟩
  · rcases (mem_addS _ _ _).1 hx with h2 | h2
    · obtain ⟨N, h3, h4, h5⟩ := h.b x h2
      exact ⟨N, h3, h4, by rw [idx_addS h2]; exact List.mem_append_left _ h5⟩
    · subst h2
      exact ⟨M, hM, rfl, by rw [hs]; exact List.mem_append_right _ (by simp)⟩
  · have := addS_len seen (bodyL M)
    have := h.c
    rw [List.length_append, List.length_singleton]; omega
theorem TI.size {T : List ByteArray} {seen : List (List UInt8)} (h : TI T seen) {t : ByteArray} (ht : t ∈ T) : 32 ≤ t.size ∧ t.size ≤ 30032 := by
  obtain ⟨M, h1, h2, h3⟩ := h.a t ht
  have := bodyS_bd h1
  rw [h3]; unfold mgS
  rw [ByteArray.size_append, numS_size]; omega
theorem bytes_of_cut (A : ByteArray) (k : Nat) (h : A.size = k + 32) (x y : List UInt8) (h1 : (A.extract 0 k).data.toList = x) (h2 : (A.extract k A.size).data.toList = y) : A.data.toList = x ++ y := by
  rw [← h1, ← h2]
  have e : A = A.extract 0 k ++ A.extract k A.size := by
    rw [ByteArray.extract_append_extract]
    simp
  conv => lhs; rw [e]
  rw [ByteArray.data_append, Array.toList_append]
theorem told_iff {T : List ByteArray} {seen : List (List UInt8)} (h : TI T seen) (A : ByteArray) (k : Nat) (hk : A.size = k + 32) :
    ((A.extract 0 k).data.toList ∈ seen ∧ (A.extract k A.size).data.toList = numB (seen.idxOf (A.extract 0 k).data.toList + 1)) ↔ A ∈ T := by
  constructor
  · rintro ⟨h1, h2⟩
    obtain ⟨M, r, e, ht⟩ := h.b _ h1
    have e2 : A = mgS M (seen.idxOf (A.extract 0 k).data.toList + 1) := by
      apply ByteArray.ext
      apply Array.ext'
      rw [mgS_list]
      exact bytes_of_cut A k hk _ _ e h2
    rw [e2]; exact ht
  · intro ht
    obtain ⟨M, r, hm, e⟩ := h.a _ ht
    have hz : k = (bA (bodyL M)).size := by
      have := congrArg ByteArray.size e
      unfold mgS at this
      rw [ByteArray.size_append, numS_size] at this; omega
    have c1 : A.extract 0 k = bA (bodyL M) := by rw [e, hz]; exact cat_cut1 _ _
    have c2 : A.extract k A.size = numS (seen.idxOf (bodyL M) + 1) := by rw [e, hz]; exact cat_cut2 _ _
    rw [c1, c2]
    exact ⟨hm, rfl⟩

/-- what Of says of a text that was not told -/
def NoR (w : World) (A : ByteArray) (e : Ending) (w' : World) : Prop := ∃ k : Int, e = .returned (.tuple #[.agg (mgC (mg0 0 0 0) (.slice none 0 0)).toArray, .int .i64 k]) ∧ (k = 6 ∨ (A.size < 32 ∧ k = 3)) ∧ Below w.heap.size w w'
theorem of_forged (w : World) (bp mm : Nat) (seen : List (List UInt8)) (T : List ByteArray) (A : ByteArray) (hI : BookI w bp mm seen) (hT : TI T seen) (hn : T.length ≤ 1000) (hA : A ∉ T) (hs : A.size ≤ 100000000) :
    Calls Try.prog 22 #[.pointer (some ⟨bp, 0, none⟩), .string A] w (NoR w A) := by
  by_cases h32 : A.size < 32
  · refine (of_short w _ A h32).mono ?_
    rintro e w' ⟨rfl, h2⟩
    exact ⟨3, rfl, .inr ⟨h32, rfl⟩, h2⟩
  · obtain ⟨k, hk⟩ : ∃ k, A.size = k + 32 := ⟨A.size - 32, by omega⟩
    refine (of_sum w _ A k hk hs (Lib.hid (fun W hW => ?_))).mono ?_
    · have hl := hI.2.2.2.2.1
      have hcc := hT.c
      refine (is_ideal W bp mm seen _ _ (BookI.below hI hW hl.1 hl.2) (by rw [ByteArray.size_extract]; unfold maxLen; omega) (by omega)).mono ?_
      rintro e w' ⟨rfl, h2⟩
      refine ⟨?_, h2⟩
      rw [decide_eq_false (fun h => hA ((told_iff hT A k hk).1 h))]
    · rintro e w' ⟨rfl, h2⟩
      exact ⟨6, rfl, .inl rfl, h2⟩
/-- what Of says of a text that was told -/
def ToldR (w : World) (M : Mg) (e : Ending) (w' : World) : Prop :=
  ∃ (ao : Option Addr) (n cap : Nat), e = .returned (.tuple #[.agg (mgC M (.slice ao n cap)).toArray, .int .i64 0]) ∧ Rs w' ao n cap 3 M.list enC ∧ n ≤ 1000 ∧ Below w.heap.size w w'
theorem of_told (w : World) (bp mm : Nat) (seen : List (List UInt8)) (M : Mg) (A : ByteArray) (hI : BookI w bp mm seen) (hn : seen.length ≤ 1000) (hM : rightM M) (hm : bodyL M ∈ seen) (hA : A = mgS M (seen.idxOf (bodyL M) + 1)) :
    Calls Try.prog 22 #[.pointer (some ⟨bp, 0, none⟩), .string A] w (ToldR w M) := by
  have hb := bodyS_bd hM
  refine (of_own w bp mm seen (bA (bodyL M)) (numS (seen.idxOf (bodyL M) + 1)) A hI hn (by omega) hm rfl (Lib.hid hA)).mono ?_
  rintro e w' ⟨m, k, ao, n, cap, rfl, hof, hrs, hn2, h2⟩
  obtain ⟨rfl, rfl⟩ := OfB.one hof (OfB.back hM)
  exact ⟨ao, n, cap, rfl, hrs, hn2, h2⟩

theorem u8_xor (a b : Int) : ∃ c : UInt8, bits .xor .u8 a b = ((c.toNat : Nat) : Int) := by
  obtain ⟨v, hv⟩ : ∃ v : BitVec 8, bits .xor .u8 a b = IntKind.u8.wrap (v.toNat : Int) := ⟨BitVec.ofInt 8 a ^^^ BitVec.ofInt 8 b, rfl⟩
  refine ⟨UInt8.ofNat v.toNat, ?_⟩
  rw [hv, toNat_ofNat8 v.isLt]
  have := v.isLt
  simp [IntKind.wrap, IntKind.bits, IntKind.signed]; omega
theorem letters_run2 (w : World) (s : ByteArray) : ∃ (cap : Nat) (W : World), s.size ≤ cap ∧
    (convert 9 45 (.string s)).run Try.prog w = .ok (.slice (some ⟨w.heap.size, 0, none⟩) s.size cap) W ∧ Below w.heap.size w W ∧ (∀ (j : Nat) (c : UInt8), s.data.toList[j]? = some c → W.cell? ⟨w.heap.size, j, none⟩ = some (Value.int .u8 (c.toNat : Nat))) ∧ ∀ j, j < s.size → W.frozen? ⟨w.heap.size, j, none⟩ = false := by
  have hg : s.size ≤ grownCap w s.size 0 5 := grownCap_ge w s.size 0 _
  obtain ⟨C, hC⟩ : ∃ C, C = bytesRow s (grownCap w s.size 0 5) := ⟨_, rfl⟩
  have hr := run_bytes_of_string w _ _ _ s Try.underlying9 Try.underlying45 Try.underlying5
  have hsz : s.size ≤ C.size := by rw [hC]; unfold bytesRow; simp
  rw [← hC] at hr
  have hh : (w.drew.alloc (.cells C 5 (C.size, C.size + 1))).heap[w.heap.size]? = some (.cells C 5 (C.size, C.size + 1)) := heap_alloc_new w.drew _
  refine ⟨_, _, hg, hr, (Below.refl _ _).drew.alloc (Nat.le_refl _) _, fun j c hj => ?_, fun j hj => ?_⟩
  · have hj2 : j < s.data.size := by
      have := (List.getElem?_eq_some_iff.1 hj).1
      simpa using this
    refine cell_heap hh ?_
    rw [hC, bytesRow_at s _ j hj2]
    have : s.data[j] = c := by
      have h2 := (List.getElem?_eq_some_iff.1 hj).2
      simpa using h2
    rw [this]
  · unfold World.frozen?
    rw [hh]
    simp; omega

/-- messages in a row -/
structure MV where
  m : Mg
  ao : Option Addr
  n : Nat
  cap : Nat
instance : Inhabited MV := ⟨⟨mg0 0 0 0, none, 0, 0⟩⟩
def MV.c (x : MV) : List Value := mgC x.m (.slice x.ao x.n x.cap)
def MV.good (w : World) (x : MV) : Prop := Rs w x.ao x.n x.cap 3 x.m.list enC
theorem msgs_of {w : World} {ao : Option Addr} {len cap : Nat} (h : (Kd.sl mgK).ok w [.slice ao len cap]) : ∃ l : List MV, Rs w ao len cap 14 l MV.c ∧ ∀ x ∈ l, x.good w :=
  Kd.rows (k := mgK) MV.c (fun x => x.good w) (fun es h => by
    obtain ⟨m, a, n, c, e, hR, -⟩ := mg_of h
    exact ⟨⟨m, a, n, c⟩, e, hR⟩) h
theorem rs_m {w : World} {ao : Option Addr} {len cap : Nat} {l : List MV} (h : Rs w ao len cap 14 l MV.c) (h0 : 0 < len) :
    ∃ b off, ao = some ⟨b, off, none⟩ ∧ b < w.heap.size ∧ ∀ k, (hk : k < l.length) → w.rangeAt b (off + k * 14) (mgC l[k].m (.slice l[k].ao l[k].n l[k].cap)) := by
  obtain ⟨_, _, _, h4⟩ := h
  obtain ⟨b, off, e, hb, hc⟩ := h4 h0
  exact ⟨b, off, e, hb, fun k hk j v hj => by have := hc k hk j v hj; rw [← Nat.add_assoc] at this; exact this⟩
theorem ld_at {ops : Array Oper} {rest : List Oper} {o : Oper} {a : Act} {w : World} {Q : Exit → Act → World → Prop} {x : Operand} {b off : Nat} {m : Mg} {v : Value} (h : w.rangeAt b off (mgC m v)) (hgd : o.guard = none) (ho : o.op = .load 26 x)
    (hx : a.eval x = .pointer (some ⟨b, off, none⟩)) (hK : wpList Try.prog ops Q rest (a.put o.dst (.agg (mgC m v).toArray)) w) : wpList Try.prog ops Q (o :: rest) a w :=
  wpList_load_mid hgd 26 x ho b off hx (mgC m v) _ h Try.underlying26 rfl (mgInfo m v) hK
end Go.Proofs.Ytlcpnpoleaanmaa
