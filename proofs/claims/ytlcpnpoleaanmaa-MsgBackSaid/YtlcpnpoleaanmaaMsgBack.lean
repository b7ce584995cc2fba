/- A message's bytes under any book that marks, and what is read out of them. Conditions: as named in each theorem. -/
import Derived.Test.YtlcpnpoleaanmaaMsgForge
import Derived.Test.YtlcpnpoleaanmaaShaBook
namespace Go.Proofs.Ytlcpnpoleaanmaa
open Go.RowKit
set_option linter.unusedVariables false
set_option linter.unusedSimpArgs false

/-- a book that takes what it has marked; marking turns block r alone -/
def BkR (r : Nat) (w : World) (bv : Value) : Prop := ∀ (W : World), Below w.heap.size w W → ∀ S : ByteArray, S.size ≤ 100000 →
  Calls Try.prog 23 #[bv, .string S] W fun e w' => ∃ K : ByteArray, e = .returned (.string K) ∧ K.size = 32 ∧ W.grownBy w' (some r) ∧
    Hid (∀ W2, Below w'.heap.size w' W2 → Calls Try.prog 19 #[bv, .string S, .string K] W2 fun e w'' => e = .returned (.bool true) ∧ Below W2.heap.size W2 w'')
theorem BkR.next {r : Nat} {w w' : World} {bv : Value} (h : BkR r w bv) (hb : Below w.heap.size w w') : BkR r w' bv := fun W hW => h W (below_then' hb hW)
theorem bkR_ideal {w : World} {p m : Nat} {seen : List (List UInt8)} (h : BookI w p m seen) (hn : seen.length ≤ 1000) : BkR m w (.pointer (some ⟨p, 0, none⟩)) := by
  intro W hW S hS
  have hI := h.next hW
  refine (mark_as hI (s := S) (by unfold maxLen; omega) (by omega) (seen.idxOf S.data.toList + 1) (addS seen S.data.toList) rfl rfl).mono ?_
  rintro e w' ⟨rfl, hI2, hg⟩
  refine ⟨_, rfl, numS_size _, hg, Lib.hid (fun W2 hW2 => ?_)⟩
  have hl := addS_len seen S.data.toList
  refine (is_ideal W2 p m _ S _ (hI2.next hW2) (by unfold maxLen; omega) (by omega)).mono ?_
  rintro e w2 ⟨rfl, h2⟩
  refine ⟨?_, h2⟩
  rw [decide_eq_true ⟨(mem_addS _ _ _).2 (.inr rfl), by rw [idx_self]; rfl⟩]
theorem bkR_real {w : World} {p : Nat} (r : Nat) (h : RealB w p) : BkR r w (.pointer (some ⟨p, 0, none⟩)) := by
  intro W hW S hS
  have hR := h.next hW
  refine (mark_real W p S hR (by omega)).mono ?_
  rintro e w' ⟨rfl, hb⟩
  refine ⟨_, rfl, shaS_size S, below_grown hb _, Lib.hid (fun W2 hW2 => ?_)⟩
  refine (is_real W2 p S _ ((hR.next hb).next hW2) (by omega)).mono ?_
  rintro e w2 ⟨rfl, h2⟩
  exact ⟨by simp, h2⟩

def BytesK (w : World) (r : Nat) (bv : Value) (m : Mg) (e : Ending) (w' : World) : Prop :=
  ∃ K : ByteArray, e = .returned (.tuple #[.string (bA (bodyL m) ++ K), .int .i64 0]) ∧ K.size = 32 ∧ w.grownBy w' (some r) ∧
    Hid (∀ W2, Below w'.heap.size w' W2 → Calls Try.prog 19 #[bv, .string (bA (bodyL m)), .string K] W2 fun e w'' => e = .returned (.bool true) ∧ Below W2.heap.size W2 w'')
set_option maxRecDepth 100000 in
set_option maxHeartbeats 2000000 in
theorem bytes_book (w : World) (r bp : Nat) (hI : BkR r w (.pointer (some ⟨bp, 0, none⟩))) (m : Mg) (ao : Option Addr) (n cap : Nat) (hR : Rs w ao n cap 3 m.list enC) (hok : rightM m) :
    Calls Try.prog 16 #[.pointer (some ⟨bp, 0, none⟩), .agg (mgC m (.slice ao n cap)).toArray] w (BytesK w r (.pointer (some ⟨bp, 0, none⟩)) m) := by
  obtain ⟨V, hV⟩ : ∃ V, V = w.alloc (.cells (mgC m (.slice ao n cap)).toArray 26) := ⟨_, rfl⟩
  obtain ⟨p, hp⟩ : ∃ p, p = w.heap.size := ⟨_, rfl⟩
  have hG : Blk V p (mgC m (.slice ao n cap)) 26 := by rw [hV, hp]; exact Blk.new _ _ _
  have hB : Below w.heap.size w V := by rw [hV]; exact below_alloc' _ _
  obtain ⟨c0, c1, c2, c3, c4, c5, c6, c7, c8, c9, c10, c11, c12, c13⟩ := mg_cells hG
  have hn : n ≤ maxLen := Nat.le_trans hR.1 hR.2.1
  have HRV := Lib.hid (hR.below hB (Nat.le_refl _))
  have hbs := bodyS_bd hok
  obtain ⟨S, hS⟩ : ∃ S, S = bA (bodyL m) := ⟨_, rfl⟩
  rw [← hS] at hbs
  have HS := Lib.hid hS
  unfold mgC at hV ⊢
  have HV := Lib.hid hV
  have HP := Lib.hid hp
  have HB := Lib.hid hB
  have HG := Lib.hid hG
  have HOK := Lib.hid hok
  have HI := Lib.hid (hI.next hB)
  clear hV hp hG hB hR hok hS hI
  go_enter Try.func16, Try.ntmps16
  go_upto_region 1 with fail
  rw [← HP.out, ← HV.out]
  go_wp2_with fail
  refine (right_any V m ao n cap HRV.out hn).mono ?_
  rintro e w2 ⟨⟨q, rfl, hr⟩, hb2⟩
  have hrt : q = true := hr.2 HOK.out
  subst hrt
  clear hr
  have HBX := Lib.hid (And.intro hb2 (below_then' HB.out hb2))
  have HR2 := Lib.hid (HRV.out.below hb2 (Nat.le_refl _))
  have HI2 := Lib.hid (HI.out.next hb2)
  clear c0 c1 c2 c3 c4 c5 c6 c7 c8 c9 c10 c11 c12 c13
  obtain ⟨c0, c1, c2, c3, c4, c5, c6, c7, c8, c9, c10, c11, c12, c13⟩ := mg_cells (HG.out.below hb2 HG.out.lt)
  clear hb2
  go_wp2_with fail
  refine (body_any w2 m ao n cap HR2.out HOK.out).mono ?_
  rintro e w3 ⟨rfl, hb3⟩
  rw [← HS.out]
  have HB3 := Lib.hid (below_then' HBX.out.2 hb3)
  have HI3 := Lib.hid (HI2.out.next hb3)
  clear c0 c1 c2 c3 c4 c5 c6 c7 c8 c9 c10 c11 c12 c13 hb3
  go_wp2_with fail
  refine (HI3.out w3 (Below.refl _ _) S (by omega)).mono ?_
  rintro e w4 ⟨K, rfl, hsz, hg4, HIS⟩
  have hne : (K.toList == []) = false := strNe' (by omega)
  have HF : Hid (w.grownBy w4 (some r)) := Lib.hid (grown_trans (below_grown HB3.out _) hg4)
  have hsum : S.size + K.size ≤ 9223372036854775807 := by omega
  have HSZ := Lib.hid hsz
  clear hg4 hsz
  go_wp2
  go_ret2
  exact ⟨K, by rw [← HS.out]; rfl, HSZ.out, HF.out, by rw [← HS.out]; exact HIS⟩
end Go.Proofs.Ytlcpnpoleaanmaa
