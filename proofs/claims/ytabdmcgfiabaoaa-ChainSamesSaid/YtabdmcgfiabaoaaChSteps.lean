/- The reference's Steps and Bytes. Conditions: as named in each theorem. -/
import Derived.Test.YtabdmcgfiabaoaaQD
import Derived.Test.YtabdmcgfiabaoaaQC
import Derived.Test.YtabdmcgfiabaoaaQA
namespace Go.Proofs.Ytabdmcgfiabaoaa
open Go.RowKit
set_option linter.unusedVariables false
def By.c : By → List Value
  | .told c => [.bool true, .int .i64 0, .int .u8 (c.toNat : Nat)]
  | .src a => [.bool false, .int .i64 a, .int .u8 0]
theorem bc_len (x : By) : x.c.length = 3 := by cases x <;> rfl
theorem bc_one (x : By) : ∀ u ∈ x.c, u.oneCell' = true := by
  intro u hu
  cases x <;> simp only [By.c, List.mem_cons, List.not_mem_nil, or_false] at hu <;> rcases hu with rfl | rfl | rfl <;> rfl
theorem byZ_run (w : World) : (zeroValue 57).run Try.prog w = .ok (.agg #[.bool false, .int .i64 0, .int .u8 0]) w := by kernel_rfl
theorem infoBy : (Try.prog.info? 57).map (fun i => (i.zero, i.size, i.bytes)) = some (some (.agg #[.bool false, .int .i64 0, .int .u8 0]), 3, 24) := by kernel_rfl
/-- how great the machine's state is -/
def Small (n : Nat) (s : Sm) : Prop := s.1.length + s.2.size ≤ n ∧ ∀ x ∈ s.1, 0 ≤ x.len ∧ x.len ≤ n
theorem chTexts_len (s : ByteArray) : (texts s).length ≤ s.size := by unfold texts; rw [List.length_map, List.length_range]; omega
theorem texts_zero (s : ByteArray) : ∀ x ∈ texts s, x.len = 0 := by
  intro x hx; unfold texts at hx; simp only [List.mem_map] at hx; obtain ⟨i, -, rfl⟩ := hx; rfl
theorem chCopyL_len (out : List St) (a n : Int) : (copyL out a n).length ≤ out.length + 1 := by
  rcases List.eq_nil_or_concat out with rfl | ⟨o, x, rfl⟩
  · simp [copyL_nil]
  · rw [List.concat_eq_append, copyL_snoc]; split <;> simp
theorem copyL_bd (out : List St) (a n : Int) (m : Int) (hn : 0 ≤ n) (h : ∀ x ∈ out, 0 ≤ x.len ∧ x.len ≤ m) (hm : 0 ≤ m) : ∀ x ∈ copyL out a n, 0 ≤ x.len ∧ x.len ≤ m + n := by
  rcases List.eq_nil_or_concat out with rfl | ⟨o, x, rfl⟩
  · intro y hy; rw [copyL_nil] at hy; simp only [List.mem_singleton] at hy; rw [hy]; exact ⟨hn, by simp only; omega⟩
  · rw [List.concat_eq_append] at h ⊢
    rw [copyL_snoc]
    have hx := h x (by simp)
    split
    · intro y hy
      rcases List.mem_append.1 hy with h1 | h1
      · have := h y (by simp [h1]); omega
      · simp only [List.mem_singleton] at h1; rw [h1]; simp only; omega
    · intro y hy
      rcases List.mem_append.1 hy with h1 | h1
      · have := h y h1; omega
      · simp only [List.mem_singleton] at h1; rw [h1]; simp only; omega
theorem texts_bd {out : List St} {m : Int} (s : ByteArray) (h : ∀ x ∈ out, 0 ≤ x.len ∧ x.len ≤ m) (hm : 0 ≤ m) : ∀ x ∈ out ++ texts s, 0 ≤ x.len ∧ x.len ≤ m := by
  intro x hx
  rcases List.mem_append.1 hx with h1 | h1
  · exact h x h1
  · rw [texts_zero s x h1]; omega
theorem Small.step {n : Nat} {s : Sm} (h : Small n s) (b : By) : Small (n + 1) (stepB s b) := by
  obtain ⟨h1, h2⟩ := h
  cases b with
  | told c =>
    refine ⟨?_, fun x hx => ?_⟩
    · show s.1.length + (s.2.push c).size ≤ n + 1
      rw [ByteArray.size_push]; omega
    · have := h2 x hx; omega
  | src a =>
    have ht := chTexts_len s.2
    refine ⟨?_, fun x hx => ?_⟩
    · show (copyL (s.1 ++ texts s.2) a 1).length + ByteArray.empty.size ≤ n + 1
      have := chCopyL_len (s.1 ++ texts s.2) a 1
      rw [List.length_append] at this
      have : ByteArray.empty.size = 0 := rfl
      omega
    · have := copyL_bd (s.1 ++ texts s.2) a 1 n (by omega) (texts_bd s.2 h2 (by omega)) (by omega) x hx
      omega
theorem small_fold (bs : List By) : ∀ k, k ≤ bs.length → Small k ((bs.take k).foldl stepB ([], ByteArray.empty)) := by
  intro k
  induction k with
  | zero => intro _; exact ⟨by simp, by simp⟩
  | succ k ih =>
    intro hk
    rw [List.take_succ_eq_append_getElem (show k < bs.length by omega), List.foldl_append]
    exact (ih (by omega)).step _
theorem fold_succ (bs : List By) (k : Nat) (hk : k < bs.length) : (bs.take (k + 1)).foldl stepB ([], ByteArray.empty) = stepB ((bs.take k).foldl stepB ([], ByteArray.empty)) bs[k] := by
  rw [List.take_succ_eq_append_getElem hk, List.foldl_append]; rfl
theorem chr_run (w : World) (c : UInt8) : (convert 58 9 (.slice (some ⟨w.heap.size, 0, none⟩) 1 1)).run Try.prog (w.alloc (.cells #[.int .u8 (c.toNat : Nat)] 5)) = .ok (.string ⟨#[c]⟩) (w.alloc (.cells #[.int .u8 (c.toNat : Nat)] 5)) := by
  refine run_bytes_str (P := Try.prog) [c] Try.underlying58 Try.underlying5 Try.underlying9 rfl (fun j d hj => ?_)
  have hj0 : j = 0 := by
    have := (List.getElem?_eq_some_iff.1 hj).1
    simp at this; omega
  subst hj0
  simp at hj
  subst hj
  exact (Blk.new w [.int .u8 (c.toNat : Nat)] 5).cell (i := 0) rfl
set_option maxRecDepth 100000 in
set_option maxHeartbeats 1000000 in
theorem refSteps_any (w : World) (ao : Option Addr) (len cap : Nat) (bs : List By) (hR : Rs w ao len cap 3 bs By.c) (hn : len ≤ 100000000) :
    Calls Try.prog 14 #[.slice ao len cap] w fun e w' => ∃ v', e = .returned v' ∧ Own w' w.heap.size v' (stepsB bs) ∧ Below w.heap.size w w' := by
  have HLEN := Lib.hid hR.2.2.1
  go_enter Try.func14, Try.ntmps14
  go_wp2
  go_loopw [3, 4, 5] (fun a b i wr => ∃ (k : Nat) (out : List St) (t : ByteArray), i = .int .i64 k ∧ b = .string t ∧ k ≤ len + 1 ∧ (k ≤ len → (out, t) = (bs.take k).foldl stepB ([], ByteArray.empty)) ∧ (k = len + 1 → out = stepsB bs) ∧ Own wr w.heap.size a out ∧ Below w.heap.size w wr) (fun _ _ i _ => len + 1 - (intOf i).toNat)
  case atStart => exact ⟨0, [], ByteArray.empty, rfl, rfl, by omega, fun _ => rfl, fun h => by omega, Own.nil _ _, Below.refl _ _⟩
  case round =>
    obtain ⟨k, out, t, rfl, rfl, hk, hst, hend, hO, hB⟩ := hrel
    have hwb := hB.size
    by_cases hlt : k ≤ len
    · have hs := hst hlt
      have hsm := small_fold bs k (by rw [HLEN.out]; exact hlt)
      rw [← hs] at hsm
      obtain ⟨hs1, hs2⟩ := hsm
      have HST := Lib.hid hs
      have HBD : Hid (∀ x ∈ out ++ texts t, 0 ≤ x.len ∧ x.len ≤ (k : Int)) := Lib.hid (texts_bd t hs2 (by omega))
      have htl := chTexts_len t
      clear hst hend hs hs2
      simp only at hs1
      by_cases hlt2 : k < len
      · have hkb : k < bs.length := by rw [HLEN.out]; exact hlt2
        obtain ⟨b, off, rfl, hbw, hc⟩ := hR.2.2.2 (by omega)
        have hcc := hc k hkb
        have hsu := fold_succ bs k hkb
        obtain ⟨x, hx⟩ : ∃ x, x = bs[k] := ⟨_, rfl⟩
        rw [← hx] at hcc hsu
        rw [← HST.out] at hsu
        have i1 : (k : Int) < (len : Int) := by omega
        clear hc hx hkb
        cases x with
        | told c =>
          have c0 := (hB.cell (p := ⟨b, off + k * 3, none⟩) hbw).trans (hcc 0 _ rfl)
          have c2 : wr.cell? ⟨b, off + k * 3 + 2, none⟩ = some (.int .u8 (c.toNat : Nat)) := (hB.cell (p := ⟨b, off + (k * 3 + 2), none⟩) hbw).trans (hcc 2 _ rfl)
          have HSU := Lib.hid hsu
          have hcv := chr_run wr c
          have hpush : t ++ ⟨#[c]⟩ = t.push c := by apply ByteArray.ext; rw [ByteArray.data_append]; rfl
          have hts : t.size ≤ 100000000 := by omega
          clear hcc hsu htl
          go_wp2
          go_roundw
          case rel => exact ⟨k + 1, out, _, by go_num, rfl, by omega, fun _ => by rw [HSU.out]; rfl, fun h => by omega, hO.alloc _, hB.alloc hwb _⟩
          case measure => simp [intOf]; omega
        | src a =>
          have c0 := (hB.cell (p := ⟨b, off + k * 3, none⟩) hbw).trans (hcc 0 _ rfl)
          have c1 : wr.cell? ⟨b, off + k * 3 + 1, none⟩ = some (.int .i64 a) := (hB.cell (p := ⟨b, off + (k * 3 + 1), none⟩) hbw).trans (hcc 1 _ rfl)
          have HSU := Lib.hid hsu
          clear hcc hsu
          go_wp2_with fail
          refine (refTexts_any w.heap.size _ _ out t hO hwb (by omega) (by omega)).mono ?_
          rintro e w2 ⟨v2, rfl, hO2, hB2⟩
          have hBB2 := hB.trans hB2
          have d1 := (hB2.cell (p := ⟨b, off + k * 3 + 1, none⟩) hbw).trans c1
          have hwb2 := Nat.le_trans hwb hB2.size
          have hlen2 : (out ++ texts t).length ≤ 300000000 := by rw [List.length_append]; omega
          clear c0 c1 hO hB hB2 hwb
          go_wp2_with fail
          refine (refCopy_any w.heap.size _ _ _ a 1 hO2 hwb2 hlen2 (fun x hx => by have := HBD.out x hx; omega) (by omega) (by omega)).mono ?_
          rintro e w3 ⟨v3, rfl, hO3, hB3⟩
          have hBB3 := hBB2.trans hB3
          clear hO2 hBB2 hB3 d1
          go_wp2
          go_roundw
          case rel => exact ⟨k + 1, _, ByteArray.empty, by go_num, rfl, by omega, fun _ => by rw [HSU.out]; rfl, fun h => by omega, hO3, hBB3⟩
          case measure => simp [intOf]; omega
      · have hkk : k = len := by omega
        have hfin : out ++ texts t = stepsB bs := by
          have h1 := HST.out
          rw [List.take_of_length_le (by rw [HLEN.out]; omega)] at h1
          unfold stepsB finB
          rw [← h1]
        have HF := Lib.hid hfin
        subst hkk
        clear hfin
        go_wp2_with fail
        refine (refTexts_any w.heap.size _ _ out t hO hwb (by omega) (by omega)).mono ?_
        rintro e w2 ⟨v2, rfl, hO2, hB2⟩
        rw [HF.out] at hO2
        have hBB2 := hB.trans hB2
        clear hO hB hB2
        go_wp2
        go_roundw
        case rel => exact ⟨k + 1, _, ByteArray.empty, by first | rfl | go_num, rfl, by omega, fun h => by omega, fun _ => rfl, hO2, hBB2⟩
        case measure => simp [intOf]
    · have hkk : k = len + 1 := by omega
      have hfin := hend hkk
      clear hst hend
      subst hkk hfin
      go_wp2
      go_ret
      exact ⟨_, rfl, hO, hB⟩
end Go.Proofs.Ytabdmcgfiabaoaa
