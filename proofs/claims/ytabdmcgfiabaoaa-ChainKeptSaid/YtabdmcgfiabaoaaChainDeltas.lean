/- Deltas as arguments. Conditions: as named in each theorem. -/
import Derived.Test.YtabdmcgfiabaoaaChainCompose
import Derived.Test.YtabdmcgfiabaoaaChainRefCompose
import Derived.Test.YtabdmcgfiabaoaaChainTidiesWalk
namespace Go.Proofs.Ytabdmcgfiabaoaa
open Go.RowKit
set_option linter.unusedVariables false

def dlK : Kd := .agg [.str, .str, .int .i64, .sl (.agg [.int .i64, .int .i64, .str])]
theorem dl_of {w : World} {cs : List Value} (h : dlK.ok w cs) : ∃ (d : Dl) (ao : Option Addr) (len cap : Nat), cs = [.string d.basis, .string d.mark, .int .i64 d.size, .slice ao len cap] ∧ Rs w ao len cap 3 d.steps St.c ∧ d.ok := by
  simp only [dlK, Kd.ok, Kd.okL, Kd.cells] at h
  obtain ⟨a, b, rfl, _, ⟨s, rfl, hs⟩, a2, b2, rfl, _, ⟨m, rfl, hm⟩, a3, b3, rfl, _, ⟨n, rfl, hn⟩, a4, b4, rfl, _, ⟨ao, len, cap, rfl, hsl⟩, rfl⟩ := h
  have hk : (Kd.sl stK).ok w [.slice ao len cap] := by
    simp only [stK, Kd.ok, Kd.okL, Kd.cells]
    exact ⟨ao, len, cap, rfl, hsl⟩
  obtain ⟨l, hR, hok⟩ := steps_of hk
  exact ⟨⟨s, m, n, l⟩, ao, len, cap, rfl, hR, hn, hs, hm, hok⟩
theorem dl_of_arr {w : World} {c : Array Value} (h : dlK.ok w c.toList) : ∃ (d : Dl) (ao : Option Addr) (len cap : Nat), c = #[.string d.basis, .string d.mark, .int .i64 d.size, .slice ao len cap] ∧ Rs w ao len cap 3 d.steps St.c ∧ d.ok := by
  obtain ⟨d, ao, len, cap, h1, h2⟩ := dl_of h
  exact ⟨d, ao, len, cap, Array.ext' h1, h2⟩
theorem stepsB_len (bs : List By) : (stepsB bs).length ≤ bs.length := by
  have h := small_fold bs bs.length (Nat.le_refl _)
  rw [List.take_length] at h
  have h1 := h.1
  have h2 := texts_len (bs.foldl stepB ([], ByteArray.empty)).2
  unfold stepsB finB
  rw [List.length_append]
  omega
theorem CompR.len {a b : Dl} {E : Int} {D : Dl} (h : CompR a b E D) : D.steps.length ≤ 1000000 := by
  rcases h with ⟨h1, h2, rfl⟩ | ⟨h1, h2, h3, h4, rfl⟩ | ⟨h1, h2, h3, h4, h5, rfl⟩ | ⟨h1, h2, h3, h4, h5, rfl⟩
  · simp [zeroD]
  · simp [zeroD]
  · simp [zeroD]
  · have a1 := stepsB_len (compB a.steps b.steps)
    have a2 := compB_len a.steps b.steps
    rw [bytes_len_right h2.2.2.2.2.1] at a2
    have a3 := h2.2.2.2.1
    have a4 := h2.2.2.2.2.2
    simp only
    omega
end Go.Proofs.Ytabdmcgfiabaoaa
