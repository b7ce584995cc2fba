/- Messages among the arguments. No conditions. -/
import Derived.Test.YtlcpnpoleaanmaaMsgHas
namespace Go.Proofs.Ytlcpnpoleaanmaa
open Go.RowKit
set_option linter.unusedVariables false

def enK : Kd := .agg [.int .i64, .int .i64, .str]
def mgK : Kd := .agg [.int .i64, .int .i64, .int .i64, .int .i64, .int .i64, .int .i64, .int .i64, .int .i64, .int .i64, .str, .agg [.int .i64, .int .i64, .str], .sl enK]
/-- a message whose numbers and texts are the machine's -/
def Mg.ok (m : Mg) : Prop := m.mark.size ≤ maxLen ∧ m.ptext.size ≤ maxLen ∧ ∀ x ∈ m.list, x.mark.size ≤ maxLen
theorem ens_of {w : World} {ao : Option Addr} {len cap : Nat} (h : (Kd.sl enK).ok w [.slice ao len cap]) : ∃ l : List En, Rs w ao len cap 3 l enC ∧ ∀ x ∈ l, x.mark.size ≤ maxLen :=
  Kd.rows (k := enK) enC (fun x => x.mark.size ≤ maxLen) (fun es h => by
    simp only [enK, Kd.ok, Kd.okL, Kd.cells] at h
    obtain ⟨a, b, rfl, _, ⟨k, rfl, hk⟩, a2, b2, rfl, _, ⟨n, rfl, hn⟩, a4, b4, rfl, _, ⟨t, rfl, ht⟩, rfl⟩ := h
    exact ⟨⟨k, n, t⟩, rfl, ht⟩) h
theorem mg_of {w : World} {cs : List Value} (h : mgK.ok w cs) : ∃ (m : Mg) (ao : Option Addr) (n cap : Nat), cs = mgC m (.slice ao n cap) ∧ Rs w ao n cap 3 m.list enC ∧ m.ok := by
  simp only [mgK, Kd.ok, Kd.okL] at h
  obtain ⟨a0, b0, rfl, _, ⟨k, rfl, _⟩, a1, b1, rfl, _, ⟨s, rfl, _⟩, a2, b2, rfl, _, ⟨d, rfl, _⟩, a3, b3, rfl, _, ⟨ba, rfl, _⟩, a4, b4, rfl, _, ⟨g, rfl, _⟩, a5, b5, rfl, _, ⟨bs, rfl, _⟩, a6, b6, rfl, _, ⟨f, rfl, _⟩, a7, b7, rfl, _, ⟨t, rfl, _⟩, a8, b8, rfl, _, ⟨r, rfl, _⟩, a9, b9, rfl, _, ⟨mk, rfl, hmk⟩, a10, b10, rfl, _, ⟨x0, y0, rfl, _, ⟨pa, rfl, _⟩, x1, y1, rfl, _, ⟨po, rfl, _⟩, x2, y2, rfl, _, ⟨pt, rfl, hpt⟩, rfl⟩, a11, b11, rfl, _, hl, rfl⟩ := h
  obtain ⟨ao, len, cap, rfl, h1, h2, h3⟩ := hl
  have hk : (Kd.sl enK).ok w [.slice ao len cap] := ⟨ao, len, cap, rfl, h1, h2, h3⟩
  obtain ⟨l, hR, hx⟩ := ens_of hk
  exact ⟨⟨k, s, d, ba, g, bs, f, t, r, mk, pa, po, pt, l⟩, ao, len, cap, rfl, hR, hmk, hpt, hx⟩
end Go.Proofs.Ytlcpnpoleaanmaa
