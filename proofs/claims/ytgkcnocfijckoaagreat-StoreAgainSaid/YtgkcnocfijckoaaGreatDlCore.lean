/- Steps in memory: what the delta layer leans on. Conditions: as named in each theorem. -/
import Derived.Test.YtgkcnocfijckoaaGreatQD
import Derived.Test.YtgkcnocfijckoaaGreatQC
import Derived.Test.YtgkcnocfijckoaaGreatQR
import Derived.BigQuiet
namespace Go.Proofs.YtgkcnocfijckoaaGreat
open Go.RowKit
set_option linter.unusedVariables false
set_option linter.unusedSimpArgs false
theorem st_len (x : St) : x.c.length = 3 := rfl
theorem dn2 (w : World) (a b : Nat) : ∃ m, (w.drewN a).drewN b = w.drewN m := ⟨a + b, by simp⟩
theorem below_then {a w w' : World} (h : Below a.heap.size a w) (h2 : Below w.heap.size w w') : Below a.heap.size a w' := h.trans (h2.mono h.size)
theorem below_alloc (w : World) (o : Obj) : Below w.heap.size w (w.alloc o) := (Below.refl _ _).alloc (Nat.le_refl _) _
theorem Own.below {w w' : World} {base : Nat} {v : Value} {l : List St} (h : Own w base v l) (hb : Below w.heap.size w w') : Own w' base v l := World.ownsRow.kept h (below_grown hb none) (by cases v.ownBlock <;> simp)
theorem Own.rs {w : World} {base n cap : Nat} {ao : Option Addr} {l : List St} (hn : l.length = n) (h : Own w base (.slice ao n cap) l) : Rs w ao n cap 3 l St.c := by
  subst hn; exact Rs.of_owns st_len rfl h
def stK : Kd := .agg [.int .i64, .int .i64, .str]
theorem steps_of {w : World} {ao : Option Addr} {len cap : Nat} (h : (Kd.sl stK).ok w [.slice ao len cap]) : ∃ l : List St, Rs w ao len cap 3 l St.c ∧ ∀ x ∈ l, x.ok :=
  Kd.rows (k := stK) St.c St.ok (fun es h => by
    simp only [stK, Kd.ok, Kd.okL, Kd.cells] at h
    obtain ⟨a, b, rfl, _, ⟨k, rfl, hk⟩, a2, b2, rfl, _, ⟨n, rfl, hn⟩, a4, b4, rfl, _, ⟨t, rfl, ht⟩, rfl⟩ := h
    exact ⟨⟨k, n, t⟩, rfl, hk, hn, ht⟩) h
theorem rs_s {w : World} {ao : Option Addr} {len cap : Nat} {l : List St} (h : Rs w ao len cap 3 l St.c) (h0 : 0 < len) :
    ∃ b off, ao = some ⟨b, off, none⟩ ∧ b < w.heap.size ∧ ∀ k, (hk : k < l.length) → w.cell? ⟨b, off + k * 3, none⟩ = some (.int .i64 l[k].pos) ∧ w.cell? ⟨b, off + k * 3 + 1, none⟩ = some (.int .i64 l[k].len) ∧ w.cell? ⟨b, off + k * 3 + 2, none⟩ = some (.string l[k].text) := by
  obtain ⟨_, _, _, h4⟩ := h
  obtain ⟨b, off, e, hb, hc⟩ := h4 h0
  exact ⟨b, off, e, hb, fun k hk => ⟨by simpa using hc k hk 0 _ rfl, by simpa [Nat.add_assoc] using hc k hk 1 _ rfl, by simpa [Nat.add_assoc] using hc k hk 2 _ rfl⟩⟩
/-- texts and lengths, all told -/
def sum1 (x : St) : Nat := x.text.size + x.len.toNat
def sum2 (l : List St) : Nat := (l.map sum1).sum
theorem sum2_succ (l : List St) (k : Nat) (hk : k < l.length) : sum2 (l.take (k + 1)) = sum2 (l.take k) + sum1 l[k] := by
  rw [List.take_succ_eq_append_getElem hk]; unfold sum2; rw [List.map_append, List.sum_append]; simp
end Go.Proofs.YtgkcnocfijckoaaGreat
