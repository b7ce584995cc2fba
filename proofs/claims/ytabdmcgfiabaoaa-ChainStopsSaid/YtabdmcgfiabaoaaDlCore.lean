/- Steps in memory: what the delta layer leans on. Conditions: as named in each theorem. -/
import Derived.Test.YtabdmcgfiabaoaaQD
import Derived.Test.YtabdmcgfiabaoaaQC
import Derived.Test.YtabdmcgfiabaoaaOwnsBase
import Derived.BigQuiet
namespace Go.Proofs.Ytabdmcgfiabaoaa
open Go.RowKit
set_option linter.unusedVariables false
set_option linter.unusedSimpArgs false
theorem st_len (x : St) : x.c.length = 3 := rfl
theorem dn2 (w : World) (a b : Nat) : ∃ m, (w.drewN a).drewN b = w.drewN m := ⟨a + b, by simp⟩
theorem below_then {a w w' : World} (h : Below a.heap.size a w) (h2 : Below w.heap.size w w') : Below a.heap.size a w' := h.trans (h2.mono h.size)
theorem below_alloc (w : World) (o : Obj) : Below w.heap.size w (w.alloc o) := (Below.refl _ _).alloc (Nat.le_refl _) _
theorem Own.below {w w' : World} {base : Nat} {v : Value} {l : List St} (h : Own w base v l) (hb : Below w.heap.size w w') : Own w' base v l := World.ownsRow.kept h (below_grown hb none) (by cases v.ownBlock <;> simp)
theorem Own.rs {w : World} {base n cap : Nat} {ao : Option Addr} {l : List St} (hn : l.length = n) (h : Own w base (.slice ao n cap) l) : Rs w ao n cap 3 l St.c := by
  subst hn; exact Rs.of_owns st_len rfl h
theorem rs_s {w : World} {ao : Option Addr} {len cap : Nat} {l : List St} (h : Rs w ao len cap 3 l St.c) (h0 : 0 < len) :
    ∃ b off, ao = some ⟨b, off, none⟩ ∧ b < w.heap.size ∧ ∀ k, (hk : k < l.length) → w.cell? ⟨b, off + k * 3, none⟩ = some (.int .i64 l[k].pos) ∧ w.cell? ⟨b, off + k * 3 + 1, none⟩ = some (.int .i64 l[k].len) ∧ w.cell? ⟨b, off + k * 3 + 2, none⟩ = some (.string l[k].text) := by
  obtain ⟨_, _, _, h4⟩ := h
  obtain ⟨b, off, e, hb, hc⟩ := h4 h0
  exact ⟨b, off, e, hb, fun k hk => ⟨by simpa using hc k hk 0 _ rfl, by simpa [Nat.add_assoc] using hc k hk 1 _ rfl, by simpa [Nat.add_assoc] using hc k hk 2 _ rfl⟩⟩
set_option maxHeartbeats 1000000 in
theorem steps_eq (w : World) (ao bo : Option Addr) (n cap cap2 : Nat) (l : List St) (hn : n ≤ 1000000000) (ha : Rs w ao n cap 3 l St.c) (hb : Rs w bo n cap2 3 l St.c) :
    Calls Try.prog 16 #[.slice ao n cap, .slice bo n cap2] w fun e w' => e = .returned (.bool true) ∧ Below w.heap.size w w' := by
  have HL := Lib.hid ha.2.2.1
  go_enter Try.func16, Try.ntmps16
  go_wp2
  go_loopw [5] (fun i wr => ∃ k : Nat, k ≤ n ∧ i = .int .i64 k ∧ ∃ m, wr = w.drewN m) (fun i _ => n - (intOf i).toNat)
  case atStart => exact ⟨0, by omega, rfl, 0, rfl⟩
  case round =>
    obtain ⟨k, hk, rfl, m, rfl⟩ := hrel
    by_cases hlt : k < n
    · obtain ⟨b1, o1, rfl, -, h1⟩ := rs_s ha (by omega)
      obtain ⟨b2, o2, rfl, -, h2⟩ := rs_s hb (by omega)
      have hks : k < l.length := by rw [HL.out]; exact hlt
      obtain ⟨c0, c1, c2⟩ := h1 k hks
      obtain ⟨d0, d1, d2⟩ := h2 k hks
      obtain ⟨x, hx⟩ : ∃ x, x = l[k] := ⟨_, rfl⟩
      rw [← hx] at c0 c1 c2 d0 d1 d2
      have i1 : (k : Int) < (n : Int) := by omega
      clear h1 h2 hx ha hb hks
      go_wp2
      go_quiet (fail)
      go_wp2
      go_roundw
      case rel => exact ⟨k + 1, by omega, by go_num, by first | exact ⟨_, rfl⟩ | exact dn2 _ _ _⟩
      case measure => simp [intOf]; omega
    · go_wp2
      go_ret
      exact ⟨rfl, below_drewN' (Below.refl _ _) _⟩
theorem steps_true (w : World) (l : List St) (a b : Value) {base base2 : Nat} (hl : l.length ≤ 1000000000) (ha : Own w base a l) (hb : Own w base2 b l) :
    Calls Try.prog 16 #[a, b] w fun e w' => e = .returned (.bool true) ∧ Below w.heap.size w w' := by
  obtain ⟨ao, ca, rfl⟩ := owns_slice ha
  obtain ⟨bo, cb, rfl⟩ := owns_slice hb
  exact steps_eq w ao bo l.length ca cb l hl (ha.rs rfl) (hb.rs rfl)
/-- texts and lengths, all told -/
def sum1 (x : St) : Nat := x.text.size + x.len.toNat
def sum2 (l : List St) : Nat := (l.map sum1).sum
theorem sum2_succ (l : List St) (k : Nat) (hk : k < l.length) : sum2 (l.take (k + 1)) = sum2 (l.take k) + sum1 l[k] := by
  rw [List.take_succ_eq_append_getElem hk]; unfold sum2; rw [List.map_append, List.sum_append]; simp
end Go.Proofs.Ytabdmcgfiabaoaa
