/- A whole message loaded and stored at once. Conditions: as named in each theorem. -/
import Derived.Test.YtlcpnpoleaanmaaMsgFew
import Derived.Deep.MidRow
namespace Go.Proofs.Ytlcpnpoleaanmaa
open Go.RowKit
set_option linter.unusedVariables false

theorem mgInfo (m : Mg) (v : Value) : (Try.prog.info? 26).map (·.size) = some (mgC m v).toArray.size := by
  show _ = some 14
  kernel_rfl
theorem mgOne (m : Mg) (ao : Option Addr) (n cap : Nat) : (mgC m (.slice ao n cap)).toArray.all (·.oneCell') = true := all_oneCell_toArray (by
  intro u hu
  simp only [mgC, List.mem_cons, List.not_mem_nil, or_false] at hu
  rcases hu with rfl | rfl | rfl | rfl | rfl | rfl | rfl | rfl | rfl | rfl | rfl | rfl | rfl | rfl <;> rfl)
theorem Blk.there {w : World} {q : Nat} {cs : List Value} {T : TypeId} (h : Blk w q cs T) (m : Mg) (v : Value) (hl : cs.length = 14) : w.there q 0 (mgC m v).toArray.size := by
  intro j hj
  have hj14 : j < cs.length := by rw [hl]; exact hj
  rw [Nat.zero_add]
  exact ⟨by rw [h.cell (List.getElem?_eq_getElem hj14)]; rfl, h.frozen j⟩
/-- what a whole store leaves -/
def putM (w : World) (q : Nat) (m : Mg) (v : Value) : World := w.setCells q 0 (mgC m v).toArray.toList
theorem putM_blk {w : World} {q : Nat} {m0 m : Mg} {v0 v : Value} {T : TypeId} (h : Blk w q (mgC m0 v0) T) : Blk (putM w q m v) q (mgC m v) T := Blk.sets _ _ _ _ _ _ _ _ _ _ _ _ _ _ h
theorem putM_below {w W : World} (h : Below w.heap.size w W) {q : Nat} (hq : w.heap.size ≤ q) (m : Mg) (v : Value) : Below w.heap.size w (putM W q m v) := set14 h hq _ _ _ _ _ _ _ _ _ _ _ _ _ _
theorem putM_other {w : World} {q p : Nat} {cs : List Value} {T : TypeId} (h : Blk w p cs T) (hne : p ≠ q) (m : Mg) (v : Value) : Blk (putM w q m v) p cs T :=
  (((((((((((((h.setOther hne _).setOther hne _).setOther hne _).setOther hne _).setOther hne _).setOther hne _).setOther hne _).setOther hne _).setOther hne _).setOther hne _).setOther hne _).setOther hne _).setOther hne _).setOther hne _
theorem ld_mg {ops : Array Oper} {rest : List Oper} {o : Oper} {a : Act} {w : World} {Q : Exit → Act → World → Prop} {x : Operand} {p : Nat} {m : Mg} {v : Value} (h : Blk w p (mgC m v) 26) (hgd : o.guard = none) (ho : o.op = .load 26 x)
    (hx : a.eval x = .pointer (some ⟨p, 0, none⟩)) (hK : wpList Try.prog ops Q rest (a.put o.dst (.agg (mgC m v).toArray)) w) : wpList Try.prog ops Q (o :: rest) a w :=
  wpList_load_row hgd 26 x ho p hx 26 _ _ _ h Try.underlying26 rfl (mgInfo m v) hK
theorem st_mg {ops : Array Oper} {rest : List Oper} {o : Oper} {a : Act} {w : World} {Q : Exit → Act → World → Prop} {x y : Operand} {p : Nat} {m0 m : Mg} {v0 : Value} {ao : Option Addr} {n cap : Nat} (h : Blk w p (mgC m0 v0) 26) (hgd : o.guard = none) (ho : o.op = .store 26 x y)
    (hx : a.eval x = .pointer (some ⟨p, 0, none⟩)) (hy : a.eval y = .agg (mgC m (.slice ao n cap)).toArray) (hK : wpList Try.prog ops Q rest (a.put o.dst undef) (putM w p m (.slice ao n cap))) : wpList Try.prog ops Q (o :: rest) a w :=
  wpList_store_mid hgd 26 x y ho p 0 _ hx hy (h.there m _ rfl) (mgInfo m _) (mgOne m ao n cap) hK
/-- two messages in memory -/
def Two (w : World) (p1 p2 : Nat) (m m2 : Mg) (v v2 : Value) : Prop := Blk w p1 (mgC m v) 26 ∧ Blk w p2 (mgC m2 v2) 26
theorem Two.next {w w' : World} {p1 p2 : Nat} {m m2 : Mg} {v v2 : Value} (h : Two w p1 p2 m m2 v v2) (hb : Below w.heap.size w w') : Two w' p1 p2 m m2 v v2 := ⟨h.1.below hb h.1.lt, h.2.below hb h.2.lt⟩
end Go.Proofs.Ytlcpnpoleaanmaa
