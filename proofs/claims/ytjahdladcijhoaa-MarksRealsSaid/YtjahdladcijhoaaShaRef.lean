/- The document's real book: Mark and Is. Conditions: as named in each theorem. -/
import Derived.Test.YtjahdladcijhoaaShaRSum
namespace Go.Proofs.Ytjahdladcijhoaa
open Go.RowKit
set_option linter.unusedVariables false
set_option linter.unusedSimpArgs false

/-- the document's real book -/
def RefReal (w : World) (q : Nat) : Prop := Blk w q [.bool true, .slice none 0 0] 33
theorem RefReal.next {w w' : World} {q : Nat} (h : RefReal w q) (hb : Below w.heap.size w w') : RefReal w' q := Blk.below h hb (Blk.lt h)
theorem RefReal.lt {w : World} {q : Nat} (h : RefReal w q) : q < w.heap.size := Blk.lt h
theorem refMark_real (w : World) (q : Nat) (s : ByteArray) (h : RefReal w q) (hs : s.size ≤ 900000000) :
    Calls Try.prog 25 #[.pointer (some ⟨q, 0, none⟩), .string s] w fun e w' => e = .returned (.string (shaS s)) ∧ Below w.heap.size w w' := by
  have c := Blk.cell h (i := 0) rfl
  have HS := Lib.hid (rsum_any w s hs)
  clear h
  go_enter Try.func25, Try.ntmps25
  go_wp2_with fail
  refine HS.out.mono ?_
  rintro e w' ⟨rfl, hb⟩
  go_wp2
  go_ret
  exact ⟨rfl, hb⟩
theorem refIs_real (w : World) (q : Nat) (s mk : ByteArray) (h : RefReal w q) (hs : s.size ≤ 900000000) :
    Calls Try.prog 26 #[.pointer (some ⟨q, 0, none⟩), .string s, .string mk] w fun e w' => e = .returned (.bool ((shaS s).toList == mk.toList)) ∧ Below w.heap.size w w' := by
  have c := Blk.cell h (i := 0) rfl
  have HS := Lib.hid (rsum_any w s hs)
  obtain ⟨SS, hSS⟩ : ∃ SS, SS = shaS s := ⟨_, rfl⟩
  rw [← hSS] at HS ⊢
  clear h hSS
  go_enter Try.func26, Try.ntmps26
  go_wp2_with fail
  refine HS.out.mono ?_
  rintro e w' ⟨rfl, hb⟩
  go_wp2
  go_ret
  exact ⟨rfl, hb⟩
end Go.Proofs.Ytjahdladcijhoaa
