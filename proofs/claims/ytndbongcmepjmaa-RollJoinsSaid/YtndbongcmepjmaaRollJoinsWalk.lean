/- RollJoins: the walk. No conditions. -/
import Derived.Test.YtndbongcmepjmaaRollJoin
namespace Go.Proofs.Ytndbongcmepjmaa
open Go.RowKit
set_option linter.unusedVariables false

theorem rollJoins_walk (w : World) (s : ByteArray) (hs : s.size ≤ 140737488351232) (t : ByteArray) (ht : t.size ≤ 140737488351232) :
    Calls Try.prog 4 #[.string s, .string t] w fun e w' => e = .returned (.bool true) ∧ Below w.heap.size w w' := by
  go_enter Try.func4, Try.ntmps4
  go_wp2_with fail
  refine (cut_any s 5000 _ (by omega) (by omega)).mono ?_
  rintro e w' ⟨rfl, rfl⟩
  have h1 := cutS_size s 5000
  go_wp2_with fail
  refine (cut_any t 5000 _ (by omega) (by omega)).mono ?_
  rintro e w' ⟨rfl, rfl⟩
  have h2 := cutS_size t 5000
  generalize cutS s 5000 = a at h1 ⊢
  generalize cutS t 5000 = b at h2 ⊢
  go_wp2_with fail
  refine (rollSum_any _ _ (by omega)).mono ?_
  rintro e w' ⟨rfl, rfl⟩
  go_wp2_with fail
  refine (rollSum_any _ _ (by omega)).mono ?_
  rintro e w' ⟨rfl, rfl⟩
  go_wp2_with fail
  have l1 := weak_lt a.data.toList
  have l2 := weak_lt b.data.toList
  refine (join_ok _ _ _ _ ⟨by omega, by omega, by omega, by omega, by omega, by omega⟩).mono ?_
  rintro e w' ⟨rfl, rfl⟩
  go_wp2_with fail
  refine (refSum_any _ _ (by simp; omega)).mono ?_
  rintro e w' ⟨rfl, rfl⟩
  have he : (joinI (weak a.data.toList) (weak b.data.toList) b.size == (weak (a.data.toList ++ b.data.toList) : Int)) = true := by
    have hj := joinI_weak a.data.toList b.data.toList (by simp; omega)
    have hz : b.data.toList.length = b.size := by simp
    rw [hz] at hj
    rw [hj]; simp
  go_wp2_with (go_at_call 14; refine (awake_any _).mono ?_; rintro e w' ⟨rfl, rfl⟩)
  go_ret
  exact ⟨rfl, Below.refl _ _⟩
end Go.Proofs.Ytndbongcmepjmaa
