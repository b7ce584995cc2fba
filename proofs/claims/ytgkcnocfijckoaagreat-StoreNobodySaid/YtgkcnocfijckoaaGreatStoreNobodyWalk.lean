/- StoreNobody, walked: a store without a book, or none, keeps nothing. No conditions. -/
import Derived.Test.YtgkcnocfijckoaaGreatSF
import Derived.Test.YtgkcnocfijckoaaGreatStNil
namespace Go.Proofs.YtgkcnocfijckoaaGreat
open Go.RowKit Sg
set_option linter.unusedVariables false
set_option linter.unusedSimpArgs false
set_option maxRecDepth 100000 in
set_option maxHeartbeats 8000000 in
theorem storeNobody_walk (w : World) (n : Int) (wn : (Lit.int .i64 n).wf = true) (s : ByteArray) (hs : s.size ≤ 140737488351232) :
    Calls Tryz.prog 9 #[.int .i64 n, .string s] w fun e w' => e = .returned (.bool true) ∧ Below w.heap.size w w' := by
  go_enter Tryz.func9, Tryz.ntmps9
  go_wp2_with fail
  refine (stNew_any w none).mono ?_
  rintro e w1 ⟨rfl, hB1, hb1⟩
  obtain ⟨ps, hps⟩ : ∃ q, q = w.heap.size := ⟨_, rfl⟩
  rw [← hps] at hB1 ⊢
  have HB1 := Lib.hid (And.intro hB1 hb1)
  clear hps hB1 hb1
  go_wp2_with fail
  refine (nilImage_any w1 n).mono ?_
  rintro e w' ⟨rfl, rfl⟩
  go_wp2_with fail
  refine (bareWhole_any w' ps HB1.out.1 n s).mono ?_
  rintro e w1 ⟨rfl, rfl⟩
  go_wp2_with fail
  refine (bareBest_any w1 ps HB1.out.1 n 3 s).mono ?_
  rintro e w' ⟨rfl, rfl⟩
  go_wp2_with fail
  refine (nilRebase_any w' n).mono ?_
  rintro e w1 ⟨rfl, rfl⟩
  go_wp2_with fail
  refine (barePartly_any w1 ps HB1.out.1 n 0 s).mono ?_
  rintro e w' ⟨rfl, rfl⟩
  go_wp2_with fail
  refine (nilMark_any w' n).mono ?_
  rintro e w1 ⟨rfl, rfl⟩
  go_wp2_with fail
  refine (nilDo_any w1 s).mono ?_
  rintro e w' ⟨rfl, rfl⟩
  go_wp2_with fail
  refine (bareDo_any w' ps HB1.out.1 s).mono ?_
  rintro e w1 ⟨rfl, rfl⟩
  go_wp2_with fail
  refine (nilGens_any w1).mono ?_
  rintro e w' ⟨rfl, rfl⟩
  go_wp2_with fail
  refine (bareRecords_any w' ps HB1.out.1).mono ?_
  rintro e w1 ⟨rfl, rfl⟩
  go_wp2_with fail
  refine (nilScrub_any w1).mono ?_
  rintro e w' ⟨rfl, rfl⟩
  go_wp2_with fail
  refine (nilBytes_any w').mono ?_
  rintro e w1 ⟨rfl, rfl⟩
  go_wp2_with fail
  refine (nilCopy_any w1).mono ?_
  rintro e w' ⟨rfl, rfl⟩
  go_wp2_with fail
  refine (awake_any w').mono ?_
  rintro e w2 ⟨rfl, hb2⟩
  have HF := Lib.hid (bl_nx HB1.out.2 hb2)
  clear hb2
  go_wp2
  go_ret
  exact ⟨rfl, HF.out⟩
end Go.Proofs.YtgkcnocfijckoaaGreat
