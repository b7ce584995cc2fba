/- The store's functions at no store, and at one without a book. Conditions: as named in each theorem. -/
import Derived.Test.YtgkcnocfijckoaaGreatSA
namespace Go.Proofs.YtgkcnocfijckoaaGreat
open Go.RowKit Sg
set_option linter.unusedVariables false
set_option linter.unusedSimpArgs false
set_option maxHeartbeats 1000000 in
theorem nilImage_any (w : World) (n : Int) : Calls Tryz.prog 33 #[.pointer none, .int .i64 n] w fun e w' => e = .returned (.tuple #[.string ByteArray.empty, .int .i64 15]) ∧ w' = w := by
  go_enter Tryz.func33, Tryz.ntmps33
  go_wp2
  go_ret2
  exact ⟨rfl, rfl⟩
set_option maxHeartbeats 1000000 in
theorem nilRebase_any (w : World) (n : Int) : Calls Tryz.prog 34 #[.pointer none, .int .i64 n] w fun e w' => e = .returned (.tuple #[.slice none 0 0, .int .i64 15]) ∧ w' = w := by
  go_enter Tryz.func34, Tryz.ntmps34
  go_wp2
  go_ret2
  exact ⟨rfl, rfl⟩
set_option maxHeartbeats 1000000 in
theorem nilMark_any (w : World) (n : Int) : Calls Tryz.prog 26 #[.pointer none, .int .i64 n] w fun e w' => e = .returned (.tuple #[.string ByteArray.empty, .bool false]) ∧ w' = w := by
  go_enter Tryz.func26, Tryz.ntmps26
  go_wp2
  go_ret2
  exact ⟨rfl, rfl⟩
set_option maxHeartbeats 1000000 in
theorem nilDo_any (w : World) (s : ByteArray) : Calls Tryz.prog 13 #[.pointer none, .string s] w fun e w' => e = .returned (.int .i64 15) ∧ w' = w := by
  go_enter Tryz.func13, Tryz.ntmps13
  go_wp2
  go_ret
  exact ⟨rfl, rfl⟩
set_option maxHeartbeats 1000000 in
theorem nilGens_any (w : World) : Calls Tryz.prog 21 #[.pointer none] w fun e w' => e = .returned (.slice none 0 0) ∧ w' = w := by
  go_enter Tryz.func21, Tryz.ntmps21
  go_wp2
  go_ret
  exact ⟨rfl, rfl⟩
set_option maxHeartbeats 1000000 in
theorem nilScrub_any (w : World) : Calls Tryz.prog 30 #[.pointer none] w fun e w' => e = .returned (.slice none 0 0) ∧ w' = w := by
  go_enter Tryz.func30, Tryz.ntmps30
  go_wp2
  go_ret
  exact ⟨rfl, rfl⟩
set_option maxHeartbeats 1000000 in
theorem nilBytes_any (w : World) : Calls Tryz.prog 36 #[.pointer none] w fun e w' => e = .returned (.int .i64 0) ∧ w' = w := by
  go_enter Tryz.func36, Tryz.ntmps36
  go_wp2
  go_ret
  exact ⟨rfl, rfl⟩
set_option maxHeartbeats 1000000 in
theorem nilCopy_any (w : World) : Calls Tryz.prog 37 #[.pointer none] w fun e w' => e = .returned (.pointer none) ∧ w' = w := by
  go_enter Tryz.func37, Tryz.ntmps37
  go_wp2
  go_ret
  exact ⟨rfl, rfl⟩
set_option maxHeartbeats 1000000 in
theorem bareWhole_any (w : World) (ps : Nat) (h : Blk w ps [.pointer none, .slice none 0 0] 88) (n : Int) (s : ByteArray) : Calls Tryz.prog 19 #[.pointer (some ⟨ps, 0, none⟩), .int .i64 n, .string s] w fun e w' => e = .returned (.tuple #[.string ByteArray.empty, .int .i64 15]) ∧ w' = w := by
  have c0 := h.cell (i := 0) rfl
  clear h
  go_enter Tryz.func19, Tryz.ntmps19
  go_wp2
  go_ret2
  exact ⟨rfl, rfl⟩
set_option maxHeartbeats 1000000 in
theorem bareBest_any (w : World) (ps : Nat) (h : Blk w ps [.pointer none, .slice none 0 0] 88) (n d : Int) (s : ByteArray) : Calls Tryz.prog 20 #[.pointer (some ⟨ps, 0, none⟩), .int .i64 n, .string s, .int .i64 d] w fun e w' => e = .returned (.tuple #[.string ByteArray.empty, .int .i64 15]) ∧ w' = w := by
  have c0 := h.cell (i := 0) rfl
  clear h
  go_enter Tryz.func20, Tryz.ntmps20
  go_wp2
  go_ret2
  exact ⟨rfl, rfl⟩
set_option maxHeartbeats 1000000 in
theorem barePartly_any (w : World) (ps : Nat) (h : Blk w ps [.pointer none, .slice none 0 0] 88) (n b : Int) (s : ByteArray) : Calls Tryz.prog 24 #[.pointer (some ⟨ps, 0, none⟩), .int .i64 n, .int .i64 b, .string s] w fun e w' => e = .returned (.tuple #[.string ByteArray.empty, .int .i64 15]) ∧ w' = w := by
  have c0 := h.cell (i := 0) rfl
  clear h
  go_enter Tryz.func24, Tryz.ntmps24
  go_wp2
  go_ret2
  exact ⟨rfl, rfl⟩
set_option maxHeartbeats 1000000 in
theorem bareDo_any (w : World) (ps : Nat) (h : Blk w ps [.pointer none, .slice none 0 0] 88) (s : ByteArray) : Calls Tryz.prog 13 #[.pointer (some ⟨ps, 0, none⟩), .string s] w fun e w' => e = .returned (.int .i64 15) ∧ w' = w := by
  have c0 := h.cell (i := 0) rfl
  clear h
  go_enter Tryz.func13, Tryz.ntmps13
  go_wp2
  go_ret
  exact ⟨rfl, rfl⟩
set_option maxHeartbeats 1000000 in
theorem bareRecords_any (w : World) (ps : Nat) (h : Blk w ps [.pointer none, .slice none 0 0] 88) : Calls Tryz.prog 35 #[.pointer (some ⟨ps, 0, none⟩)] w fun e w' => e = .returned (.slice none 0 0) ∧ w' = w := by
  have c0 := h.cell (i := 0) rfl
  clear h
  go_enter Tryz.func35, Tryz.ntmps35
  go_wp2
  go_ret
  exact ⟨rfl, rfl⟩
end Go.Proofs.YtgkcnocfijckoaaGreat
