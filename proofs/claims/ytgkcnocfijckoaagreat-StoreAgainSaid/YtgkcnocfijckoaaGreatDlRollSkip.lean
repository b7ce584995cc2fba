/- Skip. Conditions: as named in each theorem. -/
import Derived.Test.YtgkcnocfijckoaaGreatQB
import Derived.Test.YtgkcnocfijckoaaGreatQA
import Derived.Deep.QuietTactic
import Derived.BigQuiet
import Derived.StillTailTactics
namespace Go.Proofs.YtgkcnocfijckoaaGreat
open Go.RowKit
set_option linter.unusedVariables false
set_option linter.unusedSimpArgs false
/-- the window's block: the text, the size, where it stands, the two sums -/
def RollB (w : World) (p : Nat) (s : ByteArray) (size at_ : Nat) (a b : Nat) : Prop := Blk w p [.string s, .int .i64 size, .int .i64 at_, .int .i64 a, .int .i64 b] 184
theorem sumw_any (w : World) (p : Nat) (s : ByteArray) (size at_ a b : Nat) (h : RollB w p s size at_ a b) (ha : a < 65536) (hb : b < 65536) :
    Calls Tryz.prog 110 #[.pointer (some ⟨p, 0, none⟩)] w fun e w' => e = .returned (.int .i64 (a + 65536 * b : Nat)) ∧ ∃ n, w' = w.drewN n := by
  have c3 := Blk.cell h (i := 3) rfl
  have c4 := Blk.cell h (i := 4) rfl
  go_enter Tryz.func110, Tryz.ntmps110
  go_wp2
  go_quiet (fail)
  go_wp2
  go_ret
  exact ⟨ret_int (by omega), _, rfl⟩
theorem next_end (w : World) (p : Nat) (s : ByteArray) (size at_ a b : Nat) (h : RollB w p s size at_ a b) (hs : 0 < size) (hend : at_ + size = s.size) (hz : s.size ≤ 1000000) :
    Calls Tryz.prog 111 #[.pointer (some ⟨p, 0, none⟩)] w fun e w' => e = .returned (.bool false) ∧ ∃ n, w' = w.drewN n := by
  have c0 := Blk.cell h (i := 0) rfl
  have c1 := Blk.cell h (i := 1) rfl
  have c2 := Blk.cell h (i := 2) rfl
  have e1 : ((size : Int) == 0) = false := by simp; omega
  have e2 : ((at_ : Int) + (size : Int) == (s.size : Int)) = true := by simp; omega
  have hle : at_ + size ≤ 1000000 := by omega
  have w1 : IntKind.i64.wrap ((at_ : Int) + (size : Int)) = (at_ : Int) + (size : Int) := IntWalk.i64_in _ (by omega)
  clear hend
  go_enter Tryz.func111, Tryz.ntmps111
  go_wp2
  go_quiet (fail)
  go_wp2
  go_ret
  exact ⟨rfl, _, rfl⟩
set_option maxRecDepth 100000 in
theorem next_go (w : World) (p : Nat) (s : ByteArray) (size at_ a b : Nat) (h : RollB w p s size at_ a b) (hs : 0 < size) (hsz : size ≤ 1024) (hgo : at_ + size < s.size) (hz : s.size ≤ 1000000) (ha : a < 65536) (hb : b < 65536) :
    Calls Tryz.prog 111 #[.pointer (some ⟨p, 0, none⟩)] w fun e w' => e = .returned (.bool true) ∧ w.grownBy w' (some p) ∧
      ∃ a' b' : Nat, RollB w' p s size (at_ + 1) a' b' ∧ (a' : Int) = ((a : Int) - (s[at_]'(by omega)).toNat + (s[at_ + size]'(by omega)).toNat + 65536) % 65536 ∧
        (b' : Int) = ((b : Int) - (size * (s[at_]'(by omega)).toNat : Nat) % 65536 + a' + 65536) % 65536 := by
  have c0 := Blk.cell h (i := 0) rfl
  have c1 := Blk.cell h (i := 1) rfl
  have c2 := Blk.cell h (i := 2) rfl
  have c3 := Blk.cell h (i := 3) rfl
  have c4 := Blk.cell h (i := 4) rfl
  have f2 := Blk.frozen h 2
  have f3 := Blk.frozen h 3
  have f4 := Blk.frozen h 4
  have HB := Lib.hid h
  clear h
  have e1 : ((size : Int) == 0) = false := by simp; omega
  have e2 : ((at_ : Int) + (size : Int) == (s.size : Int)) = false := by simp; omega
  have w1 : IntKind.i64.wrap ((at_ : Int) + (size : Int)) = (at_ : Int) + (size : Int) := IntWalk.i64_in _ (by omega)
  have t1 : ((at_ : Int) + (size : Int)).toNat = at_ + size := by omega
  have b1 : (at_ : Int) < (s.size : Int) := by omega
  have b2 : (at_ : Int) + (size : Int) < (s.size : Int) := by omega
  have b3 : (0 : Int) ≤ (at_ : Int) + (size : Int) := by omega
  have b4 : at_ < s.size := by omega
  have hx1 : (s[at_]'(by omega)).toNat < 256 := (s[at_]'(by omega)).toNat_lt
  have hy1 : (s[at_ + size]'(by omega)).toNat < 256 := (s[at_ + size]'(by omega)).toNat_lt
  go_enter Tryz.func111, Tryz.ntmps111
  go_wp2
  go_quiet (fail)
  generalize nq = n1
  go_wp2
  go_quiet (fail)
  generalize nq = n2
  go_wp2
  obtain ⟨A, hA⟩ : ∃ A : Nat, (A : Int) = ((a : Int) - ((s[at_]'(by omega)).toNat : Int) + ((s[at_ + size]'(by omega)).toNat : Int)) % 65536 := ⟨(((a : Int) - ((s[at_]'(by omega)).toNat : Int) + ((s[at_ + size]'(by omega)).toNat : Int)) % 65536).toNat, by omega⟩
  have hA1 : A < 65536 := by omega
  rw [← hA]
  have HA := Lib.hid hA
  clear hA
  have hp : (0 : Int) ≤ (size : Int) * ((s[at_]'(by omega)).toNat : Int) := Int.mul_nonneg (by omega) (by omega)
  have hq : (size : Int) * ((s[at_]'(by omega)).toNat : Int) ≤ 1024 * 255 := Int.mul_le_mul (by omega) (by omega) (by omega) (by omega)
  have q1 : IntKind.i64.wrap ((size : Int) * ((s[at_]'(by omega)).toNat : Int)) = (size : Int) * ((s[at_]'(by omega)).toNat : Int) := IntWalk.i64_in _ (by omega)
  obtain ⟨W, hW⟩ : ∃ W, W = (w.drewN (n1 + n2)).setCell ⟨p, 3, none⟩ (.int .i64 A) := ⟨_, rfl⟩
  have HB1 : Blk W p [.string s, .int .i64 size, .int .i64 at_, .int .i64 A, .int .i64 b] 184 := by rw [hW]; exact (Blk.drewN HB.out _).set 3 _
  have HG : w.grownBy W (some p) := by rw [hW]; exact grown_set (grown_drewN (grown_refl _ _) _) _ _
  rw [← hW]
  clear hW c0 c1 c2 c3 c4 f2 f3 f4
  have c1 := Blk.cell HB1 (i := 1) rfl
  have c2 := Blk.cell HB1 (i := 2) rfl
  have c3 := Blk.cell HB1 (i := 3) rfl
  have c4 := Blk.cell HB1 (i := 4) rfl
  have f2 := Blk.frozen HB1 2
  have f4 := Blk.frozen HB1 4
  have X1 := Lib.hid HB1
  have X2 := Lib.hid HG
  clear HB1 HG
  refine wp_region_still_tail 20 (by kernel_rfl) (by kernel_rfl) ?_
  simp only [List.take_succ_cons, List.take_zero, List.drop_succ_cons, List.drop_zero]
  rw [World.drew_eq]
  repeat still_step
  refine wpStill_nil ?_
  go_wp2
  go_ret
  refine ⟨rfl, (grown_drew (grown_set (grown_set X2.out _ _) _ _)), A, (((b : Int) - (size : Int) * ((s[at_]'(by omega)).toNat : Int) % 65536 + (A : Int)) % 65536).toNat, ?_, ?_, ?_⟩
  · have hz := ((X1.out.set 4 (.int .i64 (((b : Int) - (size : Int) * ((s[at_]'(by omega)).toNat : Int) % 65536 + (A : Int)) % 65536))).set 2 (.int .i64 ((at_ : Int) + 1))).drew
    unfold RollB
    rw [Int.toNat_of_nonneg (by omega)]
    exact hz
  · rw [HA.out]; omega
  · rw [Int.toNat_of_nonneg (by omega), Int.natCast_mul]; omega
/-- the bytes in a window -/
def win (s : ByteArray) (at_ size : Nat) : List UInt8 := (s.data.toList.drop at_).take size
theorem win_len (s : ByteArray) (at_ size : Nat) (h : at_ + size ≤ s.size) : (win s at_ size).length = size := by
  unfold win; simp; omega
theorem win_cons (s : ByteArray) (at_ size : Nat) (h : at_ + (size + 1) ≤ s.size) : win s at_ (size + 1) = s[at_]'(by omega) :: win s (at_ + 1) size := by
  unfold win
  rw [List.drop_eq_getElem_cons (by simp; omega), List.take_succ_cons]; rfl
theorem win_snoc (s : ByteArray) (at_ size : Nat) (h : at_ + size < s.size) : win s at_ (size + 1) = win s at_ size ++ [s[at_ + size]'(by omega)] := by
  unfold win
  rw [List.take_succ_eq_append_getElem (by simp; omega)]
  congr 2
  simp
  rfl
theorem win_next (s : ByteArray) (at_ size : Nat) (h : at_ + size < s.size) (hs : 0 < size) :
    sa (win s (at_ + 1) size) + (s[at_]'(by omega)).toNat = sa (win s at_ size) + (s[at_ + size]'(by omega)).toNat ∧
    sb (win s (at_ + 1) size) + size * (s[at_]'(by omega)).toNat = sb (win s at_ size) + sa (win s (at_ + 1) size) := by
  obtain ⟨m, rfl⟩ : ∃ m, size = m + 1 := ⟨size - 1, by omega⟩
  have e1 := win_cons s at_ m (by omega)
  have e2 := win_snoc s (at_ + 1) m (by omega)
  have e3 : s[at_ + 1 + m]'(by omega) = s[at_ + (m + 1)]'(by omega) := by congr 1; omega
  rw [e3] at e2
  rw [e1, e2, sa_snoc, sb_snoc]
  simp only [sa, sb]
  rw [win_len s (at_ + 1) m (by omega)]
  omega
/-- the window as it should be -/
def RollW (w : World) (p : Nat) (s : ByteArray) (size at_ : Nat) : Prop := RollB w p s size at_ (sa (win s at_ size) % 65536) (sb (win s at_ size) % 65536)
theorem next_ok (w : World) (p : Nat) (s : ByteArray) (size at_ : Nat) (h : RollW w p s size at_) (hs : 0 < size) (hsz : size ≤ 1024) (hgo : at_ + size < s.size) (hz : s.size ≤ 1000000) :
    Calls Tryz.prog 111 #[.pointer (some ⟨p, 0, none⟩)] w fun e w' => e = .returned (.bool true) ∧ w.grownBy w' (some p) ∧ RollW w' p s size (at_ + 1) := by
  refine (next_go w p s size at_ _ _ h hs hsz hgo hz (by omega) (by omega)).mono ?_
  rintro e w' ⟨he, hg, a', b', hb, ha, hbb⟩
  refine ⟨he, hg, ?_⟩
  obtain ⟨h1, h2⟩ := win_next s at_ size hgo hs
  have ea : a' = sa (win s (at_ + 1) size) % 65536 := by omega
  have eb : b' = sb (win s (at_ + 1) size) % 65536 := by omega
  unfold RollW
  rw [← ea, ← eb]
  exact hb
theorem sumw_ok (w : World) (p : Nat) (s : ByteArray) (size at_ : Nat) (h : RollW w p s size at_) :
    Calls Tryz.prog 110 #[.pointer (some ⟨p, 0, none⟩)] w fun e w' => e = .returned (.int .i64 (weak (win s at_ size))) ∧ ∃ n, w' = w.drewN n :=
  sumw_any w p s size at_ _ _ h (by omega) (by omega)
end Go.Proofs.YtgkcnocfijckoaaGreat
namespace Go.Proofs.YtgkcnocfijckoaaGreat
open Go.RowKit
set_option linter.unusedVariables false
set_option linter.unusedSimpArgs false
theorem new_arg (s : ByteArray) (size : Int) (w : World) (h : size < 1 ∨ 1024 < size) :
    Calls Tryz.prog 107 #[.string s, .int .i64 size] w fun e w' => e = .returned (.tuple #[.pointer none, .int .i64 1]) ∧ w = w' := by
  rcases h with h | h
  · go_enter Tryz.func107, Tryz.ntmps107
    go_wp2
    go_ret2
    exact ⟨rfl, rfl⟩
  · go_enter Tryz.func107, Tryz.ntmps107
    go_wp2
    go_ret2
    exact ⟨rfl, rfl⟩
theorem new_short (s : ByteArray) (size : Int) (w : World) (h1 : 1 ≤ size) (h2 : size ≤ 1024) (h3 : (s.size : Int) < size) :
    Calls Tryz.prog 107 #[.string s, .int .i64 size] w fun e w' => e = .returned (.tuple #[.pointer none, .int .i64 3]) ∧ w = w' := by
  go_enter Tryz.func107, Tryz.ntmps107
  go_wp2
  go_ret2
  exact ⟨rfl, rfl⟩
theorem ext_win (s : ByteArray) (at_ size : Nat) : (s.extract at_ (at_ + size)).data.toList = win s at_ size := by
  unfold win
  simp [ByteArray.data_extract, Array.toList_extract, List.extract_eq_take_drop]
theorem new_ok (s : ByteArray) (size : Nat) (w : World) (h1 : 1 ≤ size) (h2 : size ≤ 1024) (h3 : size ≤ s.size) (h4 : s.size ≤ 1000000) :
    Calls Tryz.prog 107 #[.string s, .int .i64 size] w fun e w' => e = .returned (.tuple #[.pointer (some ⟨w.heap.size, 0, none⟩), .int .i64 0]) ∧ (∃ o, w' = w.alloc o) ∧ RollW w' w.heap.size s size 0 := by
  have hk := weak_lt (List.take size s.data.toList)
  go_enter Tryz.func107, Tryz.ntmps107
  go_wp2_with (go_at_call 105; refine (rollSum_any _ _ (by simp; omega)).mono ?_; rintro e w' ⟨rfl, rfl⟩)
  go_ret2
  refine ⟨rfl, ⟨_, rfl⟩, ?_⟩
  have e0 : List.take size s.data.toList = win s 0 size := rfl
  have ea : ((weak (List.take size s.data.toList) : Nat) : Int) % 65536 = ((sa (win s 0 size) % 65536 : Nat) : Int) := by rw [e0]; unfold weak; omega
  have eb : ((weak (List.take size s.data.toList) : Nat) : Int) / 65536 = ((sb (win s 0 size) % 65536 : Nat) : Int) := by rw [e0]; unfold weak; omega
  have hn := Blk.new w [.string s, .int .i64 size, .int .i64 (0 : Nat), .int .i64 (sa (win s 0 size) % 65536 : Nat), .int .i64 (sb (win s 0 size) % 65536 : Nat)] 184
  unfold RollW RollB
  rw [← ea, ← eb] at hn
  rw [← ea, ← eb]
  exact hn
theorem sumw_nil (w : World) : Calls Tryz.prog 110 #[.pointer none] w fun e w' => e = .returned (.int .i64 0) ∧ w = w' := by
  go_enter Tryz.func110, Tryz.ntmps110
  go_wp2
  go_ret
  exact ⟨rfl, rfl⟩
theorem sumw_zero (w : World) (p : Nat) (c3 : w.cell? ⟨p, 3, none⟩ = some (.int .i64 0)) (c4 : w.cell? ⟨p, 4, none⟩ = some (.int .i64 0)) :
    Calls Tryz.prog 110 #[.pointer (some ⟨p, 0, none⟩)] w fun e w' => e = .returned (.int .i64 0) ∧ ∃ n, w' = w.drewN n := by
  go_enter Tryz.func110, Tryz.ntmps110
  go_wp2
  go_quiet (fail)
  go_wp2
  go_ret
  exact ⟨rfl, _, rfl⟩
theorem next_nil (w : World) : Calls Tryz.prog 111 #[.pointer none] w fun e w' => e = .returned (.bool false) ∧ ∃ n, w' = w.drewN n := by
  go_enter Tryz.func111, Tryz.ntmps111
  go_wp2
  go_quiet (fail)
  go_wp2
  go_ret
  exact ⟨rfl, _, rfl⟩
theorem next_zero (w : World) (p : Nat) (c1 : w.cell? ⟨p, 1, none⟩ = some (.int .i64 0)) :
    Calls Tryz.prog 111 #[.pointer (some ⟨p, 0, none⟩)] w fun e w' => e = .returned (.bool false) ∧ ∃ n, w' = w.drewN n := by
  go_enter Tryz.func111, Tryz.ntmps111
  go_wp2
  go_quiet (fail)
  go_wp2
  go_ret
  exact ⟨rfl, _, rfl⟩
theorem skip_nil (w : World) (n : Int) : Calls Tryz.prog 113 #[.pointer none, .int .i64 n] w fun e w' => e = .returned (.bool false) ∧ ∃ n, w' = w.drewN n := by
  go_enter Tryz.func113, Tryz.ntmps113
  go_wp2
  go_quiet (fail)
  go_wp2
  go_ret
  exact ⟨rfl, _, rfl⟩
theorem skip_zero (w : World) (n : Int) (p : Nat) (c1 : w.cell? ⟨p, 1, none⟩ = some (.int .i64 0)) :
    Calls Tryz.prog 113 #[.pointer (some ⟨p, 0, none⟩), .int .i64 n] w fun e w' => e = .returned (.bool false) ∧ ∃ n, w' = w.drewN n := by
  go_enter Tryz.func113, Tryz.ntmps113
  go_wp2
  go_quiet (fail)
  go_wp2
  go_ret
  exact ⟨rfl, _, rfl⟩
end Go.Proofs.YtgkcnocfijckoaaGreat
namespace Go.Proofs.YtgkcnocfijckoaaGreat
open Go.RowKit
set_option linter.unusedVariables false
set_option linter.unusedSimpArgs false
theorem rollSum_win (s : ByteArray) (A z : Nat) (w : World) (hz : z ≤ 1024) :
    Calls Tryz.prog 105 #[.string (s.extract A (A + z))] w fun e w' => e = .returned (.int .i64 (weak (win s A z))) ∧ w = w' := by
  rw [← ext_win]
  exact rollSum_any _ _ (by simp; omega)
theorem skip_no (w : World) (p : Nat) (s : ByteArray) (size at_ : Nat) (n : Int) (h : RollW w p s size at_) (hs : 0 < size) (hz : s.size ≤ 1000000) (hk : at_ + size ≤ s.size) (hn : n < 0 ∨ (s.size : Int) - size - at_ < n) :
    Calls Tryz.prog 113 #[.pointer (some ⟨p, 0, none⟩), .int .i64 n] w fun e w' => e = .returned (.bool false) ∧ ∃ n, w' = w.drewN n := by
  have c0 := Blk.cell h (i := 0) rfl
  have c1 := Blk.cell h (i := 1) rfl
  have c2 := Blk.cell h (i := 2) rfl
  have e1 : ((size : Int) == 0) = false := by simp; omega
  have w1 : IntKind.i64.wrap ((s.size : Int) - (size : Int)) = (s.size : Int) - (size : Int) := IntWalk.i64_in _ (by omega)
  have w2 : IntKind.i64.wrap ((s.size : Int) - (size : Int) - (at_ : Int)) = (s.size : Int) - (size : Int) - (at_ : Int) := IntWalk.i64_in _ (by omega)
  clear h
  by_cases hneg : n < 0
  · have d1 : decide (n < 0) = true := by simp; omega
    clear hn
    go_enter Tryz.func113, Tryz.ntmps113
    go_wp2
    go_quiet (fail)
    go_wp2
    go_ret
    exact ⟨rfl, _, rfl⟩
  · have d1 : decide (n < 0) = false := by simp; omega
    have d2 : decide ((s.size : Int) - (size : Int) - (at_ : Int) < n) = true := by simp; omega
    have d3 : (s.size : Int) - (size : Int) - (at_ : Int) < n := by omega
    clear hn
    go_enter Tryz.func113, Tryz.ntmps113
    go_wp2
    go_quiet (fail)
    go_wp2
    go_ret
    exact ⟨rfl, _, rfl⟩
theorem skip_ok (w : World) (p : Nat) (s : ByteArray) (size at_ n : Nat) (h : RollW w p s size at_) (hs : 0 < size) (hsz : size ≤ 1024) (hz : s.size ≤ 1000000) (hk : at_ + size + n ≤ s.size) :
    Calls Tryz.prog 113 #[.pointer (some ⟨p, 0, none⟩), .int .i64 n] w fun e w' => e = .returned (.bool true) ∧ w.grownBy w' (some p) ∧ RollW w' p s size (at_ + n) := by
  have c0 := Blk.cell h (i := 0) rfl
  have c1 := Blk.cell h (i := 1) rfl
  have c2 := Blk.cell h (i := 2) rfl
  have e1 : ((size : Int) == 0) = false := by simp; omega
  have w1 : IntKind.i64.wrap ((s.size : Int) - (size : Int)) = (s.size : Int) - (size : Int) := IntWalk.i64_in _ (by omega)
  have w2 : IntKind.i64.wrap ((s.size : Int) - (size : Int) - (at_ : Int)) = (s.size : Int) - (size : Int) - (at_ : Int) := IntWalk.i64_in _ (by omega)
  have d1 : decide ((n : Int) < 0) = false := by simp
  have d2 : decide ((s.size : Int) - (size : Int) - (at_ : Int) < n) = false := by simp; omega
  by_cases hlt : n < size
  · have HB := Lib.hid h
    clear h
    go_enter Tryz.func113, Tryz.ntmps113
    go_wp2
    go_quiet (fail)
    go_wp2
    have hR0 : RollW (w.drewN nq) p s size at_ := HB.out
    have hG0 : w.grownBy (w.drewN nq) (some p) := grown_drewN (grown_refl _ _) _
    clear c0 c1 c2
    go_loopw [45] (fun i wr => ∃ k : Nat, k ≤ n ∧ i = .int .i64 k ∧ RollW wr p s size (at_ + k) ∧ w.grownBy wr (some p)) (fun i _ => n - (intOf i).toNat)
    case atStart => exact ⟨0, by omega, rfl, hR0, hG0⟩
    case round =>
      clear hR0 hG0
      obtain ⟨k, hkn, rfl, hR, hG⟩ := hrel
      by_cases hl : k < n
      · go_wp2_with fail
        refine (next_ok _ _ _ _ _ hR (by omega) (by omega) (by omega) (by omega)).mono ?_
        rintro e V5 ⟨rfl, hgr, hR5⟩
        have hG5 := grown_trans hG hgr
        clear hR hG hgr
        go_wp2
        go_roundw
        case rel => exact ⟨k + 1, by omega, by go_num, hR5, hG5⟩
        case measure => simp [intOf]; omega
      · go_wp2
        go_ret
        exact ⟨rfl, hG, by rw [show at_ + n = at_ + k by omega]; exact hR⟩
  · have f2 := Blk.frozen h 2
    have HB := Lib.hid h
    clear h
    go_enter Tryz.func113, Tryz.ntmps113
    go_wp2
    go_quiet (fail)
    generalize nq = n1
    go_wp2
    obtain ⟨A, hA⟩ : ∃ A : Nat, (A : Int) = (at_ : Int) + (n : Int) := ⟨at_ + n, by omega⟩
    have hA1 : A + size ≤ s.size := by omega
    rw [← hA]
    have HA := Lib.hid hA
    clear hA
    obtain ⟨W, hW⟩ : ∃ W, W = (w.drewN n1).setCell ⟨p, 2, none⟩ (.int .i64 A) := ⟨_, rfl⟩
    have HB1 : Blk W p [.string s, .int .i64 size, .int .i64 A, .int .i64 (sa (win s at_ size) % 65536 : Nat), .int .i64 (sb (win s at_ size) % 65536 : Nat)] 184 := by rw [hW]; exact (Blk.drewN HB.out _).set 2 _
    have HG : w.grownBy W (some p) := by rw [hW]; exact grown_set (grown_drewN (grown_refl _ _) _) _ _
    rw [← hW]
    clear hW c0 c1 c2 f2
    have c0 := Blk.cell HB1 (i := 0) rfl
    have c1 := Blk.cell HB1 (i := 1) rfl
    have c2 := Blk.cell HB1 (i := 2) rfl
    have f3 := Blk.frozen HB1 3
    have f4 := Blk.frozen HB1 4
    have c3 := Blk.cell HB1 (i := 3) rfl
    have c4 := Blk.cell HB1 (i := 4) rfl
    have X1 := Lib.hid HB1
    have X2 := Lib.hid HG
    clear HB1 HG
    have v1 : IntKind.i64.wrap ((A : Int) + (size : Int)) = (A : Int) + (size : Int) := IntWalk.i64_in _ (by omega)
    have v2 : (A : Int) + (size : Int) ≤ (s.size : Int) := by omega
    have v3 : ((A : Int) + (size : Int)).toNat = A + size := by omega
    have v4 : (0 : Int) ≤ (A : Int) + (size : Int) := by omega
    have v5 : (A : Int) ≤ (A : Int) + (size : Int) := by omega
    have hk := weak_lt (win s A size)
    go_quiet ((go_at_call 105; exact quiet_eq (rollSum_win _ _ _ _ (by omega))))
    go_wp2
    go_ret
    refine ⟨rfl, grown_set (grown_set (grown_drewN X2.out _) _ _) _ _, ?_⟩
    have hz9 := ((Blk.drewN X1.out nq).set 3 (.int .i64 ((weak (win s A size) : Int) % 65536))).set 4 (.int .i64 ((weak (win s A size) : Int) / 65536))
    have hA2 : at_ + n = A := by have := HA.out; omega
    have ea : ((weak (win s A size) : Nat) : Int) % 65536 = ((sa (win s A size) % 65536 : Nat) : Int) := by unfold weak; omega
    have eb : ((weak (win s A size) : Nat) : Int) / 65536 = ((sb (win s A size) % 65536 : Nat) : Int) := by unfold weak; omega
    unfold RollW RollB
    rw [hA2, ← ea, ← eb]
    exact hz9
end Go.Proofs.YtgkcnocfijckoaaGreat
