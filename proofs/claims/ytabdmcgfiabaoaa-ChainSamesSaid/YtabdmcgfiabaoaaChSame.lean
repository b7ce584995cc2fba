/- chain's Same. Conditions: as named in each theorem. -/
import Derived.Test.YtabdmcgfiabaoaaChUse
namespace Go.Proofs.Ytabdmcgfiabaoaa
open Go.RowKit Sg
set_option linter.unusedVariables false
set_option linter.unusedSimpArgs false
def SmOk (mk : ByteArray) (z : Int) : Prop := mk.size = 32 ∧ 0 ≤ z ∧ z ≤ 524288
theorem rightP_same {mk : ByteArray} {z : Int} : RightP ⟨mk, mk, z, sameL z.toNat⟩ ↔ SmOk mk z := by
  constructor
  · rintro ⟨h1, _, h2, h3, _⟩; exact ⟨h1, h2, h3⟩
  · rintro ⟨h1, h2, h3⟩
    obtain ⟨n, rfl⟩ : ∃ n : Nat, z = n := ⟨z.toNat, by omega⟩
    rw [Int.toNat_natCast]
    have h4 := sh_right (sh_same n (by omega))
    have h5 := bytes_len_right h4
    rw [bytes_same] at h5
    have h6 : (srcL 0 n).length = n := by simp [srcL]
    exact ⟨h1, h1, h2, h3, h4, by show ((sum2 (sameL n) : Nat) : Int) = (n : Int); omega⟩
def SamP (w : World) (mk : ByteArray) (z : Int) (e : Ending) (w' : World) : Prop :=
  Below w.heap.size w w' ∧ ((SmOk mk z ∧ ∃ a k, e = .returned (.tuple #[.agg #[.string mk, .string mk, .int .i64 z, .slice a (sameL z.toNat).length k], .int .i64 0]) ∧ Own w' w.heap.size (.slice a (sameL z.toNat).length k) (sameL z.toNat)) ∨
    (¬ SmOk mk z ∧ e = .returned (.tuple #[.agg #[.string ByteArray.empty, .string ByteArray.empty, .int .i64 0, .slice none 0 0], .int .i64 1])))
set_option maxRecDepth 100000 in
set_option maxHeartbeats 1000000 in
theorem sameC_any (w : World) (mk : ByteArray) (z : Int) (wz : (Lit.int .i64 z).wf = true) (hmk : mk.size ≤ maxLen) :
    Calls Try.prog 26 #[.string mk, .int .i64 z] w (SamP w mk z) := by
  have hdz := dlZ_run
  have hgz := stepZ_run
  obtain ⟨V1, hV1⟩ : ∃ V, V = w.alloc (Obj.cells #[.string ByteArray.empty, .string ByteArray.empty, .int .i64 0, .slice none 0 0] 25) := ⟨_, rfl⟩
  obtain ⟨pz, hpz⟩ : ∃ q, q = w.heap.size := ⟨_, rfl⟩
  have hZ1 : Blk V1 pz [.string ByteArray.empty, .string ByteArray.empty, .int .i64 0, .slice none 0 0] 25 := by rw [hV1, hpz]; exact Blk.new _ _ _
  have hb1 : Below w.heap.size w V1 := by rw [hV1]; exact below_alloc _ _
  obtain ⟨V2, hV2⟩ : ∃ V, V = V1.alloc (Obj.cells #[.string mk, .string mk, .int .i64 z, .slice none 0 0] 25) := ⟨_, rfl⟩
  obtain ⟨pd, hpd⟩ : ∃ q, q = V1.heap.size := ⟨_, rfl⟩
  have hpd1 : pd = w.heap.size + 1 := by rw [hpd, hV1]; simp
  have hD2 : Blk V2 pd [.string mk, .string mk, .int .i64 z, .slice none 0 0] 25 := by rw [hV2, hpd]; exact Blk.new _ _ _
  have hb2 : Below w.heap.size w V2 := bl_nx hb1 (by rw [hV2]; exact below_alloc _ _)
  have hZ2 : Blk V2 pz [.string ByteArray.empty, .string ByteArray.empty, .int .i64 0, .slice none 0 0] 25 := by rw [hV2]; exact hZ1.alloc _
  go_enter Try.func26, Try.ntmps26
  go_upto_region 2 with fail
  rw [← hV1, ← hV2, ← hpd1, ← hpz]
  have HV1 := Lib.hid hV1
  have HV2 := Lib.hid hV2
  have HPZ := Lib.hid (And.intro hpz hpd1)
  have hne : pz ≠ pd := by omega
  have hPD : w.heap.size ≤ pd := by omega
  have hPZ : w.heap.size ≤ pz := by omega
  have q0 := hD2.cell (i := 0) rfl
  have q1 := hD2.cell (i := 1) rfl
  have q2 := hD2.cell (i := 2) rfl
  have q3 := hD2.cell (i := 3) rfl
  have f3 := hD2.frozen 3
  have hDlt := hD2.lt
  clear hV1 hV2 hpz hpd hpd1 hZ1 hb1
  have hwz : -9223372036854775808 ≤ z ∧ z ≤ 9223372036854775807 := by
    simp only [Lit.wf, Bool.and_eq_true, decide_eq_true_eq] at wz
    exact wz
  have hok : ∀ x ∈ sameL z.toNat, x.ok := by
    intro x hx
    unfold sameL at hx
    split at hx
    · cases hx
    · obtain rfl := List.mem_singleton.1 hx
      exact ⟨wfI _ (by simp only; omega) (by simp only; omega), wfI _ (by simp only; omega) (by simp only; omega), by show (0 : Nat) ≤ maxLen; exact Nat.zero_le _⟩
  have HOK := Lib.hid hok
  clear hok
  by_cases hz : 0 < z
  case' pos =>
    go_upto_region 4 with fail
    obtain ⟨V, hV⟩ : ∃ V, V = (V2.setCell ⟨pd, 3, none⟩ (.slice (some ⟨V2.heap.size, 0, none⟩) 1 1)).alloc (Obj.cells #[.int .i64 0, .int .i64 z, .string ByteArray.empty] 55) := ⟨_, rfl⟩
    rw [← hV]
    obtain ⟨a, ha⟩ : ∃ a, a = some (⟨V2.heap.size, 0, none⟩ : Addr) := ⟨_, rfl⟩
    obtain ⟨n, hn⟩ : ∃ n : Nat, n = 1 := ⟨_, rfl⟩
    obtain ⟨k, hk⟩ : ∃ k : Nat, k = 1 := ⟨_, rfl⟩
    have hL : sameL z.toNat = [⟨0, z, ByteArray.empty⟩] := by
      unfold sameL; rw [if_neg (by omega), Int.toNat_of_nonneg (by omega)]
    have hDV : Blk V pd [.string mk, .string mk, .int .i64 z, .slice a n k] 25 := by rw [hV, ha, hn, hk]; exact (hD2.set 3 _).alloc _
    have hZV : Blk V pz [.string ByteArray.empty, .string ByteArray.empty, .int .i64 0, .slice none 0 0] 25 := by rw [hV]; exact (hZ2.setOther (by simp; exact hne) _).alloc _
    have hBV : Below w.heap.size w V := by rw [hV]; exact (hb2.setCell hPD _).alloc (by simpa using hb2.size) _
    have hOV : Own V (pd + 1) (.slice a n k) (sameL z.toNat) := by
      have e : (V2.setCell ⟨pd, 3, none⟩ (.slice (some ⟨V2.heap.size, 0, none⟩) 1 1)).heap.size = V2.heap.size := by simp
      have := World.ownsRow_lit (base := pd + 1) (e := 55) (size := 3) (V2.setCell ⟨pd, 3, none⟩ (.slice (some ⟨V2.heap.size, 0, none⟩) 1 1)) #[.int .i64 0, .int .i64 z, .string ByteArray.empty] 1 (by rw [e]; exact hDlt) (by decide) rfl
      rw [e] at this
      rw [hL, hV, ha, hn, hk]
      exact this
    have hnL : (sameL z.toNat).length = n := by rw [hL, hn]; rfl
    clear hV ha hn hk hL f3 q0 q1 q2 q3
  case' neg =>
    go_upto_region 4 with fail
    obtain ⟨V, hV⟩ : ∃ V, V = V2 := ⟨_, rfl⟩
    rw [← hV]
    obtain ⟨a, ha⟩ : ∃ a : Option Addr, a = none := ⟨_, rfl⟩
    obtain ⟨n, hn⟩ : ∃ n : Nat, n = 0 := ⟨_, rfl⟩
    obtain ⟨k, hk⟩ : ∃ k : Nat, k = 0 := ⟨_, rfl⟩
    have hL : sameL z.toNat = [] := by
      unfold sameL; rw [if_pos (by omega)]
    have hDV : Blk V pd [.string mk, .string mk, .int .i64 z, .slice a n k] 25 := by rw [hV, ha, hn, hk]; exact hD2
    have hZV : Blk V pz [.string ByteArray.empty, .string ByteArray.empty, .int .i64 0, .slice none 0 0] 25 := by rw [hV]; exact hZ2
    have hBV : Below w.heap.size w V := by rw [hV]; exact hb2
    have hOV : Own V (pd + 1) (.slice a n k) (sameL z.toNat) := by
      rw [hL, ha, hn, hk]; exact Own.nil _ _
    have hnL : (sameL z.toNat).length = n := by rw [hL, hn]; rfl
    clear hV ha hn hk hL f3 q0 q1 q2 q3
  all_goals
    have HRI := Lib.hid (deltaRight_any V mk mk z a n k (sameL z.toNat) wz hmk hmk (Own.rs hnL hOV) HOK.out)
    have q0 := hDV.cell (i := 0) rfl
    have q1 := hDV.cell (i := 1) rfl
    have q2 := hDV.cell (i := 2) rfl
    have q3 := hDV.cell (i := 3) rfl
    have HO := Lib.hid (And.intro hOV hnL)
    have HD := Lib.hid hDV
    have HZ := Lib.hid hZV
    have HB := Lib.hid hBV
    clear hOV hnL hDV hZV hBV hD2 hb2 hZ2 hDlt
    go_wp2_with fail
    refine HRI.out.mono ?_
    rintro e w3 ⟨⟨r, rfl, hr⟩, hb3⟩
    have hD3 := HD.out.below hb3 HD.out.lt
    have hZ3 := HZ.out.below hb3 HZ.out.lt
    have hB3 := bl_nx HB.out hb3
    have hO3 := HO.out.1.below hb3
    have hr2 := hr.trans rightP_same
    clear hr q0 q1 q2 q3 HRI hb3
    have z0 := hZ3.cell (i := 0) rfl
    have z1 := hZ3.cell (i := 1) rfl
    have z2 := hZ3.cell (i := 2) rfl
    have z3 := hZ3.cell (i := 3) rfl
    have f0 := hZ3.frozen 0
    have f1 := hZ3.frozen 1
    have f2 := hZ3.frozen 2
    have f3 := hZ3.frozen 3
    have q0 := hD3.cell (i := 0) rfl
    have q1 := hD3.cell (i := 1) rfl
    have q2 := hD3.cell (i := 2) rfl
    have q3 := hD3.cell (i := 3) rfl
    have HZ3 := Lib.hid (And.intro hZ3 (And.intro hB3 hO3))
    clear hZ3 hB3 hO3 hD3
    cases r with
    | false =>
      have HN : Hid (¬ SmOk mk z) := Lib.hid (fun h => by have := hr2.2 h; cases this)
      clear hr2
      go_wp2
      refine bodyPost_ret (results_cell_tmp_row rfl _ _ pz 25 _ (0, 0) _ rfl ((((HZ3.out.1.set 0 _).set 1 _).set 2 _).set 3 _) Try.underlying25 rfl (by kernel_rfl)) rfl ?_
      exact ⟨(((HZ3.out.2.1.setCell hPZ _).setCell hPZ _).setCell hPZ _).setCell hPZ _, .inr ⟨HN.out, rfl⟩⟩
    | true =>
      have HY : Hid (SmOk mk z) := Lib.hid (hr2.1 rfl)
      clear hr2
      go_wp2
      refine bodyPost_ret (results_cell_tmp_row rfl _ _ pz 25 _ (0, 0) _ rfl ((((HZ3.out.1.set 0 _).set 1 _).set 2 _).set 3 _) Try.underlying25 rfl (by kernel_rfl)) rfl ?_
      have hpl : pz < pd + 1 := by have := HPZ.out; omega
      have hnn := HO.out.2
      refine ⟨(((HZ3.out.2.1.setCell hPZ _).setCell hPZ _).setCell hPZ _).setCell hPZ _, .inl ⟨HY.out, a, k, ?_, ?_⟩⟩
      · rw [hnn]; rfl
      · rw [hnn]; exact owns_mono ((((HZ3.out.2.2.setFar hpl 0 _).setFar hpl 1 _).setFar hpl 2 _).setFar hpl 3 _) (by omega)
/-- what Same gave, in variables -/
def SamV (w wx : World) (p e : Value) (mk : ByteArray) (z : Int) : Prop := (SmOk mk z ∧ VarD w wx p ⟨mk, mk, z, sameL z.toNat⟩ ∧ e = .int .i64 0) ∨ (¬ SmOk mk z ∧ e = .int .i64 1)
theorem RowS.nextB {w wx wy : World} {v : Value} {l : List ByteArray} (h : RowS wx w.heap.size v l) (hb : Below wx.heap.size wx wy) : RowS wy w.heap.size v l := World.ownsRow.kept h (below_grown hb none) (by cases v.ownBlock <;> simp)
def OfV (w wx : World) (p e : Value) (b : ByteArray) (L : List St) : Prop := ∃ M0 M1 : ByteArray, M0.size = 32 ∧ M1.size = 32 ∧ VarD w wx p ⟨M0, M1, (b.size : Int), L⟩ ∧ e = .int .i64 0 ∧ ∃ q, p = .pointer (some ⟨q, 0, none⟩) ∧ w.heap.size ≤ q
theorem own_set_delta {w : World} {base q : Nat} {v : Value} {l : List St} {cs : List Value} (h : Own w base v l) (hq : Blk w q cs 25) (i : Nat) (u : Value) : Own (w.setCell ⟨q, i, none⟩ u) base v l := by
  refine World.ownsRow.kept h (grown_set (grown_refl w (some q)) i _) ?_
  rcases h.2 with ⟨h1, _⟩ | ⟨g, cap, cur, h1, _, hh, _⟩
  · left; rw [h1]; rfl
  · right
    rw [h1]
    intro e
    simp only [Value.ownBlock, Option.some.injEq] at e
    subst e
    unfold Blk at hq
    rw [hh] at hq
    injection hq with hq
    injection hq with _ h2
    exact absurd h2 (by decide)
end Go.Proofs.Ytabdmcgfiabaoaa
