/- strings.Join at this program: the shelf's contract, by application; the store's Bytes. Conditions: as named in each theorem. -/
import Derived.Shelf.Strings.OnBuilder
import Derived.Test.YtgkcnocfijckoaaGreatQE
import Derived.Test.YtgkcnocfijckoaaGreatStReplay
namespace Go.Proofs.YtgkcnocfijckoaaGreat
open Go.RowKit Sg Go.Shelf
set_option linter.unusedVariables false
set_option linter.unusedSimpArgs false
def shJoin_ren : Go.Shelf.Ren := ⟨fun | 156 => 67 | 165 => 91 | 166 => 55 | 169 => 56 | 240 => 84 | 241 => 116 | 276 => 115 | 277 => 131 | n => n, fun | 0 => 0 | 3 => 3 | 4 => 4 | 9 => 9 | 20 => 20 | 31 => 75 | 37 => 98 | 70 => 97 | 72 => 100 | 75 => 102 | 76 => 103 | 127 => 141 | 164 => 167 | 80 => 108 | 5 => 5 | n => n, fun | n => n⟩
theorem shJoin : Go.Proofs.Lays.n156 Tryz.prog shJoin_ren := {
  mixed := by kernel_rfl
  f156 := Tryz.func67.trans (congrArg some (by kernel_rfl))
  f165 := Tryz.func91.trans (congrArg some (by kernel_rfl))
  f166 := Tryz.func55.trans (congrArg some (by kernel_rfl))
  f169 := Tryz.func56.trans (congrArg some (by kernel_rfl))
  f240 := Tryz.func84.trans (congrArg some (by kernel_rfl))
  f241 := Tryz.func116.trans (congrArg some (by kernel_rfl))
  f276 := Tryz.func115.trans (congrArg some (by kernel_rfl))
  f277 := Tryz.func131.trans (congrArg some (by kernel_rfl))
  t0 := Tryz.underlying0
  a0 := Tryz.isAgg0
  z0 := Tryz.sizeOf0
  v0 := Tryz.zeroValue0
  t3 := Tryz.underlying3
  a3 := Tryz.isAgg3
  z3 := Tryz.sizeOf3
  v3 := Tryz.zeroValue3
  t4 := Tryz.underlying4
  a4 := Tryz.isAgg4
  z4 := Tryz.sizeOf4
  v4 := Tryz.zeroValue4
  t9 := Tryz.underlying9
  a9 := Tryz.isAgg9
  z9 := Tryz.sizeOf9
  v9 := Tryz.zeroValue9
  t20 := Tryz.underlying20
  a20 := Tryz.isAgg20
  z20 := Tryz.sizeOf20
  v20 := Tryz.zeroValue20
  t31 := Tryz.underlying75
  a31 := Tryz.isAgg75
  z31 := Tryz.sizeOf75
  v31 := Tryz.zeroValue75
  t37 := Tryz.underlying98
  a37 := Tryz.isAgg98
  z37 := Tryz.sizeOf98
  v37 := Tryz.zeroValue98
  t70 := Tryz.underlying97
  a70 := Tryz.isAgg97
  z70 := Tryz.sizeOf97
  v70 := Tryz.zeroValue97
  t72 := Tryz.underlying100
  a72 := Tryz.isAgg100
  z72 := Tryz.sizeOf100
  v72 := Tryz.zeroValue100
  t75 := Tryz.underlying102
  a75 := Tryz.isAgg102
  z75 := Tryz.sizeOf102
  v75 := Tryz.zeroValue102
  t76 := Tryz.underlying103
  a76 := Tryz.isAgg103
  z76 := Tryz.sizeOf103
  v76 := Tryz.zeroValue103
  t127 := Tryz.underlying141
  a127 := Tryz.isAgg141
  z127 := Tryz.sizeOf141
  v127 := Tryz.zeroValue141
  t164 := Tryz.underlying167
  a164 := Tryz.isAgg167
  z164 := Tryz.sizeOf167
  v164 := Tryz.zeroValue167 }
theorem shJoinX : Builder.Extra Tryz.prog shJoin_ren := {
  sizeBuilder := by kernel_rfl
  liesBuilder := by kernel_rfl
  t5 := Tryz.underlying5
  a5 := Tryz.isAgg5
  z5 := Tryz.sizeOf5
  v5 := Tryz.zeroValue5
  infoByte := by kernel_rfl
  cellsByte := by kernel_rfl
  sizeByte := by kernel_rfl
  neB5 := by decide }
def sumR (l : List ByteArray) : Nat := (l.map ByteArray.size).sum
theorem sumR_snoc (l : List ByteArray) (x : ByteArray) : sumR (l ++ [x]) = sumR l + x.size := by unfold sumR; simp
theorem sumR_le {l : List ByteArray} {n : Nat} (h : ∀ x ∈ l, x.size ≤ n) : sumR l ≤ n * l.length := by
  induction l with
  | nil => simp [sumR]
  | cons x l ih =>
    have h1 := ih (fun y hy => h y (List.mem_cons_of_mem _ hy))
    have h2 := h x (List.mem_cons_self ..)
    have e : sumR (x :: l) = x.size + sumR l := by unfold sumR; simp
    rw [e, List.length_cons, Nat.mul_add, Nat.mul_one]; omega
theorem join_sum (l : List ByteArray) : (Lib.join (l.map (·.data.toList)) ByteArray.empty.data.toList).length = sumR l := by
  cases l with
  | nil => rfl
  | cons x l =>
    rw [List.map_cons, Lib.join_length]
    have e0 : ByteArray.empty.data.toList.length = 0 := rfl
    rw [e0, Nat.zero_mul, Nat.zero_add]
    unfold Lib.lens sumR
    rw [List.map_cons, List.map_cons, List.map_map, List.sum_cons, List.sum_cons]
    have e1 : List.map ((fun x => x.length) ∘ fun x : ByteArray => x.data.toList) l = List.map ByteArray.size l := List.map_congr_left (fun y _ => by show y.data.toList.length = y.size; rw [Array.length_toList]; rfl)
    have e2 : x.data.toList.length = x.size := by rw [Array.length_toList]; rfl
    rw [e1, e2]
theorem join_any (w : World) (base : Nat) (a : Option Addr) (n c : Nat) (l : List ByteArray) (hO : RowS w base (.slice a n c) l) (hn : l.length = n) (hN : n ≤ 100000) (hs : sumR l ≤ 140737488355328) :
    Calls Tryz.prog 67 #[.slice a n c, .string ByteArray.empty] w fun e w' => (∃ s : ByteArray, e = .returned (.string s) ∧ s.size = sumR l) ∧ Below w.heap.size w w' := by
  by_cases h0 : n = 0
  · subst h0
    have hl : l = [] := List.eq_nil_of_length_eq_zero hn
    subst hl
    refine (Any.strings_Join_none shJoin shJoinX a c ByteArray.empty w).mono ?_
    rintro e w' ⟨rfl, rfl⟩
    exact ⟨⟨_, rfl, rfl⟩, Below.refl _ _⟩
  · have hR := RowS.rs hO hn
    obtain ⟨h1, h2, h3, h4⟩ := hR
    obtain ⟨b, off, rfl, hb, hc⟩ := h4 (by omega)
    subst hn
    refine (Any.strings_Join shJoin shJoinX b off c l ByteArray.empty w (fun j x hj => ?_) hb (by omega) h1 (by rw [join_sum]; exact hs)).mono ?_
    · obtain ⟨hk, hx⟩ := List.getElem?_eq_some_iff.1 hj
      have h5 := hc j hk 0 (.string x) (by rw [hx]; rfl)
      simpa using h5
    · rintro e w' ⟨rfl, hb2⟩
      refine ⟨⟨_, rfl, ?_⟩, hb2⟩
      show (Lib.join (l.map (·.data.toList)) ByteArray.empty.data.toList).toArray.size = sumR l
      rw [List.size_toArray, join_sum]
theorem recs_size {S : Bk} {l : List Gn} {im : Int → ByteArray} (h : Inv S l im) : ∀ x ∈ recsL l, x.size ≤ 600000 := by
  intro x hx
  unfold recsL at hx
  obtain ⟨g, hg, rfl⟩ := List.mem_map.1 hx
  obtain ⟨k, hk⟩ := List.getElem?_of_mem hg
  exact (replay_do h hk).2
set_option maxHeartbeats 1000000 in
theorem stBytes_any (w : World) (ps p m : Nat) (v : Value) (S : Bk) (l : List Gn) (im : Int → ByteArray) (h : SW w ps p m v S l im) :
    Calls Tryz.prog 36 #[.pointer (some ⟨ps, 0, none⟩)] w fun e w' => e = .returned (.int .i64 (sumR (recsL l) : Nat)) ∧ Below w.heap.size w w' := by
  have HNO := Lib.hid (none_any w ps p (ps + 1) v l h.st)
  have HRE := Lib.hid (stRecords_any w ps p (ps + 1) v S l im h.st h.inv)
  have hsz : sumR (recsL l) ≤ 2457600000 := by
    have h1 := sumR_le (recs_size h.inv)
    have h2 : (recsL l).length ≤ 4096 := by unfold recsL; rw [List.length_map]; exact h.inv.len
    omega
  have hln : (recsL l).length ≤ 4096 := by unfold recsL; rw [List.length_map]; exact h.inv.len
  obtain ⟨L, hL⟩ : ∃ L, L = recsL l := ⟨_, rfl⟩
  rw [← hL] at HRE hsz hln ⊢
  clear h hL
  go_enter Tryz.func36, Tryz.ntmps36
  go_wp2_with fail
  refine HNO.out.mono ?_
  rintro e w' ⟨rfl, rfl⟩
  go_wp2_with fail
  refine HRE.out.mono ?_
  rintro e w2 ⟨v2, rfl, hO2, hb2⟩
  obtain ⟨a2, k2, rfl⟩ := owns_slice hO2
  have HJ := Lib.hid (join_any w2 _ a2 _ k2 L hO2 rfl (by omega) (by omega))
  have HB2 := Lib.hid hb2
  clear hO2 hb2 HRE
  go_wp2_with fail
  refine HJ.out.mono ?_
  rintro e w3 ⟨⟨s, rfl, hs⟩, hb3⟩
  have HB3 := Lib.hid (bl_nx HB2.out hb3)
  have HS := Lib.hid hs
  clear hb3 hs
  go_wp2
  go_ret
  exact ⟨by rw [← HS.out]; rfl, HB3.out⟩
end Go.Proofs.YtgkcnocfijckoaaGreat
