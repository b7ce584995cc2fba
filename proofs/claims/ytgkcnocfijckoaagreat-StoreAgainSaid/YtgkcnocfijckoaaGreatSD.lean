/- The store's Rebase: the records that make whole what hangs on what goes. Conditions: as named in each theorem. -/
import Derived.Test.YtgkcnocfijckoaaGreatSC
import Derived.Deep.RegionHeld3
import Derived.BigQuiet
namespace Go.Proofs.YtgkcnocfijckoaaGreat
open Go.RowKit Sg
set_option linter.unusedVariables false
set_option linter.unusedSimpArgs false
theorem Kept.grownNew {T : Nat → Prop} {w w' w6 : World} (h : Kept T w w') {row : Option Nat} (hg : w'.grownBy w6 row) (hr : ∀ j, row = some j → w.heap.size ≤ j) : Kept T w w6 :=
  h.trans (Kept.of_grown hg) (fun i hi e => absurd (hr i e) (by omega))
def rebP (f : Int) (g : Gn) : Bool := decide (f ≤ g.gen) && decide (g.basis < f)
def rebR (S : Bk) (im : Int → ByteArray) (f : Int) (l : List Gn) : List ByteArray := (l.filter (rebP f)).map (fun g => recW g.gen.toNat (mkI S (im g.gen)) (im g.gen))
theorem rebR_no {S : Bk} {im : Int → ByteArray} {f : Int} {l : List Gn} {k : Nat} {g : Gn} (hg : l[k]? = some g) (h : rebP f g = false) : rebR S im f (l.take (k + 1)) = rebR S im f (l.take k) := by
  unfold rebR
  rw [List.take_add_one, hg, List.filter_append]
  simp [h]
theorem rebR_yes {S : Bk} {im : Int → ByteArray} {f : Int} {l : List Gn} {k : Nat} {g : Gn} (hg : l[k]? = some g) (h : rebP f g = true) : rebR S im f (l.take (k + 1)) = rebR S im f (l.take k) ++ [recW g.gen.toNat (mkI S (im g.gen)) (im g.gen)] := by
  unfold rebR
  rw [List.take_add_one, hg, List.filter_append]
  simp [h]
theorem rebR_len (S : Bk) (im : Int → ByteArray) (f : Int) (l : List Gn) : (rebR S im f l).length ≤ l.length := by
  unfold rebR; rw [List.length_map]; exact List.length_filter_le _ _
set_option maxRecDepth 100000 in
set_option maxHeartbeats 4000000 in
theorem stRebase_any (w : World) (ps p m base : Nat) (v : Value) (S : Bk) (l : List Gn) (im : Int → ByteArray) (h : StB w ps p base v l) (hI : BookI w p m S) (hinv : Inv S l im) (hS : S.length ≤ 90000000) (hm : m < base) (hbw : base ≤ w.heap.size) (hps : ps ≠ m) (f : Int) (wf : (Lit.int .i64 f).wf = true) :
    Calls Tryz.prog 34 #[.pointer (some ⟨ps, 0, none⟩), .int .i64 f] w fun e w' => ∃ v', e = .returned (.tuple #[v', .int .i64 0]) ∧ RowS w' w.heap.size v' (rebR S im f l) ∧ BookI w' p m S ∧ Kept (fun k => some m = some k) w w' := by
  obtain ⟨i1, hj, hy0, hy1, hy2⟩ := info_parts infoStrS
  have hgz := gnZ_run
  have hl := hinv.len
  have hpw : p < w.heap.size := hI.2.2.2.2.1.1
  have hmw : m < w.heap.size := hI.2.2.2.2.1.2
  have hll := hl
  have HNO := Lib.hid (none_any w ps p base v l h)
  have HST := Lib.hid h
  have HI := Lib.hid hI
  have HINV := Lib.hid hinv
  obtain ⟨ao, cp, rfl⟩ := owns_slice h.2
  have s1 := h.1.cell (i := 1) rfl
  obtain ⟨N, hN⟩ : ∃ N, N = l.length := ⟨_, rfl⟩
  rw [← hN] at s1 hl
  have HN := Lib.hid hN
  obtain ⟨RR, hRR⟩ : ∃ RR : List Gn → List ByteArray, RR = rebR S im f := ⟨_, rfl⟩
  rw [← hRR]
  have HRR := Lib.hid hRR
  clear h hI hinv hN hRR hll
  go_enter Tryz.func34, Tryz.ntmps34
  go_wp2_with fail
  refine HNO.out.mono ?_
  rintro e w' ⟨rfl, rfl⟩
  go_wp2_with fail
  go_loopw [6, 19] (fun u i wr => ∃ k : Nat, i = .int .i64 k ∧ k ≤ N ∧ RowS wr w.heap.size u (RR (l.take k)) ∧ BookI wr p m S ∧ Kept (fun k => some m = some k) w wr) (fun _ i _ => N - (intOf i).toNat)
  case atStart => exact ⟨0, by go_num, Nat.zero_le _, by rw [HRR.out]; exact World.ownsRow_nil _ _ _ _, HI.out, Kept.refl _ _⟩
  case round =>
    obtain ⟨k, rfl, hk, hO, hI, hK⟩ := hrel
    have hSt := HST.out.kept hK hm hps
    have hwr : w.heap.size ≤ wr.heap.size := hK.size
    have HKK := Lib.hid (And.intro hI hK)
    clear hI hK
    by_cases hlt : k < N
    case pos =>
      obtain ⟨g, hg⟩ : ∃ g, l[k]? = some g := ⟨_, List.getElem?_eq_getElem (by rw [← HN.out]; exact hlt)⟩
      have hgm : g ∈ l := List.mem_of_getElem? hg
      have hhas : hasN l g.gen = true := (HINV.out.up.has_iff _).2 ⟨g, hgm, rfl⟩
      have hgI := HINV.out.each g hgm
      have hRg := hSt.rs rfl
      rw [← HN.out] at hRg
      obtain ⟨bg, og, rfl, hbg, hcg⟩ := rs_gn hRg (by omega)
      obtain ⟨g0, g1, g2, g3⟩ := hcg k g hg
      have i1' : (k : Int) < (N : Int) := by omega
      obtain ⟨au, ku, rfl⟩ := owns_slice hO
      obtain ⟨L, hL⟩ : ∃ L, L = RR (l.take k) := ⟨_, rfl⟩
      rw [← hL] at hO
      rw [← hL]
      have hLl : L.length ≤ 4096 := by
        have h1 := rebR_len S im f (l.take k)
        rw [hL, HRR.out]
        rw [List.length_take, ← HN.out] at h1
        omega
      obtain ⟨V, hV⟩ : ∃ V, V = wr.alloc (Obj.cells #[.int .i64 g.gen, .int .i64 g.basis, .string g.mark, .string g.text] 92) := ⟨_, rfl⟩
      obtain ⟨q, hq⟩ : ∃ q, q = wr.heap.size := ⟨_, rfl⟩
      have hQ : Blk V q [.int .i64 g.gen, .int .i64 g.basis, .string g.mark, .string g.text] 92 := by rw [hV, hq]; exact Blk.new _ _ _
      have hbV : Below wr.heap.size wr V := by rw [hV]; exact below_alloc _ _
      have hOV : RowS V w.heap.size (.slice au L.length ku) L := by rw [hV]; exact World.ownsRow.alloc hO _
      have q0 := hQ.cell (i := 0) rfl
      have q1 := hQ.cell (i := 1) rfl
      have HSV := Lib.hid (hSt.next hbV)
      have HIV := Lib.hid (HKK.out.1.next hbV)
      have HM := Lib.hid (made_any V ps p m base _ S l im HSV.out HIV.out HINV.out hS hm (by have := hbV.size; omega) hps g.gen)
      rw [hhas] at HM
      simp only [if_true] at HM
      have HV := Lib.hid (And.intro hV hq)
      have HQ := Lib.hid hQ
      have HOV := Lib.hid hOV
      have HKV : Hid (Kept (fun k => some m = some k) w V) := Lib.hid (kept_bel HKK.out.2 hbV)
      have hwV : w.heap.size ≤ V.heap.size := Nat.le_trans hwr hbV.size
      have HG := Lib.hid (And.intro hg hgI)
      have HL := Lib.hid hL
      have hn0 : 0 ≤ g.gen := hgI.lo
      have hn1 : g.gen ≤ 4611686018427387903 := hgI.hi
      obtain ⟨tx, htx⟩ : ∃ tx, tx = im g.gen := ⟨_, rfl⟩
      rw [← htx] at HM
      have htl : tx.size ≤ 524288 := by rw [htx]; exact hgI.ilen
      have HT := Lib.hid htx
      clear hg hgm hhas hRg hcg hV hq hQ hbV hSt hO hOV hgI hL htx
      go_upto_region 7 with fail
      rw [← HV.out.1, ← HV.out.2]
      clear g0 g1 g2 g3
      by_cases h1 : g.gen < f
      case pos =>
        have d1 : decide (g.gen < f) = true := decide_eq_true h1
        have HR : Hid (RR (l.take (k + 1)) = L) := Lib.hid (by rw [HL.out, HRR.out]; exact rebR_no HG.out.1 (by unfold rebP; rw [decide_eq_false (by omega)]; rfl))
        clear h1
        go_wp2
        go_roundw
        case rel => exact ⟨k + 1, by go_num, by omega, by rw [HR.out]; exact HOV.out, HIV.out, by first | exact HKV.out | exact kept_eq HKV.out⟩
        case measure => simp [intOf]; omega
      case neg =>
        have d1 : decide (g.gen < f) = false := decide_eq_false h1
        by_cases h2 : f ≤ g.basis
        case pos =>
          have d2 : decide (f ≤ g.basis) = true := decide_eq_true h2
          have HR : Hid (RR (l.take (k + 1)) = L) := Lib.hid (by rw [HL.out, HRR.out]; exact rebR_no HG.out.1 (by unfold rebP; rw [decide_eq_false (show ¬ g.basis < f by omega), Bool.and_false]))
          clear h1 h2
          go_wp2
          go_roundw
          case rel => exact ⟨k + 1, by go_num, by omega, by rw [HR.out]; exact HOV.out, HIV.out, by first | exact HKV.out | exact kept_eq HKV.out⟩
          case measure => simp [intOf]; omega
        case neg =>
          have d2 : decide (f ≤ g.basis) = false := decide_eq_false h2
          obtain ⟨rec, hrec⟩ : ∃ r, r = recW g.gen.toNat (mkI S tx) tx := ⟨_, rfl⟩
          have HR : Hid (RR (l.take (k + 1)) = L ++ [rec]) := Lib.hid (by rw [HL.out, HRR.out, hrec, HT.out]; exact rebR_yes HG.out.1 (by unfold rebP; rw [decide_eq_true (show f ≤ g.gen by omega), decide_eq_true (show g.basis < f by omega)]; rfl))
          have HREC := Lib.hid hrec
          clear h1 h2 hrec
          go_wp2_with fail
          refine HM.out.mono ?_
          rintro e w3 ⟨rfl, hI3, hk3⟩
          have HW : Hid (Calls Tryz.prog 19 #[.pointer (some ⟨ps, 0, none⟩), .int .i64 g.gen, .string tx] w3 fun e w' => e = .returned (.tuple #[.string rec, .int .i64 0]) ∧ BookI w' p m S ∧ Kept (fun k => some m = some k) w3 w') := Lib.hid (by
            refine (stWhole_any w3 ps p m base _ S l (HSV.out.kept hk3 hm hps) hI3 hS g.gen (wfI _ (by omega) (by omega)) tx (by omega)).mono ?_
            rintro e w' ⟨hk, ⟨hno, _⟩ | ⟨_, hb, _⟩ | ⟨_, _, he, hb⟩⟩
            · exact absurd ⟨hn0, hn1⟩ hno
            · omega
            · refine ⟨by rw [he, HREC.out], ?_, hk⟩
              have hmem : bytesOf tx ∈ S := by rw [HT.out]; exact HG.out.2.mem
              rw [addS_mem hmem] at hb
              exact hb)
          have q0 := (blkKept HQ.out hk3 (fun e => by injection e with e; have := HV.out.2; omega)).cell (i := 0) rfl
          have hO3 : RowS w3 w.heap.size (.slice au L.length ku) L := row_kept HOV.out hk3 hmw
          have HO3 := Lib.hid hO3
          have HK3 : Hid (Kept (fun k => some m = some k) w w3) := Lib.hid (HKV.out.trans hk3 (fun _ _ h => h))
          clear hI3 hk3 hO3 HM q1
          go_wp2_with fail
          refine HW.out.mono ?_
          rintro e w4 ⟨rfl, hI4, hk4⟩
          have hO4 : w4.ownsRow w.heap.size 9 1 (.slice au L.length ku) L.length (L.map Value.string) := row_kept HO3.out hk4 hmw
          have HI4 := Lib.hid hI4
          have HK4 : Hid (Kept (fun k => some m = some k) w w4) := Lib.hid (HK3.out.trans hk4 (fun _ _ h => h))
          have hw4 : w.heap.size ≤ w4.heap.size := HK4.out.size
          clear hI4 hk4 HW q0
          go_wp2_with (at_builtin; refine wpList_append_own _ rfl _ _ 75 rfl w.heap.size 9 i1 (.string ByteArray.empty) 1 16 (by kernel_rfl) hj hy0 hy1 hy2 rfl (by decide) _ _ _ rfl (hO4.alloc _) ⟨w4.heap.size, 0, none⟩ 1 1 [.string rec] rfl rfl (cells_new w4 _ _) (by intro u hu; simp only [List.mem_singleton] at hu; subst hu; rfl) (by unfold maxLen; omega) (by omega) (by simp; omega) ?_)
          intro v' w6 hO6 hg6 _
          have hO7 : RowS w6 w.heap.size v' (RR (l.take (k + 1))) := by rw [HR.out]; exact RowS.snoc hO6
          have hge : ∀ j, (Value.slice au L.length ku).ownBlock = some j → w.heap.size ≤ j := fun j hj => (World.ownsRow.lt hO4 j hj).1
          have hI6 : BookI w6 p m S := (HI4.out.next (below_alloc w4 _)).grown hg6 (fun e => by have := hge p e.symm; omega) (fun e => by have := hge m e.symm; omega)
          have HK6 : Hid (Kept (fun k => some m = some k) w w6) := Lib.hid (Kept.grownNew (kept_bel HK4.out (below_alloc w4 _)) hg6 hge)
          have HF := Lib.hid (And.intro hO7 hI6)
          clear hO6 hg6 hO7 hI6 hO4 hge
          go_wp2
          go_roundw
          case rel => exact ⟨k + 1, by go_num, by omega, HF.out.1, HF.out.2, by first | exact HK6.out | exact kept_eq HK6.out⟩
          case measure => simp [intOf]; omega
    case neg =>
      have i1' : ¬ (k : Int) < (N : Int) := by omega
      have HE : Hid (RR (l.take k) = RR l) := Lib.hid (by rw [List.take_of_length_le (by rw [← HN.out]; omega)])
      rw [HE.out] at hO
      have HO := Lib.hid hO
      clear hSt hO
      go_wp2
      go_ret2
      exact ⟨_, rfl, HO.out, HKK.out.1, by first | exact HKK.out.2 | exact kept_eq HKK.out.2⟩
end Go.Proofs.YtgkcnocfijckoaaGreat
namespace Go.Proofs.YtgkcnocfijckoaaGreat
open Go.RowKit Sg
set_option linter.unusedVariables false
set_option linter.unusedSimpArgs false
def recG1 (g : Gn) : ByteArray := if g.basis = g.gen then recW g.gen.toNat g.mark g.text else recD g.gen.toNat g.basis.toNat g.mark g.text
def recsL (l : List Gn) : List ByteArray := l.map recG1
theorem recsL_snoc {l : List Gn} {k : Nat} {g : Gn} (hg : l[k]? = some g) : recsL (l.take (k + 1)) = recsL (l.take k) ++ [recG1 g] := by
  unfold recsL
  rw [List.take_add_one, hg, List.map_append]; rfl
set_option maxRecDepth 100000 in
set_option maxHeartbeats 4000000 in
theorem stRecords_any (w : World) (ps p base : Nat) (v : Value) (S : Bk) (l : List Gn) (im : Int → ByteArray) (h : StB w ps p base v l) (hinv : Inv S l im) :
    Calls Tryz.prog 35 #[.pointer (some ⟨ps, 0, none⟩)] w fun e w' => ∃ v', e = .returned v' ∧ RowS w' w.heap.size v' (recsL l) ∧ Below w.heap.size w w' := by
  obtain ⟨i1, hj, hy0, hy1, hy2⟩ := info_parts infoStrS
  have hgz := gnZ_run
  have hl := hinv.len
  have HNO := Lib.hid (none_any w ps p base v l h)
  have HST := Lib.hid h
  have HINV := Lib.hid hinv
  obtain ⟨ao, cp, rfl⟩ := owns_slice h.2
  have s1 := h.1.cell (i := 1) rfl
  obtain ⟨N, hN⟩ : ∃ N, N = l.length := ⟨_, rfl⟩
  rw [← hN] at s1 hl
  have HN := Lib.hid hN
  obtain ⟨RR, hRR⟩ : ∃ RR : List Gn → List ByteArray, RR = recsL := ⟨_, rfl⟩
  rw [← hRR]
  have HRR := Lib.hid hRR
  clear h hinv hN hRR
  go_enter Tryz.func35, Tryz.ntmps35
  go_wp2_with fail
  refine HNO.out.mono ?_
  rintro e w' ⟨rfl, rfl⟩
  go_wp2_with fail
  go_loopw [3, 17] (fun u i wr => ∃ k : Nat, i = .int .i64 k ∧ k ≤ N ∧ RowS wr w.heap.size u (RR (l.take k)) ∧ Below w.heap.size w wr) (fun _ i _ => N - (intOf i).toNat)
  case atStart => exact ⟨0, by go_num, Nat.zero_le _, by rw [HRR.out]; exact World.ownsRow_nil _ _ _ _, Below.refl _ _⟩
  case round =>
    obtain ⟨k, rfl, hk, hO, hB⟩ := hrel
    have hSt := HST.out.next hB
    have HB := Lib.hid hB
    clear hB
    by_cases hlt : k < N
    case pos =>
      obtain ⟨g, hg⟩ : ∃ g, l[k]? = some g := ⟨_, List.getElem?_eq_getElem (by rw [← HN.out]; exact hlt)⟩
      have hgm : g ∈ l := List.mem_of_getElem? hg
      have hgI := HINV.out.each g hgm
      have hRg := hSt.rs rfl
      rw [← HN.out] at hRg
      obtain ⟨bg, og, rfl, hbg, hcg⟩ := rs_gn hRg (by omega)
      obtain ⟨g0, g1, g2, g3⟩ := hcg k g hg
      have i1' : (k : Int) < (N : Int) := by omega
      obtain ⟨au, ku, rfl⟩ := owns_slice hO
      obtain ⟨L, hL⟩ : ∃ L, L = RR (l.take k) := ⟨_, rfl⟩
      rw [← hL] at hO
      rw [← hL]
      have hLl : L.length ≤ 4096 := by
        rw [hL, HRR.out]
        unfold recsL
        rw [List.length_map, List.length_take, ← HN.out]
        omega
      have hR : RR (l.take (k + 1)) = L ++ [recG1 g] := by rw [hL, HRR.out]; exact recsL_snoc hg
      have hms : g.mark.size = 32 := by rw [hgI.mark]; exact numS_size _
      have hts := hgI.len
      have hbas : 0 ≤ g.basis ∧ g.basis ≤ g.gen := by
        refine ⟨hgI.blo, ?_⟩
        rcases hgI.way with ⟨h, _⟩ | ⟨h, _⟩ <;> omega
      have hn0 := hgI.lo
      have hn1 := hgI.hi
      obtain ⟨⟨gg, gb, gm, gt⟩, rfl⟩ : ∃ x, x = g := ⟨_, rfl⟩
      simp only at g0 g1 g2 g3 hms hts hbas hn0 hn1
      obtain ⟨a, rfl⟩ : ∃ a : Nat, gg = a := ⟨gg.toNat, by omega⟩
      obtain ⟨b, rfl⟩ : ∃ b : Nat, gb = b := ⟨gb.toNat, by omega⟩
      have han : (numBs a).size ≤ 9 := by rw [numBs_size]; exact numL_le9 a (by omega)
      have hbn : (numBs b).size ≤ 9 := by rw [numBs_size]; exact numL_le9 b (by omega)
      obtain ⟨V, hV⟩ : ∃ V, V = wr.alloc (Obj.cells #[.int .i64 a, .int .i64 b, .string gm, .string gt] 92) := ⟨_, rfl⟩
      obtain ⟨q, hq⟩ : ∃ q, q = wr.heap.size := ⟨_, rfl⟩
      have hQ : Blk V q [.int .i64 a, .int .i64 b, .string gm, .string gt] 92 := by rw [hV, hq]; exact Blk.new _ _ _
      have hbV : Below wr.heap.size wr V := by rw [hV]; exact below_alloc _ _
      have hOV : RowS V w.heap.size (.slice au L.length ku) L := by rw [hV]; exact World.ownsRow.alloc hO _
      have q0 := hQ.cell (i := 0) rfl
      have HNA := Lib.hid (num_any a V (by omega))
      have HNB : Hid (∀ W, Calls Tryz.prog 45 #[.int .i64 (b : Int)] W fun e w' => e = .returned (.tuple #[.string (numBs b), .int .i64 (0 : Nat)]) ∧ Below W.heap.size W w') := Lib.hid (fun W => num_any b W (by omega))
      have HV := Lib.hid (And.intro hV hq)
      have HQ := Lib.hid hQ
      have HOV := Lib.hid hOV
      have HBV := Lib.hid (bl_nx HB.out hbV)
      have HR := Lib.hid hR
      clear hg hgm hRg hcg hV hq hQ hbV hSt hO hOV hgI hL hR
      go_upto_region 7 with fail
      rw [← HV.out.1, ← HV.out.2]
      clear g0 g1 g2 g3
      go_wp2_with fail
      refine HNA.out.mono ?_
      rintro e w3 ⟨rfl, hb3⟩
      have hQ3 := HQ.out.below hb3 HQ.out.lt
      have HQ3 := Lib.hid hQ3
      have q0 := hQ3.cell (i := 0) rfl
      have q1 := hQ3.cell (i := 1) rfl
      have q2 := hQ3.cell (i := 2) rfl
      have q3 := hQ3.cell (i := 3) rfl
      have HB3 := Lib.hid (bl_nx HBV.out hb3)
      have hO3 : w3.ownsRow w.heap.size 9 1 (.slice au L.length ku) L.length (L.map Value.string) := row_below HOV.out hb3
      have hw3 : w.heap.size ≤ w3.heap.size := HB3.out.size
      clear hb3 hQ3 HNA
      by_cases hba : b = a
      case pos =>
        subst hba
        have d1 : ((b : Int) == (b : Int)) = true := by simp
        obtain ⟨rec, hrec⟩ : ∃ r, r = (⟨#[87]⟩ : ByteArray) ++ numBs b ++ gm ++ gt := ⟨_, rfl⟩
        have HR2 : Hid (RR (l.take (k + 1)) = L ++ [(⟨#[87]⟩ : ByteArray) ++ numBs b ++ gm ++ gt]) := Lib.hid (by rw [HR.out]; unfold recG1; rw [if_pos rfl]; rfl)
        clear hrec
        go_wp2_with (at_builtin; refine wpList_append_own _ rfl _ _ 75 rfl w.heap.size 9 i1 (.string ByteArray.empty) 1 16 (by kernel_rfl) hj hy0 hy1 hy2 rfl (by decide) _ _ _ rfl (hO3.alloc _) ⟨w3.heap.size, 0, none⟩ 1 1 [.string ((⟨#[87]⟩ : ByteArray) ++ numBs b ++ gm ++ gt)] rfl rfl (cells_new w3 _ _) (by intro u hu; simp only [List.mem_singleton] at hu; subst hu; rfl) (by unfold maxLen; omega) (by omega) (by simp; omega) ?_)
        intro v' w6 hO6 hg6 _
        have HF : Hid (RowS w6 w.heap.size v' (RR (l.take (k + 1))) ∧ Below w.heap.size w w6) := Lib.hid ⟨by rw [HR2.out]; exact RowS.snoc hO6, (HB3.out.alloc hw3 _).grown hg6 (by simp; omega) (fun j hj => (World.ownsRow.lt hO3 j hj).1)⟩
        clear hO6 hg6 hO3 q0 q1 q2 q3
        go_wp2
        go_roundw
        case rel => exact ⟨k + 1, by go_num, by omega, HF.out.1, HF.out.2⟩
        case measure => simp [intOf]; omega
      case neg =>
        have d1 : ((b : Int) == (a : Int)) = false := by simp; omega
        have HR2 : Hid (RR (l.take (k + 1)) = L ++ [(⟨#[68]⟩ : ByteArray) ++ numBs a ++ numBs b ++ gm ++ gt]) := Lib.hid (by rw [HR.out]; unfold recG1; rw [if_neg (by simp only; omega)]; rfl)
        have HO3 := Lib.hid hO3
        clear hba hO3
        go_wp2_with fail
        refine (HNB.out w3).mono ?_
        rintro e w4 ⟨rfl, hb4⟩
        have hQ4 := HQ3.out.below hb4 HQ3.out.lt
        have q2 := hQ4.cell (i := 2) rfl
        have q3 := hQ4.cell (i := 3) rfl
        have HB4 := Lib.hid (bl_nx HB3.out hb4)
        have hO4 : w4.ownsRow w.heap.size 9 1 (.slice au L.length ku) L.length (L.map Value.string) := row_below HO3.out hb4
        have hw4 : w.heap.size ≤ w4.heap.size := HB4.out.size
        clear hb4 hQ4 q0 q1
        go_wp2_with (at_builtin; refine wpList_append_own _ rfl _ _ 75 rfl w.heap.size 9 i1 (.string ByteArray.empty) 1 16 (by kernel_rfl) hj hy0 hy1 hy2 rfl (by decide) _ _ _ rfl (hO4.alloc _) ⟨w4.heap.size, 0, none⟩ 1 1 [.string ((⟨#[68]⟩ : ByteArray) ++ numBs a ++ numBs b ++ gm ++ gt)] rfl rfl (cells_new w4 _ _) (by intro u hu; simp only [List.mem_singleton] at hu; subst hu; rfl) (by unfold maxLen; omega) (by omega) (by simp; omega) ?_)
        intro v' w6 hO6 hg6 _
        have HF : Hid (RowS w6 w.heap.size v' (RR (l.take (k + 1))) ∧ Below w.heap.size w w6) := Lib.hid ⟨by rw [HR2.out]; exact RowS.snoc hO6, (HB4.out.alloc hw4 _).grown hg6 (by simp; omega) (fun j hj => (World.ownsRow.lt hO4 j hj).1)⟩
        clear hO6 hg6 hO4 q2 q3
        go_wp2
        go_roundw
        case rel => exact ⟨k + 1, by go_num, by omega, HF.out.1, HF.out.2⟩
        case measure => simp [intOf]; omega
    case neg =>
      have i1' : ¬ (k : Int) < (N : Int) := by omega
      have HE : Hid (RR (l.take k) = RR l) := Lib.hid (by rw [List.take_of_length_le (by rw [← HN.out]; omega)])
      rw [HE.out] at hO
      have HO := Lib.hid hO
      clear hSt hO
      go_wp2
      go_ret
      exact ⟨_, rfl, HO.out, HB.out⟩
end Go.Proofs.YtgkcnocfijckoaaGreat
namespace Go.Proofs.YtgkcnocfijckoaaGreat
open Go.RowKit Sg
set_option linter.unusedVariables false
set_option linter.unusedSimpArgs false
set_option maxRecDepth 100000 in
set_option maxHeartbeats 1000000 in
theorem stays_any (w : World) (qf qc : Nat) (f c n : Int) (hf : w.cell? ⟨qf, 0, none⟩ = some (.int .i64 f)) (hc : w.cell? ⟨qc, 0, none⟩ = some (.int .i64 c)) :
    Calls Tryz.prog 73 #[.int .i64 n, .pointer (some ⟨qf, 0, none⟩), .pointer (some ⟨qc, 0, none⟩)] w fun e w' => e = .returned (.bool (staysN f c n)) ∧ w = w' := by
  obtain ⟨R, hR⟩ : ∃ R, R = staysN f c n := ⟨_, rfl⟩
  rw [← hR]
  have HR := Lib.hid hR
  clear hR
  by_cases h1 : f ≤ n
  case pos =>
    have d1 : decide (f ≤ n) = true := decide_eq_true h1
    by_cases h2 : n < c
    case pos =>
      have d2 : decide (n < c) = true := decide_eq_true h2
      obtain rfl : R = true := by rw [HR.out]; unfold staysN; rw [d1, d2]; rfl
      clear h1 h2
      go_enter Tryz.func73, Tryz.ntmps73
      go_wp2
      go_ret
      exact ⟨rfl, rfl⟩
    case neg =>
      have d2 : decide (n < c) = false := decide_eq_false h2
      obtain rfl : R = false := by rw [HR.out]; unfold staysN; rw [d1, d2]; rfl
      clear h1 h2
      go_enter Tryz.func73, Tryz.ntmps73
      go_wp2
      go_ret
      exact ⟨rfl, rfl⟩
  case neg =>
    have d1 : decide (f ≤ n) = false := decide_eq_false h1
    obtain rfl : R = false := by rw [HR.out]; unfold staysN; rw [d1]; rfl
    clear h1
    go_enter Tryz.func73, Tryz.ntmps73
    go_wp2
    go_ret
    exact ⟨rfl, rfl⟩
set_option maxRecDepth 100000 in
set_option maxHeartbeats 1000000 in
theorem goes_any (w : World) (qs qf qc : Nat) (f c : Int) (g : Gn) (hs : w.cell? ⟨qs, 0, none⟩ = some (.func (.func 73) #[] #[.pointer (some ⟨qf, 0, none⟩), .pointer (some ⟨qc, 0, none⟩)])) (hf : w.cell? ⟨qf, 0, none⟩ = some (.int .i64 f)) (hc : w.cell? ⟨qc, 0, none⟩ = some (.int .i64 c)) :
    Calls Tryz.prog 75 #[.agg #[.int .i64 g.gen, .int .i64 g.basis, .string g.mark, .string g.text], .pointer (some ⟨qs, 0, none⟩)] w fun e w' => e = .returned (.bool (!staysN f c g.gen)) ∧ Below w.heap.size w w' := by
  obtain ⟨V, hV⟩ : ∃ V, V = w.alloc (Obj.cells #[.int .i64 g.gen, .int .i64 g.basis, .string g.mark, .string g.text] 92) := ⟨_, rfl⟩
  obtain ⟨r, hr⟩ : ∃ r, r = w.heap.size := ⟨_, rfl⟩
  have hB : Blk V r [.int .i64 g.gen, .int .i64 g.basis, .string g.mark, .string g.text] 92 := by rw [hV, hr]; exact Blk.new _ _ _
  have hbV : Below w.heap.size w V := by rw [hV]; exact below_alloc _ _
  have c0 := hB.cell (i := 0) rfl
  have cs := (hbV.cell (p := ⟨qs, 0, none⟩) (World.block_lt_of_cell? _ _ hs)).trans hs
  have HST := Lib.hid (stays_any V qf qc f c g.gen ((hbV.cell (p := ⟨qf, 0, none⟩) (World.block_lt_of_cell? _ _ hf)).trans hf) ((hbV.cell (p := ⟨qc, 0, none⟩) (World.block_lt_of_cell? _ _ hc)).trans hc))
  have HV := Lib.hid (And.intro hV hr)
  have HB := Lib.hid hbV
  obtain ⟨R, hR⟩ : ∃ R, R = staysN f c g.gen := ⟨_, rfl⟩
  rw [← hR] at HST
  rw [← hR]
  clear hV hr hB hbV hs hf hc hR
  go_enter Tryz.func75, Tryz.ntmps75
  go_upto_region 1 with fail
  rw [← HV.out.1, ← HV.out.2]
  go_wp2_with fail
  refine HST.out.mono ?_
  rintro e w2 ⟨rfl, rfl⟩
  go_wp2
  go_ret
  exact ⟨rfl, HB.out⟩
end Go.Proofs.YtgkcnocfijckoaaGreat
namespace Go.Proofs.YtgkcnocfijckoaaGreat
open Go.RowKit Sg
set_option linter.unusedVariables false
set_option linter.unusedSimpArgs false
theorem StB.keptT {T : Nat → Prop} {w w' : World} {ps p base : Nat} {v : Value} {l : List Gn} (h : StB w ps p base v l) (hk : Kept T w w') (h1 : ¬ T ps) (h2 : ∀ k, v.ownBlock = some k → ¬ T k) : StB w' ps p base v l :=
  ⟨blkKept h.1 hk h1, owns_block h.2 (fun k e => hk.block k (World.ownsRow.lt h.2 k e).2 (h2 k e))⟩
theorem RdB.kept {U : TypeId} {T : Nat → Prop} {w w' : World} {pr : Nat} {s : ByteArray} {y : RSt} (h : RdB U w pr s y) (hk : Kept T w w') (h1 : ¬ T pr) : RdB U w' pr s y := by
  obtain ⟨a, ha, hz, hb⟩ := h
  exact ⟨a, ha, hz, blkKept hb hk h1⟩
/-- what a record's doing may touch of what there was -/
def TouchD (ps m pr : Nat) (v : Value) (k : Nat) : Prop := k = ps ∨ k = m ∨ k = pr ∨ v.ownBlock = some k
structure StA (w0 W : World) (ps p m base pr : Nat) (v : Value) (S : Bk) (l : List Gn) (s : ByteArray) (y : RSt) : Prop where
  st : StB W ps p base v l
  bk : BookI W p m S
  kept : Kept (TouchD ps m pr v) w0 W
  rd : RdB 127 W pr s y
  lt : ps < w0.heap.size ∧ p < w0.heap.size ∧ m < w0.heap.size ∧ pr < w0.heap.size ∧ ∀ k, v.ownBlock = some k → k < w0.heap.size
  ne : pr ≠ ps ∧ pr ≠ p ∧ pr ≠ m ∧ v.ownBlock ≠ some pr ∧ ps ≠ p ∧ ps ≠ m
  bs : p < base ∧ m < base ∧ ps < base ∧ base ≤ w0.heap.size
theorem StA.new {w : World} {ps p m base pr : Nat} {v : Value} {S : Bk} {l : List Gn} {s : ByteArray} {y : RSt} (h : StB w ps p base v l) (hI : BookI w p m S) (hr : RdB 127 w pr s y)
    (ne : pr ≠ ps ∧ pr ≠ p ∧ pr ≠ m ∧ v.ownBlock ≠ some pr ∧ ps ≠ p ∧ ps ≠ m) (bs : p < base ∧ m < base ∧ ps < base ∧ base ≤ w.heap.size) : StA w w ps p m base pr v S l s y :=
  ⟨h, hI, Kept.refl _ _, hr, ⟨h.lt, hI.2.2.2.2.1.1, hI.2.2.2.2.1.2, hr.lt, fun k e => (World.ownsRow.lt h.2 k e).2⟩, ne, bs⟩
theorem StA.keep {w0 W W' : World} {ps p m base pr : Nat} {v : Value} {S : Bk} {l : List Gn} {s : ByteArray} {y : RSt} (h : StA w0 W ps p m base pr v S l s y) {T : Nat → Prop} (hk : Kept T W W') (hT : ∀ k, k < w0.heap.size → ¬ T k) : StA w0 W' ps p m base pr v S l s y :=
  ⟨h.st.keptT hk (hT _ h.lt.1) (fun k e => hT k (h.lt.2.2.2.2 k e)), h.bk.kept hk (hT _ h.lt.2.1) (hT _ h.lt.2.2.1), h.kept.trans hk (fun k hkk hTk => absurd hTk (hT k hkk)), h.rd.kept hk (hT _ h.lt.2.2.2.1), h.lt, h.ne, h.bs⟩
theorem StA.below {w0 W W' : World} {ps p m base pr : Nat} {v : Value} {S : Bk} {l : List Gn} {s : ByteArray} {y : RSt} (h : StA w0 W ps p m base pr v S l s y) (hb : Below W.heap.size W W') : StA w0 W' ps p m base pr v S l s y :=
  h.keep (Kept.of_below (fun _ => False) hb) (fun _ _ => id)
theorem StA.setq {w0 W : World} {ps p m base pr : Nat} {v : Value} {S : Bk} {l : List Gn} {s : ByteArray} {y : RSt} (h : StA w0 W ps p m base pr v S l s y) {q : Nat} (hq : w0.heap.size ≤ q) (i : Nat) (u : Value) : StA w0 (W.setCell ⟨q, i, none⟩ u) ps p m base pr v S l s y :=
  h.keep ((Kept.refl (fun k => k = q) W).set rfl i u) (fun k hk e => by omega)
theorem StA.read {w0 W W' : World} {ps p m base pr : Nat} {v : Value} {S : Bk} {l : List Gn} {s : ByteArray} {y y' : RSt} (h : StA w0 W ps p m base pr v S l s y) (hg : W.grownBy W' (some pr)) (hr : RdB 127 W' pr s y') : StA w0 W' ps p m base pr v S l s y' := by
  have hk : Kept (fun k => some pr = some k) W W' := Kept.of_grown hg
  obtain ⟨n1, n2, n3, n4, n5, n6⟩ := h.ne
  exact ⟨h.st.keptT hk (fun e => n1 (by injection e)) (fun k e e2 => n4 (by rw [e]; exact e2.symm)), h.bk.kept hk (fun e => n2 (by injection e)) (fun e => n3 (by injection e)), h.kept.trans hk (fun k _ e => .inr (.inr (.inl (by injection e with e; exact e.symm)))), hr, h.lt, h.ne, h.bs⟩
theorem StA.book {w0 W W' : World} {ps p m base pr : Nat} {v : Value} {S S' : Bk} {l : List Gn} {s : ByteArray} {y : RSt} (h : StA w0 W ps p m base pr v S l s y) (hk : Kept (fun k => some m = some k) W W') (hI : BookI W' p m S') : StA w0 W' ps p m base pr v S' l s y := by
  obtain ⟨n1, n2, n3, n4, n5, n6⟩ := h.ne
  refine ⟨h.st.keptT hk (fun e => n6 (by injection e with e; exact e.symm)) (fun k e e2 => ?_), hI, h.kept.trans hk (fun k _ e => .inr (.inl (by injection e with e; exact e.symm))), h.rd.kept hk (fun e => n3 (by injection e with e; exact e.symm)), h.lt, h.ne, h.bs⟩
  injection e2 with e2
  have := (World.ownsRow.lt h.st.2 k e).1
  have := h.bs.2.1
  omega
/-- what Do's kinds leave -/
def DoP (ps p m base : Nat) (v : Value) (T : Nat → Prop) (z : DoT) (w : World) (e : Ending) (w' : World) : Prop :=
  e = .returned (.int .i64 z.1) ∧ ∃ v', StB w' ps p base v' z.2.1 ∧ BookI w' p m z.2.2.2 ∧ Kept T w w' ∧ (v'.ownBlock = v.ownBlock ∨ ∃ k, v'.ownBlock = some k ∧ w.heap.size ≤ k)
theorem StA.out {w0 W : World} {ps p m base pr : Nat} {v : Value} {S : Bk} {l : List Gn} {s : ByteArray} {y : RSt} (h : StA w0 W ps p m base pr v S l s y) {z : DoT} {im : Int → ByteArray} {e : Int} (hz : z = (e, l, im, S)) : DoP ps p m base v (TouchD ps m pr v) z w0 (.returned (.int .i64 e)) W := by
  subst hz
  exact ⟨rfl, v, h.st, h.bk, h.kept, .inl rfl⟩
theorem StA.set {w0 W W' : World} {ps p m base pr : Nat} {v : Value} {S : Bk} {l : List Gn} {s : ByteArray} {y : RSt} {x : Gn} (h : StA w0 W ps p m base pr v S l s y) (hs : SetP ps p base v l x W W') {z : DoT} {im : Int → ByteArray} (hz : z = (0, setN l x, im, S)) : DoP ps p m base v (TouchD ps m pr v) z w0 (.returned (.int .i64 0)) W' := by
  subst hz
  obtain ⟨v', h1, h2, h3⟩ := hs
  obtain ⟨n1, n2, n3, n4, n5, n6⟩ := h.ne
  refine ⟨rfl, v', h1, h.bk.kept h2 ?_ ?_, h.kept.trans h2 (fun k _ e => by rcases e with e | e; exact .inl e; exact .inr (.inr (.inr e))), ?_⟩
  · rintro (e | e)
    · exact n5 e.symm
    · have := (World.ownsRow.lt h.st.2 p e).1; have := h.bs.1; omega
  · rintro (e | e)
    · exact n6 e.symm
    · have := (World.ownsRow.lt h.st.2 m e).1; have := h.bs.2.1; omega
  · rcases h3 with e | ⟨k, e, hk⟩
    · exact .inl e
    · exact .inr ⟨k, e, Nat.le_trans h.kept.size hk⟩
theorem left_rdb (w : World) (p : Nat) (s : ByteArray) (z : RSt) (hs : s.size ≤ 1000000000) (h : RdB 127 w p s z) :
    Calls Tryz.prog 69 #[.pointer (some ⟨p, 0, none⟩)] w fun e' w' => e' = .returned (.int .i64 (z.1.length : Nat)) ∧ Below w.heap.size w w' := by
  obtain ⟨a, ha, hl, hb⟩ := h
  refine (left_rd w p s a z.2 ha hs hb).mono ?_
  rintro e w' ⟨rfl, n, rfl⟩
  have e1 : z.1.length = s.size - a := by rw [hl]; simp
  rw [e1]
  exact ⟨rfl, below_drewN' (Below.refl _ _) n⟩
theorem is_takes (w : World) (p m : Nat) (S : Bk) (s mk : ByteArray) (h : BookI w p m S) (hs : s.size ≤ maxLen) (hn : S.length ≤ 1000000000000) (B : Bool) (hB : B = true ↔ takesI S s mk) :
    Calls Tryz.prog 63 #[.pointer (some ⟨p, 0, none⟩), .string s, .string mk] w fun e w' => e = .returned (.bool B) ∧ Below w.heap.size w w' := by
  have h1 := is_ideal w p m S s mk h hs hn
  have e1 : decide (s.data.toList ∈ S ∧ mk.data.toList = numB (S.idxOf s.data.toList + 1)) = B := by
    have h2 : (s.data.toList ∈ S ∧ mk.data.toList = numB (S.idxOf s.data.toList + 1)) ↔ takesI S s mk := by
      constructor
      · rintro ⟨a, b⟩
        exact ⟨a, ByteArray.ext (Array.ext' b)⟩
      · rintro ⟨a, b⟩
        exact ⟨a, by rw [b]; rfl⟩
    cases B with
    | true => exact decide_eq_true (h2.2 (hB.1 rfl))
    | false => exact decide_eq_false (fun h3 => by have := hB.2 (h2.1 h3); cases this)
  rw [e1] at h1
  exact h1
theorem stMark_b (w : World) (ps p base : Nat) (v : Value) (l : List Gn) (n : Int) (h : StB w ps p base v l) (hl : l.length ≤ 100000) :
    Calls Tryz.prog 26 #[.pointer (some ⟨ps, 0, none⟩), .int .i64 n] w fun e w' => e = .returned (.tuple #[.string (markN l n), .bool (hasN l n)]) ∧ Below w.heap.size w w' := by
  refine (stMark_any w ps p base v l n h hl).mono ?_
  rintro e w' ⟨rfl, m, rfl⟩
  exact ⟨rfl, below_drewN' (Below.refl _ _) m⟩
theorem StA.setCall {w0 W : World} {ps p m base pr : Nat} {v : Value} {S : Bk} {l : List Gn} {s : ByteArray} {y : RSt} {x : Gn} (h : StA w0 W ps p m base pr v S l s y) (hl : l.length ≤ 4096) {z : DoT} {im : Int → ByteArray} (hz : z = (0, setN l x, im, S)) :
    Calls Tryz.prog 71 #[.pointer (some ⟨ps, 0, none⟩), .agg #[.int .i64 x.gen, .int .i64 x.basis, .string x.mark, .string x.text]] W fun e w' => (∃ r, e = .returned r) ∧ DoP ps p m base v (TouchD ps m pr v) z w0 (.returned (.int .i64 0)) w' := by
  refine (stSet_any W ps p base v l x h.st hl h.bs.2.2.1 (Nat.le_trans h.bs.2.2.2 h.kept.size)).mono ?_
  rintro e w' ⟨hr, hP⟩
  exact ⟨hr, h.set hP hz⟩
theorem blkB_no {l : List Gn} {n : Int} {mk : ByteArray} (h : hasN l n = false ∨ markN l n = mk ∨ hangsN l n = false) : ¬ blockN l n mk := by
  rintro ⟨g, hg, hgn, h2, h3⟩
  rcases h with h | h | h
  · have : hasN l n = true := by unfold hasN; rw [hg]; simp [hgn]
    rw [h] at this; cases this
  · exact h2 (by rw [← markN_at hg hgn]; exact h)
  · rw [h] at h3; cases h3
theorem blkB_yes {l : List Gn} {n : Int} {mk : ByteArray} (h1 : hasN l n = true) (h2 : markN l n ≠ mk) (h3 : hangsN l n = true) : blockN l n mk := by
  obtain ⟨g, hg, hgn⟩ := hasN_at h1
  rw [markN_at hg hgn] at h2
  exact ⟨g, hg, hgn, h2, h3⟩
end Go.Proofs.YtgkcnocfijckoaaGreat
namespace Go.Proofs.YtgkcnocfijckoaaGreat
open Go.RowKit Sg
set_option linter.unusedVariables false
set_option linter.unusedSimpArgs false
set_option maxRecDepth 100000 in
set_option maxHeartbeats 4000000 in
theorem stDoW_any (w : World) (ps p m base pr : Nat) (v : Value) (S : Bk) (l : List Gn) (im : Int → ByteArray) (s : ByteArray) (z : RSt) (hA : StA w w ps p m base pr v S l s z) (hl : l.length ≤ 4096) (hS : S.length ≤ 90000000) (hs : s.size ≤ 1000000) :
    Calls Tryz.prog 41 #[.pointer (some ⟨ps, 0, none⟩), .pointer (some ⟨pr, 0, none⟩)] w (DoP ps p m base v (TouchD ps m pr v) (doW S l im z) w) := by
  have hgz := gnZ_run
  obtain ⟨D, hD⟩ : ∃ D, D = doW S l im z := ⟨_, rfl⟩
  rw [← hD]
  unfold doW at hD
  have a1 := stNum_left z
  obtain ⟨R1, hR1⟩ : ∃ R, R = stNum z := ⟨_, rfl⟩
  have hb1 := stNum_le z
  rw [← hR1] at hD hb1 a1
  obtain ⟨n, z1⟩ := R1
  simp only at hD hb1 a1
  have a2 := stRaw_left 32 z1
  have hb2 := stRaw_len 32 z1
  obtain ⟨R2, hR2⟩ : ∃ R, R = stRaw 32 z1 := ⟨_, rfl⟩
  rw [← hR2] at hD a2 hb2
  obtain ⟨b2, z2⟩ := R2
  simp only at hD a2 hb2
  have a3 := stRaw_left z2.1.length z2
  have hb3 := stRaw_len z2.1.length z2
  obtain ⟨NL, hNL⟩ : ∃ N, N = z2.1.length := ⟨_, rfl⟩
  rw [← hNL] at hD a3 hb3
  obtain ⟨R3, hR3⟩ : ∃ R, R = stRaw NL z2 := ⟨_, rfl⟩
  rw [← hR3] at hD a3 hb3
  obtain ⟨b3, z3⟩ := R3
  simp only at hD a3 hb3
  have hNs : NL ≤ 1000000 := by
    have h0 : z.1.length ≤ s.size := by
      obtain ⟨a, ha, hz, _⟩ := hA.rd
      rw [hz]; simp
    have := a1.len; have := a2.len
    omega
  obtain ⟨M, hM⟩ : ∃ M, M = mkB b2 := ⟨_, rfl⟩
  obtain ⟨X, hX⟩ : ∃ X, X = mkB b3 := ⟨_, rfl⟩
  have hMs : M.size ≤ 32 := by rw [hM]; simpa [mkB, ByteArray.size] using hb2
  have hXs : X.size ≤ 1000000 := by rw [hX]; have : b3.length ≤ 1000000 := by omega
                                    simpa [mkB, ByteArray.size] using this
  have hXl : X.size = b3.length := by rw [hX]; simp [mkB, ByteArray.size]
  rw [← hM, ← hX, ← hXl] at hD
  have HD := Lib.hid hD
  have HR1 := Lib.hid hR1
  have HR2 := Lib.hid hR2
  have HR3 := Lib.hid hR3
  have HNL := Lib.hid hNL
  have HM := Lib.hid hM
  have HX := Lib.hid hX
  have HA := Lib.hid hA
  obtain ⟨Q, hQ⟩ : ∃ Q : Ending → World → Prop, Q = DoP ps p m base v (TouchD ps m pr v) D w := ⟨_, rfl⟩
  rw [← hQ]
  have HQ := Lib.hid hQ
  clear hD hR1 hR2 hR3 hNL hM hX hA hQ a1 a2 a3 hb2 hb3 hXl
  go_enter Tryz.func41, Tryz.ntmps41
  go_wp2_with fail
  refine (num_rd w pr s z (by omega) HA.out.rd).mono ?_
  rw [← HR1.out]
  rintro e w1 ⟨rfl, hr1, hg1⟩
  simp only at hr1 ⊢
  have HA1 := Lib.hid (HA.out.read hg1 hr1)
  have HW1 : Hid (w.heap.size ≤ w1.heap.size) := Lib.hid hg1.size
  clear hr1 hg1
  go_wp2_with fail
  refine (raw_rd w1 pr s z1 32 (by omega) (by omega) HA1.out.rd).mono ?_
  rw [← HR2.out]
  rintro e w2 ⟨rfl, hr2, hg2⟩
  simp only at hr2 ⊢
  rw [← HM.out]
  have HA2 := Lib.hid (HA1.out.read hg2 hr2)
  clear hr2 hg2
  obtain ⟨V, hV⟩ : ∃ V, V = w2.alloc (Obj.cells #[.int .i64 n, .int .i64 0, .string M, .string ByteArray.empty] 92) := ⟨_, rfl⟩
  obtain ⟨q, hq⟩ : ∃ q, q = w2.heap.size := ⟨_, rfl⟩
  have hqw : w.heap.size ≤ q := by rw [hq]; exact HA2.out.kept.size
  have hG : Blk V q [.int .i64 n, .int .i64 0, .string M, .string ByteArray.empty] 92 := by rw [hV, hq]; exact Blk.new _ _ _
  have HAV := Lib.hid (HA2.out.below (by rw [hV]; exact below_alloc _ _ : Below w2.heap.size w2 V))
  have HV := Lib.hid (And.intro hV hq)
  have HG := Lib.hid hG
  have HQW := Lib.hid hqw
  have q0 := hG.cell (i := 0) rfl
  have q1 := hG.cell (i := 1) rfl
  have f1 := hG.frozen 1
  clear hV hq hG hqw
  go_upto_region 2 with fail
  rw [← HV.out.1, ← HV.out.2]
  go_upto_region 3 with fail
  obtain ⟨V2, hV2⟩ : ∃ V2, V2 = V.setCell ⟨q, 1, none⟩ (.int .i64 n) := ⟨_, rfl⟩
  rw [← hV2]
  have HG2 : Hid (Blk V2 q [.int .i64 n, .int .i64 n, .string M, .string ByteArray.empty] 92) := Lib.hid (by rw [hV2]; exact HG.out.set 1 _)
  have HA3 : Hid (StA w V2 ps p m base pr v S l s z2) := Lib.hid (by rw [hV2]; exact HAV.out.setq HQW.out _ _)
  clear hV2 q0 q1 f1
  go_wp2_with fail
  refine (left_rdb V2 pr s z2 (by omega) HA3.out.rd).mono ?_
  rw [← HNL.out]
  rintro e w3 ⟨rfl, hb3⟩
  have HA4 := Lib.hid (HA3.out.below hb3)
  have HG3 := Lib.hid (HG2.out.below hb3 HG2.out.lt)
  clear hb3
  go_wp2_with fail
  refine (raw_rd w3 pr s z2 NL (by omega) (by omega) HA4.out.rd).mono ?_
  rw [← HR3.out]
  rintro e w4 ⟨rfl, hr4, hg4⟩
  simp only at hr4 ⊢
  rw [← HX.out]
  have HA5 := Lib.hid (HA4.out.read hg4 hr4)
  have hqp : some q ≠ some pr := by have := HA.out.lt.2.2.2.1; have := HQW.out; simp; omega
  have HG4 := Lib.hid (HG3.out.grown hg4 hqp)
  have f3 := HG4.out.frozen 3
  have c3 := HG4.out.cell (i := 3) rfl
  clear hr4 hg4 hqp
  go_upto_region 4 with fail
  obtain ⟨V4, hV4⟩ : ∃ V4, V4 = w4.setCell ⟨q, 3, none⟩ (.string X) := ⟨_, rfl⟩
  rw [← hV4]
  have HG5 : Hid (Blk V4 q [.int .i64 n, .int .i64 n, .string M, .string X] 92) := Lib.hid (by rw [hV4]; exact HG4.out.set 3 _)
  have HA6 : Hid (StA w V4 ps p m base pr v S l s z3) := Lib.hid (by rw [hV4]; exact HA5.out.setq HQW.out _ _)
  clear hV4 f3 c3
  have HER := Lib.hid (errs_d V4 pr s z3 HA6.out.rd)
  obtain ⟨r3, er⟩ := z3
  simp only at HER
  go_wp2_with fail
  refine HER.out.mono ?_
  rintro e w5 ⟨rfl, rfl⟩
  by_cases he : er = 0
  case neg =>
    have hne : (((er : Nat) : Int) != 0) = true := by simpa using he
    have HF : Hid (Q (.returned (.int .i64 (er : Nat))) V4) := Lib.hid (by
      rw [HQ.out]
      exact HA6.out.out (im := im) (by rw [HD.out, if_pos he]))
    clear he
    go_wp2_with fail
    refine HER.out.mono ?_
    rintro e w5 ⟨rfl, rfl⟩
    go_wp2
    exact HF.out
  subst he
  have hq3 := HG5.out.cell (i := 3) rfl
  by_cases hx : 524288 < X.size
  case pos =>
    have d1 : decide ((524288 : Int) < (X.size : Int)) = true := decide_eq_true (by omega)
    have HF : Hid (Q (.returned (.int .i64 4)) V4) := Lib.hid (by
      rw [HQ.out]
      exact HA6.out.out (im := im) (by rw [HD.out, if_neg (by simp), if_pos hx]))
    clear hx
    go_wp2
    exact HF.out
  have d1 : decide ((524288 : Int) < (X.size : Int)) = false := decide_eq_false (by omega)
  have HXX := Lib.hid hx
  clear hx
  obtain ⟨B, hB⟩ : ∃ B : Bool, B = true ↔ takesI S X M := by
    by_cases h : takesI S X M
    · exact ⟨true, by simp [h]⟩
    · exact ⟨false, by simp [h]⟩
  have s0 := HA6.out.st.1.cell (i := 0) rfl
  have q2 := HG5.out.cell (i := 2) rfl
  have HIS := Lib.hid (is_takes V4.drew p m S X M (HA6.out.bk.kept (Kept.refl (fun _ => False) V4).selfD id id) (by unfold maxLen; omega) (by omega) B hB)
  have HB := Lib.hid hB
  have hplt : ps < V4.heap.size := HA6.out.st.lt
  have hqlt : q < V4.heap.size := HG5.out.lt
  clear hB
  go_upto_region 8 with fail
  go_region_held3 (fun w' => w'.cell? ⟨ps, 0, none⟩ = some (.pointer (some ⟨p, 0, none⟩)) ∧ w'.cell? ⟨q, 2, none⟩ = some (.string M) ∧ w'.cell? ⟨q, 3, none⟩ = some (.string X))
    (first | exact ⟨s0, q2, hq3⟩)
    (first | (go_at_call 63; refine HIS.out.mono ?_; rintro e w6 ⟨rfl, hb6⟩; replace s0 := (hb6.cell (p := ⟨ps, 0, none⟩) (by exact hplt)).trans s0; replace q2 := (hb6.cell (p := ⟨q, 2, none⟩) (by exact hqlt)).trans q2; replace hq3 := (hb6.cell (p := ⟨q, 3, none⟩) (by exact hqlt)).trans hq3))
  all_goals
    have hb46 := bl_nx (bl_drew (Below.refl _ V4)) hb6
    have HA7 := Lib.hid (HA6.out.below hb46)
    have HG7 := Lib.hid (HG5.out.below hb46 HG5.out.lt)
    clear hb46 hb6 s0 q2 hq3 HIS
    cases B
    case false =>
      have HF : Hid (Q (.returned (.int .i64 6)) w6) := Lib.hid (by
        rw [HQ.out]
        exact HA7.out.out (im := im) (by rw [HD.out, if_neg (by simp), if_neg HXX.out, if_pos (fun h => by have := HB.out.2 h; cases this)]))
      go_wp2
      exact HF.out
    case true =>
      have HT := Lib.hid (HB.out.1 rfl)
      have HMK := Lib.hid (stMark_b w6 ps p base v l (n : Int) HA7.out.st (by omega))
      obtain ⟨RH, hRH⟩ : ∃ R, R = hasN l (n : Int) := ⟨_, rfl⟩
      obtain ⟨MK, hMK⟩ : ∃ R, R = markN l (n : Int) := ⟨_, rfl⟩
      rw [← hRH, ← hMK] at HMK
      have HRH := Lib.hid hRH
      have HMM := Lib.hid hMK
      have q0 := HG7.out.cell (i := 0) rfl
      clear hRH hMK
      go_wp2_with fail
      refine HMK.out.mono ?_
      rintro e w8 ⟨rfl, hb8⟩
      have HA8 := Lib.hid (HA7.out.below hb8)
      have hG8 := HG7.out.below hb8 HG7.out.lt
      have HG8 := Lib.hid hG8
      replace q0 := hG8.cell (i := 0) rfl
      have q1 := hG8.cell (i := 1) rfl
      have q2 := hG8.cell (i := 2) rfl
      have q3 := hG8.cell (i := 3) rfl
      clear hb8 hG8 HMK
      have HGO : Hid (¬ blockN l (n : Int) M → Calls Tryz.prog 71 #[.pointer (some ⟨ps, 0, none⟩), .agg #[.int .i64 n, .int .i64 n, .string M, .string X]] w8 fun e w' => (∃ r, e = .returned r) ∧ Q (.returned (.int .i64 0)) w') := Lib.hid (fun hn => by
        rw [HQ.out]
        exact HA8.out.setCall (x := ⟨n, n, M, X⟩) hl (im := updI im n X) (by rw [HD.out, if_neg (by simp), if_neg HXX.out, if_neg (fun h => h HT.out), if_neg hn]))
      cases RH
      case false =>
        have HSE := Lib.hid (HGO.out (blkB_no (.inl HRH.out.symm)))
        go_wp2_with fail
        refine HSE.out.mono ?_
        rintro e w9 ⟨⟨r, rfl⟩, hF⟩
        have HF := Lib.hid hF
        clear hF
        go_wp2
        exact HF.out
      case true =>
        by_cases hmm : MK = M
        case pos =>
          have HSE := Lib.hid (HGO.out (blkB_no (.inr (.inl (HMM.out.symm.trans hmm)))))
          have hne : (MK.toList == M.toList) = true := beqS_t (by rw [hmm])
          clear hmm
          go_wp2_with fail
          refine HSE.out.mono ?_
          rintro e w9 ⟨⟨r, rfl⟩, hF⟩
          have HF := Lib.hid hF
          clear hF
          go_wp2
          exact HF.out
        case neg =>
          have hne : (MK.toList == M.toList) = false := beqS_f (fun e => hmm (ByteArray.ext (Array.ext' e)))
          have HMN : Hid (markN l (n : Int) ≠ M) := Lib.hid (fun e => hmm (HMM.out.trans e))
          have HHG := Lib.hid (stHangs_any w8 ps p base v l HA8.out.st (by omega) (n : Int))
          obtain ⟨HH, hHH⟩ : ∃ R, R = hangsN l (n : Int) := ⟨_, rfl⟩
          rw [← hHH] at HHG
          have HHE := Lib.hid hHH
          clear hHH hmm
          go_wp2_with fail
          refine HHG.out.mono ?_
          rintro e w9 ⟨rfl, hb9⟩
          have HA9 := Lib.hid (HA8.out.below hb9)
          have hG9 := HG8.out.below hb9 HG8.out.lt
          replace q0 := hG9.cell (i := 0) rfl
          replace q1 := hG9.cell (i := 1) rfl
          replace q2 := hG9.cell (i := 2) rfl
          replace q3 := hG9.cell (i := 3) rfl
          clear hb9 hG9 HHG
          cases HH
          case true =>
            have HF : Hid (Q (.returned (.int .i64 15)) w9) := Lib.hid (by
              rw [HQ.out]
              exact HA9.out.out (im := im) (by rw [HD.out, if_neg (by simp), if_neg HXX.out, if_neg (fun h => h HT.out), if_pos (blkB_yes HRH.out.symm HMN.out HHE.out.symm)]))
            go_wp2
            exact HF.out
          case false =>
            have HSE : Hid (Calls Tryz.prog 71 #[.pointer (some ⟨ps, 0, none⟩), .agg #[.int .i64 n, .int .i64 n, .string M, .string X]] w9 fun e w' => (∃ r, e = .returned r) ∧ Q (.returned (.int .i64 0)) w') := Lib.hid (by
              rw [HQ.out]
              exact HA9.out.setCall (x := ⟨n, n, M, X⟩) hl (im := updI im n X) (by rw [HD.out, if_neg (by simp), if_neg HXX.out, if_neg (fun h => h HT.out), if_neg (blkB_no (.inr (.inr HHE.out.symm)))]))
            go_wp2_with fail
            refine HSE.out.mono ?_
            rintro e wa ⟨⟨r, rfl⟩, hF⟩
            have HF := Lib.hid hF
            clear hF
            go_wp2
            exact HF.out
end Go.Proofs.YtgkcnocfijckoaaGreat
