/- MarksApart: the walk. No conditions. -/
import Derived.Test.YtjahdladcijhoaaMarksHonestWalk
import Derived.Deep.RegionHeld3
import Derived.BigQuiet
namespace Go.Proofs.Ytjahdladcijhoaa
open Go.RowKit
set_option linter.unusedVariables false

theorem infoStr : (Try.prog.info? 9).map (fun i => (i.zero, i.size, i.bytes)) = some (some (.string ByteArray.empty), 1, 16) := by kernel_rfl

/-- the number of text i behind all -/
def numAt (ts : List (List UInt8)) (i : Nat) : Nat := (seenL ts).idxOf (ts.getD i []) + 1
def markC (ts : List (List UInt8)) (k : Nat) : List Value := (List.range k).map fun i => .string (numS (numAt ts i))
theorem markC_len (ts : List (List UInt8)) (k : Nat) : (markC ts k).length = k := by simp [markC]
theorem markC_succ (ts : List (List UInt8)) (k : Nat) : markC ts (k + 1) = markC ts k ++ [.string (numS (numAt ts k))] := by simp [markC, List.range_succ]
theorem markC_get (ts : List (List UInt8)) (n k : Nat) (h : k < n) : (markC ts n).getD k undef = .string (numS (numAt ts k)) := by simp [markC, List.getD, h]
theorem numAt_now (ts : List (List UInt8)) (k : Nat) (hk : k < ts.length) : (seenL (ts.take k)).idxOf (ts[k]) + 1 = numAt ts k := by
  unfold numAt
  have e1 : ts.getD k [] = ts[k] := by simp [List.getD, hk]
  have e2 : ts = ts.take (k + 1) ++ ts.drop (k + 1) := (List.take_append_drop _ _).symm
  have e3 : ts.take (k + 1) = ts.take k ++ [ts[k]] := by rw [List.take_succ_eq_append_getElem hk]
  rw [e1]
  congr 1
  have h4 : (seenL ts).idxOf ts[k] = (seenL (ts.take (k + 1))).idxOf ts[k] := by
    conv => lhs; arg 2; rw [e2]
    exact idx_seenL _ _ _ (by rw [e3]; exact List.mem_append_right _ (List.mem_singleton.2 rfl))
  rw [h4, e3, seenL_snoc, idx_self]
theorem numAt_inj (ts : List (List UInt8)) (i k : Nat) (hi : i < ts.length) (hk : k < ts.length) : numAt ts i = numAt ts k ↔ ts[i] = ts[k] := by
  unfold numAt
  have e1 : ts.getD i [] = ts[i] := by simp [List.getD, hi]
  have e2 : ts.getD k [] = ts[k] := by simp [List.getD, hk]
  rw [e1, e2]
  constructor
  · intro h
    exact idx_inj ((mem_seenL _ _).2 (List.getElem_mem hi)) ((mem_seenL _ _).2 (List.getElem_mem hk)) (by omega)
  · intro h; rw [h]
theorem numAt_le (ts : List (List UInt8)) (i : Nat) : numAt ts i ≤ ts.length + 1 := by
  unfold numAt
  have h1 := seenL_len ts
  have h2 := List.idxOf_le_length (l := seenL ts) (a := ts.getD i [])
  omega
theorem takes_at (ts : List (List UInt8)) (i k : Nat) (hi : i < ts.length) (hk : k < ts.length) (hl : ts.length ≤ 1000) : takes (seenL ts) ts[i] (numB (numAt ts k)) = decide (ts[i] = ts[k]) := by
  have hm : ts[i] ∈ seenL ts := (mem_seenL _ _).2 (List.getElem_mem hi)
  have e0 : (seenL ts).idxOf ts[i] + 1 = numAt ts i := by unfold numAt; simp [List.getD, hi]
  have h1 := numAt_le ts i
  have h2 := numAt_le ts k
  unfold takes
  rw [e0]
  have h3 : numB (numAt ts k) = numB (numAt ts i) ↔ ts[i] = ts[k] := by
    rw [← numAt_inj ts i k hi hk]
    constructor
    · intro h
      exact (numB_inj _ _ (Nat.lt_of_le_of_lt h2 (Nat.lt_of_le_of_lt (Nat.succ_le_succ hl) (by decide))) (Nat.lt_of_le_of_lt h1 (Nat.lt_of_le_of_lt (Nat.succ_le_succ hl) (by decide))) h).symm
    · intro h; rw [h]
  simp [hm, h3]

set_option maxRecDepth 100000 in
set_option maxHeartbeats 4000000 in
theorem marksApart_walk (w : World) (ao0 : Option Addr) (len0 cap : Nat) (ol : (Kd.sl .str).ok w [.slice ao0 len0 cap]) :
    Calls Try.prog 3 #[.slice ao0 len0 cap] w fun e w' => e = .returned (.bool true) ∧ Below w.heap.size w w' := by
  obtain ⟨i0, hi, hz0, hz1, hz2⟩ := info_parts infoStr
  obtain ⟨ss0, hR0, hss0⟩ := strs_of ol
  clear ol
  by_cases hcut : 40 < len0
  case' pos =>
    obtain ⟨b, off, rfl, hbw, hc⟩ := hR0.cell1 (by omega)
    have hR := hR0.take (m := 40) (by omega)
    have hss : ∀ x ∈ ss0.take 40, x.size ≤ maxLen := fun x hx => hss0 x (List.mem_of_mem_take hx)
    obtain ⟨ss, hsse⟩ : ∃ ss, ss = ss0.take 40 := ⟨_, rfl⟩
    rw [← hsse] at hR hss
    have hc40 : (40 : Int) ≤ (cap : Int) := by have := hR0.1; omega
    have hc41 : 40 ≤ cap := by have := hR0.1; omega
    have d0 : decide ((40 : Int) < (len0 : Int)) = true := by simp; omega
    clear hR0 hss0 hc hsse
    go_enter Try.func3, Try.ntmps3
    go_wp2_with fail
    obtain ⟨len, hlee⟩ : ∃ len : Nat, len = 40 := ⟨_, rfl⟩
    obtain ⟨ao, haoe⟩ : ∃ ao, ao = some (⟨b, off, none⟩ : Addr) := ⟨_, rfl⟩
    rw [← hlee, ← haoe] at hR
    rw [← hlee, ← haoe]
    have h40 : len ≤ 40 := by omega
    clear hlee haoe hbw hc40 hc41 d0 hcut
  case' neg =>
    obtain ⟨ss, hsse⟩ : ∃ ss, ss = ss0 := ⟨_, rfl⟩
    obtain ⟨ao, haoe⟩ : ∃ ao, ao = ao0 := ⟨_, rfl⟩
    obtain ⟨len, hlee⟩ : ∃ len, len = len0 := ⟨_, rfl⟩
    subst hsse
    subst haoe
    subst hlee
    have hR := hR0
    have hss := hss0
    have d0 : decide ((40 : Int) < (len : Int)) = false := by simp; omega
    have h40 : len ≤ 40 := by omega
    clear hR0 hss0
    go_enter Try.func3, Try.ntmps3
    go_wp2_with fail
    clear d0 hcut
  all_goals
    have hlen := hR.2.2.1
    have HL := Lib.hid hlen
    clear hlen
    refine (ideal_any _).mono ?_
    rintro e w1 ⟨rfl, hI, hB⟩
    have hS : w.heap.size + 2 ≤ w1.heap.size := by have := hI.2.2.2.2.1.1; omega
    obtain ⟨ts, hts⟩ : ∃ ts, ts = ss.map (fun x : ByteArray => x.data.toList) := ⟨_, rfl⟩
    have hlt' : ts.length = len := by rw [hts]; simp; exact HL.out
    have HLT := Lib.hid hlt'
    have HT := Lib.hid hts
    clear hts hlt'
    go_wp2
    go_loopw [4, 5] (fun v i wr => ∃ k : Nat, k ≤ len ∧ i = .int .i64 k ∧ wr.ownsRow (w.heap.size + 2) 9 1 v k (markC ts k) ∧ BookI wr (w.heap.size + 1) w.heap.size (seenL (ts.take k)) ∧ Below w.heap.size w wr ∧ w.heap.size + 2 ≤ wr.heap.size) (fun _ i _ => len - (intOf i).toNat)
    case atStart => exact ⟨0, by omega, rfl, World.ownsRow_nil _ _ _ _, hI, hB, hS⟩
    case round =>
      clear hI hB hS
      obtain ⟨k, hk, rfl, hO, hI, hB, hS⟩ := hrel
      by_cases hlt : k < len
      · obtain ⟨b, off, rfl, hbw, hc⟩ := hR.cell1 (by omega)
        have hks : k < ss.length := by rw [HL.out]; exact hlt
        have hkt : k < ts.length := by rw [HLT.out]; exact hlt
        have hcell := (hB.cell (p := ⟨b, off + k, none⟩) hbw).trans (hc k hks _ rfl)
        have hsz := hss _ (List.getElem_mem hks)
        have htk : ts[k] = (ss[k]).data.toList := by simp [HT.out]
        have hnum := numAt_now ts k hkt
        rw [htk] at hnum
        have hsn : seenL (ts.take (k + 1)) = addS (seenL (ts.take k)) (ss[k]).data.toList := by
          rw [List.take_succ_eq_append_getElem hkt, seenL_snoc, htk]
        have hlk : (seenL (ts.take k)).length ≤ 1000000000000 := by
          have := seenL_len (ts.take k)
          have h2 := List.length_take_le k ts
          omega
        obtain ⟨t, ht⟩ : ∃ t, t = ss[k] := ⟨_, rfl⟩
        rw [← ht] at hcell hsz hnum hsn
        obtain ⟨A, hA⟩ : ∃ A, A = seenL (ts.take k) := ⟨_, rfl⟩
        rw [← hA] at hI hsn hlk hnum
        obtain ⟨N, hN⟩ : ∃ N, N = numAt ts k := ⟨_, rfl⟩
        have hmc := markC_succ ts k
        rw [← hN] at hnum hmc
        have HN := Lib.hid hnum
        have HSN := Lib.hid hsn
        have HSZ := Lib.hid hsz
        have HMC := Lib.hid hmc
        clear hR hss hc hsz ht htk hsn hA hN hnum hmc
        go_wp2_with fail
        refine (mark_as hI HSZ.out hlk N _ HN.out rfl).mono ?_
        rintro e w4 ⟨rfl, hI4, hg4⟩
        have hB4 := book_step (p := 0) hB (Nat.le_refl _) hg4
        have hO4 := hO.kept hg4 (.inr (owns_ne hO (by omega)))
        have hS4 := Nat.le_trans hS hg4.size
        clear hI hB hg4 hcell hO hS
        go_wp2_with (at_builtin; refine wpList_append_own _ rfl _ _ 22 rfl (w.heap.size + 2) 9 i0 (.string ByteArray.empty) 1 16 Try.underlying22 hi hz0 hz1 hz2 rfl (by decide) _ _ _ rfl (hO4.alloc _) ⟨w4.heap.size, 0, none⟩ 1 1 [.string (numS N)] rfl rfl (cell1_new _ _ _) (one1 _ rfl) (by unfold maxLen; omega) (by omega) (by simp; omega) ?_)
        intro v' w5 hO5 hg5 _
        rw [← HMC.out] at hO5
        have hB5 : Below w.heap.size w w5 := (hB4.alloc (by omega) _).grown hg5 (by simp; omega) (fun j hj => by have := World.ownsRow.lt hO4 j hj; omega)
        have hI5 : BookI w5 (w.heap.size + 1) w.heap.size (addS A t.data.toList) := (BookI.grown hI4 (World.grownBy_alloc _ _ none) (by simp) (by simp)).grown hg5 (fun e' => owns_ne hO4 (p := w.heap.size + 1) (by omega) e'.symm) (fun e' => owns_ne hO4 (p := w.heap.size) (by omega) e'.symm)
        have hS5 : w.heap.size + 2 ≤ w5.heap.size := by have := hg5.size; simp at this; omega
        clear hO4 hB4 hI4 hS4 hg5
        go_wp2
        go_roundw
        case rel => exact ⟨k + 1, by omega, by go_num, hO5, by rw [HSN.out]; exact hI5, hB5, hS5⟩
        case measure => simp [intOf]; omega
      · have hkk : k = len := by omega
        subst hkk
        have htt : ts.take k = ts := List.take_of_length_le (by rw [HLT.out]; omega)
        rw [htt] at hI
        have hlk : (seenL ts).length ≤ 1000000000000 := by
          have := seenL_len ts
          have h3 := HLT.out
          omega
        have hV : RowV wr u4 k 1 (fun j => .string (numS (numAt ts j))) := (RowV.of_owns hO).congr (fun j hj => markC_get ts k j (by omega))
        clear htt hO
        go_wp2
        obtain ⟨wo, rfl⟩ : ∃ wo : World, wo = wr := ⟨_, rfl⟩
        clear hk hlt
        go_loopw [6, 7] (fun a c wr => ∃ i : Nat, i ≤ k ∧ a = .int .i64 i ∧ Below wo.heap.size wo wr) (fun a _ _ => k - (intOf a).toNat)
        case atStart => exact ⟨0, by omega, rfl, Below.refl _ _⟩
        case round =>
          obtain ⟨i, hik, rfl, hbo⟩ := hrel
          by_cases hi1 : i < k
          · go_wp2
            obtain ⟨wq, rfl⟩ : ∃ wq : World, wq = wr := ⟨_, rfl⟩
            go_loopw [7] (fun c wr => ∃ j : Nat, j ≤ k ∧ c = .int .i64 j ∧ Below wo.heap.size wo wr) (fun c _ => k - (intOf c).toNat)
            case atStart => exact ⟨0, by omega, rfl, hbo⟩
            case round =>
              clear hbo
              obtain ⟨j, hjk, rfl, hbo⟩ := hrel
              by_cases hj1 : j < k
              · rcases hV with ⟨h0, _⟩ | ⟨g, o, cp, rfl, hmc⟩
                · omega
                obtain ⟨b, off, rfl, hbw, hc⟩ := hR.cell1 (by omega)
                have his : i < ss.length := by rw [HL.out]; exact hi1
                have hjs : j < ss.length := by rw [HL.out]; exact hj1
                have hit : i < ts.length := by rw [HLT.out]; exact hi1
                have hjt : j < ts.length := by rw [HLT.out]; exact hj1
                have hbw2 : b < wo.heap.size := Nat.lt_of_lt_of_le hbw hB.size
                have c1 := (hbo.cell (p := ⟨b, off + i, none⟩) hbw2).trans ((hB.cell (p := ⟨b, off + i, none⟩) hbw).trans (hc i his _ rfl))
                have c2 := (hbo.cell (p := ⟨b, off + j, none⟩) hbw2).trans ((hB.cell (p := ⟨b, off + j, none⟩) hbw).trans (hc j hjs _ rfl))
                have m1 : wo.cell? ⟨g, o + i, none⟩ = some (.string (numS (numAt ts i))) := hmc i (by omega)
                have m2 : wo.cell? ⟨g, o + j, none⟩ = some (.string (numS (numAt ts j))) := hmc j (by omega)
                have c3 := (hbo.cell (p := ⟨g, o + i, none⟩) (World.block_lt_of_cell? _ _ m1)).trans m1
                have c4 := (hbo.cell (p := ⟨g, o + j, none⟩) (World.block_lt_of_cell? _ _ m2)).trans m2
                have hsi := hss _ (List.getElem_mem his)
                have htk := takes_at ts i j hit hjt (by have := HLT.out; omega)
                have hinj := numAt_inj ts i j hit hjt
                have ei : ts[i] = (ss[i]).data.toList := by simp [HT.out]
                have ej : ts[j] = (ss[j]).data.toList := by simp [HT.out]
                rw [ei, ej] at htk hinj
                have hIr := hI.below hbo hI.2.2.2.2.1.1 hI.2.2.2.2.1.2
                obtain ⟨si, hsie⟩ : ∃ si, si = ss[i] := ⟨_, rfl⟩
                obtain ⟨sj, hsje⟩ : ∃ sj, sj = ss[j] := ⟨_, rfl⟩
                rw [← hsie] at c1 hsi htk hinj
                rw [← hsje] at c2 htk hinj
                obtain ⟨A, hA⟩ : ∃ A, A = seenL ts := ⟨_, rfl⟩
                rw [← hA] at hIr hlk htk
                have hn1 := numAt_le ts i
                have hn2 := numAt_le ts j
                have hn3 := HLT.out
                obtain ⟨Ni, hNi⟩ : ∃ N, N = numAt ts i := ⟨_, rfl⟩
                obtain ⟨Nj, hNj⟩ : ∃ N, N = numAt ts j := ⟨_, rfl⟩
                rw [← hNi] at c3 hinj hn1
                rw [← hNj] at c4 hinj htk hn2
                have hn4 : Ni ≤ 41 := by omega
                have hn5 : Nj ≤ 41 := by omega
                clear hn1 hn2 hn3
                have HSI := Lib.hid hsi
                have HTK := Lib.hid htk
                have HIR := Lib.hid hIr
                have HBO := Lib.hid hbo
                have z1 : (i : Int) < (k : Int) := by omega
                have z2 : (j : Int) < (k : Int) := by omega
                have hbr : b < wr.heap.size := Nat.lt_of_lt_of_le hbw2 hbo.size
                have hgr : g < wr.heap.size := World.block_lt_of_cell? _ _ c3
                clear hR hss hc hmc m1 m2 hsi htk hIr hI hbo hsie hsje hA hNi hNj ei ej hbw hbw2 hit hjt his hjs hB hS hi hz0 hz1 hz2
                by_cases hq : si.data.toList = sj.data.toList
                · have e1 : (si.toList == sj.toList) = true := beqS_t hq
                  have e2 : ((numS Ni).toList == (numS Nj).toList) = true := beqS_t (by rw [hinj.2 hq])
                  have HR : Hid (true = takes A si.data.toList (numS Nj).data.toList) := by
                    show true = takes A si.data.toList (numB Nj)
                    rw [HTK.out]; simp [hq]
                  clear hq hinj
                  go_wp2
                  go_region_held3 (fun w' => w'.cell? ⟨b, off + i, none⟩ = some (.string si) ∧ w'.cell? ⟨b, off + j, none⟩ = some (.string sj) ∧ w'.cell? ⟨g, o + i, none⟩ = some (.string (numS Ni)) ∧ w'.cell? ⟨g, o + j, none⟩ = some (.string (numS Nj)))
                    (first | go_keep | exact ⟨c1', c2', c3', c4'⟩)
                    (first | (go_at_call 13; refine (is_takes (by exact HIR.out) HSI.out hlk true HR.out).mono ?_; rintro e w4 ⟨rfl, hb4⟩; have c1' := (hb4.cell (p := ⟨b, off + i, none⟩) (by exact hbr)).trans c1; have c2' := (hb4.cell (p := ⟨b, off + j, none⟩) (by exact hbr)).trans c2; have c3' := (hb4.cell (p := ⟨g, o + i, none⟩) (by exact hgr)).trans c3; have c4' := (hb4.cell (p := ⟨g, o + j, none⟩) (by exact hgr)).trans c4))
                  have hb5 : Below wo.heap.size wo w4 := HBO.out.trans (((Below.refl _ wr).drew.trans hb4).mono HBO.out.size)
                  clear c1' c2' c3' c4' hb4
                  go_wp2
                  go_roundw
                  case rel => exact ⟨j + 1, by omega, by go_num, hb5⟩
                  case measure => simp [intOf]; omega
                · have e1 : (si.toList == sj.toList) = false := beqS_f hq
                  have e2 : ((numS Ni).toList == (numS Nj).toList) = false := beqS_f (fun e => hq (hinj.1 (numS_inj _ _ (by omega) (by omega) e)))
                  have HR : Hid (false = takes A si.data.toList (numS Nj).data.toList) := by
                    show false = takes A si.data.toList (numB Nj)
                    rw [HTK.out]; simp [hq]
                  clear hq hinj
                  go_wp2
                  go_region_held3 (fun w' => w'.cell? ⟨b, off + i, none⟩ = some (.string si) ∧ w'.cell? ⟨b, off + j, none⟩ = some (.string sj) ∧ w'.cell? ⟨g, o + i, none⟩ = some (.string (numS Ni)) ∧ w'.cell? ⟨g, o + j, none⟩ = some (.string (numS Nj)))
                    (first | go_keep | exact ⟨c1', c2', c3', c4'⟩)
                    (first | (go_at_call 13; refine (is_takes (by exact HIR.out) HSI.out hlk false HR.out).mono ?_; rintro e w4 ⟨rfl, hb4⟩; have c1' := (hb4.cell (p := ⟨b, off + i, none⟩) (by exact hbr)).trans c1; have c2' := (hb4.cell (p := ⟨b, off + j, none⟩) (by exact hbr)).trans c2; have c3' := (hb4.cell (p := ⟨g, o + i, none⟩) (by exact hgr)).trans c3; have c4' := (hb4.cell (p := ⟨g, o + j, none⟩) (by exact hgr)).trans c4))
                  have hb5 : Below wo.heap.size wo w4 := HBO.out.trans (((Below.refl _ wr).drew.trans hb4).mono HBO.out.size)
                  clear c1' c2' c3' c4' hb4
                  go_wp2
                  go_roundw
                  case rel => exact ⟨j + 1, by omega, by go_num, hb5⟩
                  case measure => simp [intOf]; omega
              · go_wp2
                go_roundw
                case rel => exact ⟨i + 1, by omega, by go_num, hbo⟩
                case measure => simp [intOf]; omega
          · go_wp2_with fail
            refine (awake_any _).mono ?_
            rintro e w5 ⟨rfl, hb5⟩
            have hB5 : Below w.heap.size w w5 := hB.trans ((hbo.trans (hb5.mono hbo.size)).mono hB.size)
            go_wp2
            go_ret
            exact ⟨rfl, hB5⟩
end Go.Proofs.Ytjahdladcijhoaa
