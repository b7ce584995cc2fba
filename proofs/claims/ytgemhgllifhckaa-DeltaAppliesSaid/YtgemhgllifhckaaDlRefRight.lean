/- Which deltas may be: the reference's Right; Same. Conditions: as named in each theorem. -/
import Derived.Test.YtgemhgllifhckaaDlRights
namespace Go.Proofs.Ytgemhgllifhckaa
open Go.RowKit
set_option linter.unusedVariables false
set_option linter.unusedSimpArgs false

set_option maxRecDepth 100000 in
set_option maxHeartbeats 1000000 in
theorem refRight_any (w : World) (b m : ByteArray) (s : Int) (ao : Option Addr) (len cap : Nat) (l : List St) (hs : (Lit.int .i64 s).wf = true) (hbs : b.size ≤ maxLen) (hms : m.size ≤ maxLen) (hR : Rs w ao len cap 3 l St.c) (hok : ∀ x ∈ l, x.ok) :
    Calls Try.prog 29 #[.agg #[.string b, .string m, .int .i64 s, .slice ao len cap]] w fun e w' => RightR (RightP ⟨b, m, s, l⟩) e ∧ Below w.heap.size w w' := by
  have hgz := stepZ_run
  have HLEN := Lib.hid hR.2.2.1
  have hlm : len ≤ maxLen := Nat.le_trans hR.1 hR.2.1
  have hcm : len ≤ cap := hR.1
  obtain ⟨V, hV⟩ : ∃ V, V = w.alloc (Obj.cells #[.string b, .string m, .int .i64 s, .slice ao len cap] 25) := ⟨_, rfl⟩
  obtain ⟨pd, hpd⟩ : ∃ pd, pd = w.heap.size := ⟨_, rfl⟩
  have hBLK : Blk V pd [.string b, .string m, .int .i64 s, .slice ao len cap] 25 := by rw [hV, hpd]; exact Blk.new w _ _
  have hBV : Below w.heap.size w V := by rw [hV]; exact below_alloc _ _
  have HB := Lib.hid hBLK
  have hq0 := hBLK.cell (i := 0) rfl
  have hq1 := hBLK.cell (i := 1) rfl
  have hq2 := hBLK.cell (i := 2) rfl
  have hpV : pd < V.heap.size := hBLK.lt
  rw [hV, hpd] at hq0 hq1 hq2
  have HV := Lib.hid hV
  have HPD := Lib.hid hpd
  clear hV hpd hBLK
  go_enter Try.func29, Try.ntmps29
  by_cases h1 : b.size = 32
  · by_cases h2 : m.size = 32
    · by_cases h3 : s < 0
      · have HN : Hid (¬ RightP ⟨b, m, s, l⟩) := Lib.hid (fun h => by have := h.2.2.1; simp only at this; omega)
        rw [HV.out] at hBV
        go_wp2
        go_ret
        exact ⟨RightR.no HN.out, hBV⟩
      · by_cases h4 : 524288 < s
        · have HN : Hid (¬ RightP ⟨b, m, s, l⟩) := Lib.hid (fun h => by have := h.2.2.2.1; simp only at this; omega)
          rw [HV.out] at hBV
          go_wp2
          go_ret
          exact ⟨RightR.no HN.out, hBV⟩
        · have H1 := Lib.hid h1
          have H2 := Lib.hid h2
          go_wp2
          clear hq0 hq1 hq2 h1 h2
          rw [← HV.out, ← HPD.out]
          go_loopw [3, 4] (fun v i wr => ∃ k : Nat, k ≤ len ∧ i = .int .i64 k ∧ v = .int .i64 (sum2 (l.take k) : Nat) ∧ sum2 (l.take k) ≤ 2000000 ∧ (∀ x ∈ l.take k, rightS x) ∧ Below V.heap.size V wr) (fun _ i _ => len - (intOf i).toNat)
          case atStart => exact ⟨0, by omega, rfl, rfl, by simp [sum2], by simp, Below.refl _ _⟩
          case round =>
            obtain ⟨k, hk, rfl, rfl, hsm, hall, hB⟩ := hrel
            have HALL := Lib.hid hall
            clear hall
            have hk2 : k ≤ 2000000 := by have := sum2_len HALL.out; rw [List.length_take, HLEN.out] at this; omega
            have hBB := hBV.trans (hB.mono hBV.size)
            have hBX := HB.out.below hB hpV
            by_cases hlt : k < len
            · obtain ⟨g, off, rfl, hbw, hc⟩ := rs_s hR (by omega)
              have hks : k < l.length := by rw [HLEN.out]; exact hlt
              obtain ⟨c0, c1, c2⟩ := hc k hks
              have hsu := sum2_succ l k hks
              have hxo := hok _ (List.getElem_mem hks)
              have HSU2 := Lib.hid (fun h => all_succ hks HALL.out h)
              have HMEM := Lib.hid (List.getElem_mem hks)
              have htk := sum2_take l k
              have HTK := Lib.hid htk
              obtain ⟨x, hx⟩ : ∃ x, x = l[k] := ⟨_, rfl⟩
              rw [← hx] at c0 c1 c2 hsu hxo HSU2 HMEM
              obtain ⟨S, hS⟩ : ∃ S, S = sum2 (l.take k) := ⟨_, rfl⟩
              rw [← hS] at hsm hsu HTK
              rw [← hS]
              obtain ⟨p, n, t⟩ := x
              have d0 := (hBB.cell (p := ⟨g, off + k * 3, none⟩) hbw).trans c0
              have d1 := (hBB.cell (p := ⟨g, off + k * 3 + 1, none⟩) hbw).trans c1
              have d2 := (hBB.cell (p := ⟨g, off + k * 3 + 2, none⟩) hbw).trans c2
              simp only at d0 d1 d2
              obtain ⟨hpw, hnw, htw⟩ := hxo
              simp only at hpw hnw htw
              have HSU := Lib.hid hsu
              have i1 : (k : Int) < (len : Int) := by omega
              have y2 := hBX.cell (i := 2) rfl
              have y3 := hBX.cell (i := 3) rfl
              have HBX := Lib.hid hBX
              have HC1 := Lib.hid c1
              have HC2 := Lib.hid c2
              clear c0 c1 c2 hc hx hsu hS hks hBX htk
              go_wp2_with fail
              refine (step_any _ p n t hnw hpw htw).mono ?_
              rintro e w3 ⟨⟨r, rfl, hr⟩, hb3⟩
              have hD3 := HBX.out.below hb3 HBX.out.lt
              have hB3 := hB.trans (hb3.mono hB.size)
              have hBB3 := hBV.trans (hB3.mono hBV.size)
              have z2 := hD3.cell (i := 2) rfl
              have z3 := hD3.cell (i := 3) rfl
              have e1 := (hBB3.cell (p := ⟨g, off + k * 3 + 1, none⟩) hbw).trans HC1.out
              have e2 := (hBB3.cell (p := ⟨g, off + k * 3 + 2, none⟩) hbw).trans HC2.out
              clear d0 d1 d2 y2 y3 hb3 hB hBB hD3
              cases r with
              | false =>
                have HN : Hid (¬ RightP ⟨b, m, s, l⟩) := Lib.hid (fun h => by
                  have := hr.2 (h.2.2.2.2.1 _ HMEM.out)
                  cases this)
                clear hr
                go_wp2
                go_ret
                exact ⟨RightR.no HN.out, hBB3⟩
              | true =>
                have hrx := hr.1 rfl
                by_cases h6 : s < (S : Int)
                · have HN : Hid (¬ RightP ⟨b, m, s, l⟩) := Lib.hid (fun h => by
                    have a := HTK.out
                    have c := h.2.2.2.2.2
                    simp only at c
                    omega)
                  clear hr
                  go_wp2
                  go_ret
                  exact ⟨RightR.no HN.out, hBB3⟩
                · obtain ⟨r1, r2, r3, r4, r5⟩ := rightS_sum hrx
                  simp only at r1 r2 r3 r5
                  have HRX := Lib.hid hrx
                  have hsum : ((sum2 (l.take (k + 1)) : Nat) : Int) = (S : Int) + n + t.size := by rw [HSU.out]; omega
                  have HS := Lib.hid hsum
                  clear hr hrx r4 r5 hsum
                  go_wp2
                  go_quiet (fail)
                  go_wp2
                  go_roundw
                  case rel => exact ⟨k + 1, by omega, by go_num, by rw [HS.out], by have := HS.out; omega, HSU2.out HRX.out, below_drewN' hB3 _⟩
                  case measure => simp [intOf]; omega
            · have hkk : l.take k = l := List.take_of_length_le (by rw [HLEN.out]; omega)
              rw [hkk] at hsm HALL
              have z2 := hBX.cell (i := 2) rfl
              have z3 := hBX.cell (i := 3) rfl
              rw [hkk]
              by_cases h7 : ((sum2 l : Nat) : Int) = s
              · have HY : Hid (RightP ⟨b, m, s, l⟩) := Lib.hid ⟨H1.out, H2.out, by simp only; omega, by simp only; omega, HALL.out, h7⟩
                have e7 : (((sum2 l : Nat) : Int) == s) = true := by simpa using h7
                obtain ⟨S, hS⟩ : ∃ S, S = sum2 l := ⟨_, rfl⟩
                rw [← hS] at e7
                rw [← hS]
                clear h7 hS hkk hsm hBX
                go_wp2
                go_ret
                exact ⟨RightR.yes HY.out, hBB⟩
              · have HN : Hid (¬ RightP ⟨b, m, s, l⟩) := Lib.hid (fun h => h7 h.2.2.2.2.2)
                have e7 : (((sum2 l : Nat) : Int) == s) = false := by simpa using h7
                obtain ⟨S, hS⟩ : ∃ S, S = sum2 l := ⟨_, rfl⟩
                rw [← hS] at e7
                rw [← hS]
                clear h7 hS hkk hsm hBX
                go_wp2
                go_ret
                exact ⟨RightR.no HN.out, hBB⟩
    · have HN : Hid (¬ RightP ⟨b, m, s, l⟩) := Lib.hid (fun h => h2 h.2.1)
      rw [HV.out] at hBV
      go_wp2
      go_ret
      exact ⟨RightR.no HN.out, hBV⟩
  · have HN : Hid (¬ RightP ⟨b, m, s, l⟩) := Lib.hid (fun h => h1 h.1)
    rw [HV.out] at hBV
    go_wp2
    go_ret
    exact ⟨RightR.no HN.out, hBV⟩

/-- two deltas that read alike are the same -/
theorem same_true (w : World) (b m : ByteArray) (s : Int) (l : List St) (u v : Value) {base base2 : Nat} (hl : l.length ≤ 1000000000) (ha : Own w base u l) (hb : Own w base2 v l) :
    Calls Try.prog 35 #[.agg #[.string b, .string m, .int .i64 s, u], .agg #[.string b, .string m, .int .i64 s, v]] w fun e w' => e = .returned (.bool true) ∧ Below w.heap.size w w' := by
  obtain ⟨ao, ca, rfl⟩ := owns_slice ha
  obtain ⟨bo, cb, rfl⟩ := owns_slice hb
  obtain ⟨V, hV⟩ : ∃ V, V = w.alloc (Obj.cells #[.string b, .string m, .int .i64 s, .slice ao l.length ca] 25) := ⟨_, rfl⟩
  obtain ⟨W, hW⟩ : ∃ W, W = V.alloc (Obj.cells #[.string b, .string m, .int .i64 s, .slice bo l.length cb] 25) := ⟨_, rfl⟩
  have hA : Blk W w.heap.size [.string b, .string m, .int .i64 s, .slice ao l.length ca] 25 := by rw [hW, hV]; exact (Blk.new w _ _).alloc _
  have hC : Blk W (w.heap.size + 1) [.string b, .string m, .int .i64 s, .slice bo l.length cb] 25 := by
    have := Blk.new V [.string b, .string m, .int .i64 s, .slice bo l.length cb] 25
    rw [hV, World.size_alloc] at this
    rw [hW, hV]; exact this
  have hB : Below w.heap.size w W := by rw [hW, hV]; exact (below_alloc w _).alloc (by simp) _
  have hOa := ha.below hB
  have hOb := hb.below hB
  have q0 := hA.cell (i := 0) rfl
  have q1 := hA.cell (i := 1) rfl
  have q2 := hA.cell (i := 2) rfl
  have q3 := hA.cell (i := 3) rfl
  have y0 := hC.cell (i := 0) rfl
  have y1 := hC.cell (i := 1) rfl
  have y2 := hC.cell (i := 2) rfl
  have y3 := hC.cell (i := 3) rfl
  rw [hW, hV] at q0 q1 q2 q3 y0 y1 y2 y3
  have HW := Lib.hid hW
  have HV := Lib.hid hV
  clear hA hC hW hV ha hb
  go_enter Try.func35, Try.ntmps35
  go_wp2_with fail
  rw [← HV.out, ← HW.out]
  refine (steps_true W l _ _ hl hOa hOb).mono ?_
  rintro e w3 ⟨rfl, hb3⟩
  have hB3 := below_then hB hb3
  clear q0 q1 q2 q3 y0 y1 y2 y3 hOa hOb hB hb3
  go_wp2
  go_ret
  exact ⟨rfl, hB3⟩
end Go.Proofs.Ytgemhgllifhckaa
