/- The tables: the words that each round adds, and those at first. Conditions: as named in each theorem. -/
import Derived.Test.YtjahdladcijhoaaShaPrimes
namespace Go.Proofs.Ytjahdladcijhoaa
open Go.RowKit
set_option linter.unusedVariables false
set_option linter.unusedSimpArgs false

theorem results_cell_cell {P : Program} {fn : Func} {p q : Tmp} {ty ty2 : TypeId} (h : fn.results = #[.cell p ty, .cell q ty2]) (tmps : Array Value) (w : World) (g g2 : Nat) (t t2 : TypeId) (cs cs2 : Array Value) (fr fr2 : Nat × Nat) (d d2 : TypeDesc)
    (hp : tmps.getD p undef = .pointer (some ⟨g, 0, none⟩)) (hg : w.heap[g]? = some (.cells cs t fr)) (hq : tmps.getD q undef = .pointer (some ⟨g2, 0, none⟩)) (hg2 : w.heap[g2]? = some (.cells cs2 t2 fr2))
    (hu : P.underlying ty = some d) (hd : (match d with | .struct _ | .array _ _ => true | _ => false) = true) (hi : (P.info? ty).map (·.size) = some cs.size)
    (hu2 : P.underlying ty2 = some d2) (hd2 : (match d2 with | .struct _ | .array _ _ => true | _ => false) = true) (hi2 : (P.info? ty2).map (·.size) = some cs2.size) :
    (results fn tmps).run P w = .ok (.tuple #[.agg cs, .agg cs2]) w := by
  have hp' : tmps[p]?.getD undef = .pointer (some ⟨g, 0, none⟩) := by simpa using hp
  have hq' : tmps[q]?.getD undef = .pointer (some ⟨g2, 0, none⟩) := by simpa using hq
  simp [results, h, hp', hq', asAddr, run_loadVar_row w g t ty cs fr d hg hu hd hi, run_loadVar_row w g2 t2 ty2 cs2 fr2 d2 hg2 hu2 hd2 hi2]

/-- the first n of N cells told by the primes -/
def arrC (g : Nat → Value) (z : Value) (N n : Nat) : List Value := (P64.take n).map g ++ List.replicate (N - n) z
theorem arrC_len {g : Nat → Value} {z : Value} {N n : Nat} (h : n ≤ N) (h2 : N ≤ 64) : (arrC g z N n).length = N := by
  unfold arrC
  have hl := P64_len
  rw [List.length_append, List.length_map, List.length_take, List.length_replicate]; omega
theorem arrC_next {g : Nat → Value} {z : Value} {N n : Nat} (h : n < N) (h2 : N ≤ 64) : (arrC g z N n)[n]? = some z := by
  unfold arrC
  have hl := P64_len
  have h1 : ((P64.take n).map g).length = n := by rw [List.length_map, List.length_take]; omega
  rw [List.getElem?_append_right (by rw [h1]; exact Nat.le_refl _), h1, Nat.sub_self, show N - n = (N - n - 1) + 1 by omega, List.replicate_succ]
  rfl
theorem arrC_set {g : Nat → Value} {z : Value} {N n x : Nat} (h : n < N) (h2 : N ≤ 64) (hx : P64[n]? = some x) : (arrC g z N n).set n (g x) = arrC g z N (n + 1) := by
  unfold arrC
  have hl := P64_len
  have h1 : ((P64.take n).map g).length = n := by rw [List.length_map, List.length_take]; omega
  rw [List.set_append_right _ _ (by rw [h1]; exact Nat.le_refl _), h1, Nat.sub_self, show N - n = (N - (n + 1)) + 1 by omega, List.replicate_succ, List.set_cons_zero]
  have h3 : P64.take (n + 1) = P64.take n ++ [x] := by rw [List.take_add_one, hx]; rfl
  rw [h3, List.map_append, List.append_assoc]
  rfl
theorem P64_get {n : Nat} (h : n < 64) : ∃ x, P64[n]? = some x ∧ (pCells 64)[n]? = some (.int .u64 (x : Nat)) ∧ 2 ≤ x ∧ x ≤ 311 := by
  have hl := P64_len
  refine ⟨P64[n], List.getElem?_eq_getElem (by omega), ?_, P64_bd _ (List.getElem_mem _)⟩
  rw [pCells_at (Nat.le_refl _) h, List.getD_eq_getElem?_getD, List.getElem?_eq_getElem (by omega)]
  rfl
theorem P64_8 : ∀ n : Fin 8, ∀ x, P64[n.val]? = some x → x ≤ 19 := by decide
noncomputable def vk3 (p : Nat) : Value := .int .u32 (k3 p : Nat)
noncomputable def vk2 (p : Nat) : Value := .int .u32 (k2 p : Nat)
/-- the tables' cells -/
noncomputable def kC : List Value := arrC vk3 (.int .u32 0) 64 64
noncomputable def hC : List Value := arrC vk2 (.int .u32 0) 8 8
def z42 : Array Value := (List.replicate 64 (Value.int .u32 0)).toArray
def z43 : Array Value := (List.replicate 8 (Value.int .u32 0)).toArray
theorem arr42_run (w : World) : (zeroValue 42).run Try.prog w = .ok (.agg z42) w := by kernel_rfl
theorem arr43_run (w : World) : (zeroValue 43).run Try.prog w = .ok (.agg z43) w := by kernel_rfl
theorem arr_one {g : Nat → Value} {z : Value} {N n : Nat} (hg : ∀ p, (g p).oneCell' = true) (hz : z.oneCell' = true) : (arrC g z N n).toArray.all (·.oneCell') = true := all_oneCell_toArray (by
  intro u hu
  unfold arrC at hu
  rcases List.mem_append.1 hu with h | h
  · obtain ⟨p, _, rfl⟩ := List.mem_map.1 h; exact hg p
  · rw [(List.mem_replicate.1 h).2]; exact hz)

theorem sha_range {w : World} {p : Nat} {cs : List Value} {T : TypeId} (h : Blk w p cs T) : w.rangeAt p 0 cs := fun j v hv => by rw [Nat.zero_add]; exact h.cell hv
theorem sha_want {P : Program} {ops : Array Oper} {o : Oper} {a : Act} {w : World} {K : Act → World → Prop} {Q : Exit → Act → World → Prop} {E : Prop} (hg : o.guard = none) (h : Oper.wp P o a w K Q) :
    if Region.wanted o (yielded ops a.tmps) = true then Oper.wp P o a w K Q else E := by
  have hw : Region.wanted o (yielded ops a.tmps) = true := by simp [Region.wanted, hg]
  rw [if_pos hw]; exact h
theorem kC_one : kC.toArray.all (·.oneCell') = true := arr_one (fun _ => rfl) rfl
theorem hC_one : hC.toArray.all (·.oneCell') = true := arr_one (fun _ => rfl) rfl
theorem tabs_set0 {w W : World} {p0 p1 : Nat} (h01 : p0 < p1) (hw : w.heap.size ≤ p0) (h : Blk W p0 kC 42 ∧ Blk W p1 hC 43 ∧ Below w.heap.size w W) : Blk (W.setCells p0 0 kC) p0 kC 42 ∧ Blk (W.setCells p0 0 kC) p1 hC 43 ∧ Below w.heap.size w (W.setCells p0 0 kC) :=
  ⟨h.1.setAll rfl, h.2.1.setAllOther (by omega), below_setAll h.2.2 hw _⟩
theorem tabs_set1 {w W : World} {p0 p1 : Nat} (h01 : p0 < p1) (hw : w.heap.size ≤ p0) (h : Blk W p0 kC 42 ∧ Blk W p1 hC 43 ∧ Below w.heap.size w W) : Blk (W.setCells p1 0 hC) p0 kC 42 ∧ Blk (W.setCells p1 0 hC) p1 hC 43 ∧ Below w.heap.size w (W.setCells p1 0 hC) :=
  ⟨h.1.setAllOther (by omega), h.2.1.setAll rfl, below_setAll h.2.2 (by omega) _⟩

set_option maxRecDepth 100000 in
set_option maxHeartbeats 4000000 in
theorem tables_any (w : World) : Calls Try.prog 29 #[] w fun e w' => e = .returned (.tuple #[.agg kC.toArray, .agg hC.toArray]) ∧ Below w.heap.size w w' := by
  have haz := arr64_run
  have hak := arr42_run
  have hah := arr43_run
  obtain ⟨V2, hV2⟩ : ∃ V, V = (w.alloc (Obj.cells z42 42)).alloc (Obj.cells z43 43) := ⟨_, rfl⟩
  obtain ⟨p0, hp0⟩ : ∃ p, p = w.heap.size := ⟨_, rfl⟩
  obtain ⟨p1, hp1⟩ : ∃ p, p = w.heap.size + 1 := ⟨_, rfl⟩
  have hA : Blk V2 p0 (arrC vk3 (.int .u32 0) 64 0) 42 := by rw [hV2, hp0]; exact (Blk.new w (List.replicate 64 (Value.int .u32 0)) _).alloc _
  have hX : Blk V2 p1 (arrC vk2 (.int .u32 0) 8 0) 43 := by
    have := Blk.new (w.alloc (Obj.cells z42 42)) (List.replicate 8 (Value.int .u32 0)) 43
    rw [World.size_alloc] at this
    rw [hV2, hp1]; exact this
  have hB : Below w.heap.size w V2 := by rw [hV2]; exact ((Below.refl _ _).alloc (Nat.le_refl _) _).alloc (by simp) _
  have h01 : p0 < p1 := by omega
  have HWP : Hid (w.heap.size ≤ p0) := Lib.hid (by omega)
  have H0 := Lib.hid (And.intro hA (And.intro hX hB))
  have HV2 := Lib.hid hV2
  have HP0 := Lib.hid hp0
  have HP1 := Lib.hid hp1
  clear hp0 hV2 hp1 hA hX hB
  go_enter Try.func29, Try.ntmps29
  go_upto_region 1 with fail
  rw [← HP1.out, ← HP0.out, ← HV2.out]
  go_wp2_with fail
  refine (primes_any V2).mono ?_
  rintro e w3 ⟨rfl, hb3⟩
  obtain ⟨p2, hp2⟩ : ∃ p, p = w3.heap.size := ⟨_, rfl⟩
  have HP2 := Lib.hid hp2
  have hZ : Blk (w3.alloc (Obj.cells zeros64 65)) p2 (pCells 0) 65 := by rw [hp2]; exact Blk.new w3 (pCells 0) _
  have HZ := Lib.hid hZ
  clear hp2 hZ
  go_wp2_with (refine wpList_store_mid rfl 65 _ _ rfl w3.heap.size 0 (pCells 64).toArray rfl rfl (by rw [← HP2.out]; exact HZ.out.thereA (by kernel_rfl)) (by kernel_rfl) (by kernel_rfl) ?_)
  -- loops
  have hZ4 := HZ.out.setAll (vs := pCells 64) (by kernel_rfl)
  obtain ⟨V4, hV4⟩ : ∃ V, V = (w3.alloc (Obj.cells zeros64 65)).setCells p2 0 (pCells 64) := ⟨_, rfl⟩
  rw [← HP2.out, ← hV4]
  rw [← hV4] at hZ4
  have hp2 : p1 < p2 := by rw [HP2.out]; exact Nat.lt_of_lt_of_le H0.out.2.1.lt hb3.size
  have hA4 : Blk V4 p0 (arrC vk3 (.int .u32 0) 64 0) 42 := by rw [hV4]; exact ((H0.out.1.below hb3 H0.out.1.lt).alloc _).setAllOther (by omega)
  have hX4 : Blk V4 p1 (arrC vk2 (.int .u32 0) 8 0) 43 := by rw [hV4]; exact ((H0.out.2.1.below hb3 H0.out.2.1.lt).alloc _).setAllOther (by omega)
  have hB4 : Below w.heap.size w V4 := by
    have h := (H0.out.2.2.trans (hb3.mono H0.out.2.2.size)).alloc (H0.out.2.2.trans (hb3.mono H0.out.2.2.size)).size (Obj.cells zeros64 65)
    rw [hV4]; exact below_setAll h (by have := HWP.out; omega) _
  have H4 := Lib.hid (And.intro hZ4 (And.intro hA4 (And.intro hX4 hB4)))
  clear hZ4 hV4 hA4 hX4 hB4 hb3 HZ H0 HV2 HP0 HP1
  go_loopw [6] (fun i wr => ∃ j : Nat, i = .int .i64 j ∧ j ≤ 64 ∧ Blk wr p2 (pCells 64) 65 ∧ Blk wr p0 (arrC vk3 (.int .u32 0) 64 j) 42 ∧ Blk wr p1 (arrC vk2 (.int .u32 0) 8 0) 43 ∧ Below w.heap.size w wr) (fun i _ => 64 - (intOf i).toNat)
  case atStart => exact ⟨0, by go_num, by omega, H4.out⟩
  case round =>
    clear H4
    obtain ⟨j, rfl, hj, h1, h2, h3, hB⟩ := hrel
    by_cases hlt : j < 64
    · obtain ⟨x, hx, hc, hx2, hx3⟩ := P64_get hlt
      have c0 := h1.cell (i := j) hc
      have c1 := h2.cell (i := j) (arrC_next hlt (by omega))
      have f1 := h2.frozen j
      have HR := Lib.hid (root3_any x (by omega) wr)
      have i3 : (j : Int) < 64 := by omega
      have i4 : (0 : Int) ≤ (j : Int) := by omega
      have H := Lib.hid (And.intro h1 (And.intro h2 (And.intro h3 hB)))
      have HX := Lib.hid hx
      clear h1 h2 h3 hB hx hc
      go_wp2_with fail
      refine HR.out.mono ?_
      rintro e w' ⟨rfl, rfl⟩
      have HN : Hid (Blk (wr.setCell ⟨p0, j, none⟩ (vk3 x)) p2 (pCells 64) 65 ∧ Blk (wr.setCell ⟨p0, j, none⟩ (vk3 x)) p0 (arrC vk3 (.int .u32 0) 64 (j + 1)) 42 ∧ Blk (wr.setCell ⟨p0, j, none⟩ (vk3 x)) p1 (arrC vk2 (.int .u32 0) 8 0) 43 ∧ Below w.heap.size w (wr.setCell ⟨p0, j, none⟩ (vk3 x))) := Lib.hid ⟨H.out.1.setOther (by simp only; omega) _, by rw [← arrC_set hlt (by omega) HX.out]; exact H.out.2.1.set j _, H.out.2.2.1.setOther (by simp only; omega) _, H.out.2.2.2.setCell (by have := HWP.out; simp only; omega) _⟩
      unfold vk3 at HN
      go_wp2
      go_roundw
      case rel => exact ⟨j + 1, by go_num, by omega, HN.out⟩
      case measure => simp [intOf]; omega
    · have hj64 : j = 64 := by omega
      rw [hj64] at h2
      have H := Lib.hid (And.intro h1 (And.intro h2 (And.intro h3 hB)))
      clear hj64
      clear h1 h2 h3 hB
      go_wp2_with fail
      go_loopw [16] (fun i wr => ∃ j : Nat, i = .int .i64 j ∧ j ≤ 8 ∧ Blk wr p2 (pCells 64) 65 ∧ Blk wr p0 kC 42 ∧ Blk wr p1 (arrC vk2 (.int .u32 0) 8 j) 43 ∧ Below w.heap.size w wr) (fun i _ => 8 - (intOf i).toNat)
      case atStart => exact ⟨0, by go_num, by omega, H.out⟩
      case round =>
        clear H
        obtain ⟨j, rfl, hj, h1, h2, h3, hB⟩ := hrel
        by_cases hlt : j < 8
        · obtain ⟨x, hx, hc, hx2, hx3⟩ := P64_get (n := j) (by omega)
          have hx19 := P64_8 ⟨j, hlt⟩ x hx
          have c0 := h1.cell (i := j) hc
          have c1 := h3.cell (i := j) (arrC_next hlt (by omega))
          have f1 := h3.frozen j
          have HR := Lib.hid (root2_any x (by omega) wr)
          have i3 : (j : Int) < 8 := by omega
          have i5 : (j : Int) < 64 := by omega
          have i4 : (0 : Int) ≤ (j : Int) := by omega
          have H := Lib.hid (And.intro h1 (And.intro h2 (And.intro h3 hB)))
          have HX := Lib.hid hx
          clear h1 h2 h3 hB hx hc
          go_wp2_with fail
          refine HR.out.mono ?_
          rintro e w' ⟨rfl, rfl⟩
          have HN : Hid (Blk (wr.setCell ⟨p1, j, none⟩ (vk2 x)) p2 (pCells 64) 65 ∧ Blk (wr.setCell ⟨p1, j, none⟩ (vk2 x)) p0 kC 42 ∧ Blk (wr.setCell ⟨p1, j, none⟩ (vk2 x)) p1 (arrC vk2 (.int .u32 0) 8 (j + 1)) 43 ∧ Below w.heap.size w (wr.setCell ⟨p1, j, none⟩ (vk2 x))) := Lib.hid ⟨H.out.1.setOther (by simp only; omega) _, H.out.2.1.setOther (by simp only; omega) _, by rw [← arrC_set hlt (by omega) HX.out]; exact H.out.2.2.1.set j _, H.out.2.2.2.setCell (by have := HWP.out; simp only; omega) _⟩
          unfold vk2 at HN
          go_wp2
          go_roundw
          case rel => exact ⟨j + 1, by go_num, by omega, HN.out⟩
          case measure => simp [intOf]; omega
        · have hj8 : j = 8 := by omega
          rw [hj8] at h3
          have hT : Blk wr p0 kC 42 ∧ Blk wr p1 hC 43 ∧ Below w.heap.size w wr := ⟨h2, h3, hB⟩
          clear h1 h2 h3 hB
          go_upto_region 12 with fail
          refine wp_region_any (by kernel_rfl) ?_
          have hT : Blk wr.drew p0 kC 42 ∧ Blk wr.drew p1 hC 43 ∧ Below w.heap.size w wr.drew := ⟨hT.1, hT.2.1, below_drewN' hT.2.2 1⟩
          change wpAny _ _ _ _ _ _ _ (World.drew _)
          refine wpAny_ready (rs := [0, 1]) (by kernel_rfl) (by simp) ?_
          refine AllReady.cons rfl (fun K hK => ?_) ?_
          ·
            refine sha_want rfl ?_
            refine wp_load_mid 42 _ rfl p0 0 rfl _ _ (sha_range hT.1) Try.underlying42 rfl (by kernel_rfl) ?_
            refine hK _ _ ?_
            clear hK K
            try simp only [Act.put, List.getElem_toArray, List.getElem_cons_succ, List.getElem_cons_zero, List.setIfInBounds_toArray, List.set_cons_zero, List.set_cons_succ]
            refine wpAny_ready (rs := [1, 2]) (by kernel_rfl) (by simp) ?_
            refine AllReady.cons rfl (fun K hK => ?_) ?_
            ·
              refine sha_want rfl ?_
              refine wp_load_mid 43 _ rfl p1 0 rfl _ _ (sha_range hT.2.1) Try.underlying43 rfl (by kernel_rfl) ?_
              refine hK _ _ ?_
              clear hK K
              try simp only [Act.put, List.getElem_toArray, List.getElem_cons_succ, List.getElem_cons_zero, List.setIfInBounds_toArray, List.set_cons_zero, List.set_cons_succ]
              refine wpAny_ready (rs := [2]) (by kernel_rfl) (by simp) ?_
              refine AllReady.cons rfl (fun K hK => ?_) ?_
              ·
                refine sha_want rfl ?_
                refine wp_store_mid 42 _ _ rfl p0 0 kC.toArray rfl rfl (hT.1.thereA (by kernel_rfl)) (by kernel_rfl) kC_one ?_
                refine hK _ _ ?_
                clear hK K
                replace hT := tabs_set0 h01 HWP.out hT
                generalize World.setCells _ p0 0 _ = W5 at hT ⊢
                try simp only [Act.put, List.getElem_toArray, List.getElem_cons_succ, List.getElem_cons_zero, List.setIfInBounds_toArray, List.set_cons_zero, List.set_cons_succ]
                refine wpAny_ready (rs := [3]) (by kernel_rfl) (by simp) ?_
                refine AllReady.cons rfl (fun K hK => ?_) ?_
                ·
                  refine sha_want rfl ?_
                  refine wp_store_mid 43 _ _ rfl p1 0 hC.toArray rfl rfl (hT.2.1.thereA (by kernel_rfl)) (by kernel_rfl) hC_one ?_
                  refine hK _ _ ?_
                  clear hK K
                  replace hT := tabs_set1 h01 HWP.out hT
                  generalize World.setCells _ p1 0 _ = W6 at hT ⊢
                  try simp only [Act.put, List.getElem_toArray, List.getElem_cons_succ, List.getElem_cons_zero, List.setIfInBounds_toArray, List.set_cons_zero, List.set_cons_succ]
                  refine wpAny_done (by kernel_rfl) ?_ _
                  go_wp2_with fail
                  refine bodyPost_ret (results_cell_cell rfl _ _ p0 p1 42 43 _ _ (0, 0) (0, 0) _ _ rfl hT.1 rfl hT.2.1 Try.underlying42 rfl (by kernel_rfl) Try.underlying43 rfl (by kernel_rfl)) rfl ?_
                  exact ⟨rfl, hT.2.2⟩
                exact AllReady.nil
              exact AllReady.nil
            refine AllReady.cons rfl (fun K hK => ?_) ?_
            ·
              refine sha_want rfl ?_
              refine wp_store_mid 42 _ _ rfl p0 0 kC.toArray rfl rfl (hT.1.thereA (by kernel_rfl)) (by kernel_rfl) kC_one ?_
              refine hK _ _ ?_
              clear hK K
              replace hT := tabs_set0 h01 HWP.out hT
              generalize World.setCells _ p0 0 _ = W5 at hT ⊢
              try simp only [Act.put, List.getElem_toArray, List.getElem_cons_succ, List.getElem_cons_zero, List.setIfInBounds_toArray, List.set_cons_zero, List.set_cons_succ]
              refine wpAny_ready (rs := [1]) (by kernel_rfl) (by simp) ?_
              refine AllReady.cons rfl (fun K hK => ?_) ?_
              ·
                refine sha_want rfl ?_
                refine wp_load_mid 43 _ rfl p1 0 rfl _ _ (sha_range hT.2.1) Try.underlying43 rfl (by kernel_rfl) ?_
                refine hK _ _ ?_
                clear hK K
                try simp only [Act.put, List.getElem_toArray, List.getElem_cons_succ, List.getElem_cons_zero, List.setIfInBounds_toArray, List.set_cons_zero, List.set_cons_succ]
                refine wpAny_ready (rs := [3]) (by kernel_rfl) (by simp) ?_
                refine AllReady.cons rfl (fun K hK => ?_) ?_
                ·
                  refine sha_want rfl ?_
                  refine wp_store_mid 43 _ _ rfl p1 0 hC.toArray rfl rfl (hT.2.1.thereA (by kernel_rfl)) (by kernel_rfl) hC_one ?_
                  refine hK _ _ ?_
                  clear hK K
                  replace hT := tabs_set1 h01 HWP.out hT
                  generalize World.setCells _ p1 0 _ = W6 at hT ⊢
                  try simp only [Act.put, List.getElem_toArray, List.getElem_cons_succ, List.getElem_cons_zero, List.setIfInBounds_toArray, List.set_cons_zero, List.set_cons_succ]
                  refine wpAny_done (by kernel_rfl) ?_ _
                  go_wp2_with fail
                  refine bodyPost_ret (results_cell_cell rfl _ _ p0 p1 42 43 _ _ (0, 0) (0, 0) _ _ rfl hT.1 rfl hT.2.1 Try.underlying42 rfl (by kernel_rfl) Try.underlying43 rfl (by kernel_rfl)) rfl ?_
                  exact ⟨rfl, hT.2.2⟩
                exact AllReady.nil
              exact AllReady.nil
            exact AllReady.nil
          refine AllReady.cons rfl (fun K hK => ?_) ?_
          ·
            refine sha_want rfl ?_
            refine wp_load_mid 43 _ rfl p1 0 rfl _ _ (sha_range hT.2.1) Try.underlying43 rfl (by kernel_rfl) ?_
            refine hK _ _ ?_
            clear hK K
            try simp only [Act.put, List.getElem_toArray, List.getElem_cons_succ, List.getElem_cons_zero, List.setIfInBounds_toArray, List.set_cons_zero, List.set_cons_succ]
            refine wpAny_ready (rs := [0]) (by kernel_rfl) (by simp) ?_
            refine AllReady.cons rfl (fun K hK => ?_) ?_
            ·
              refine sha_want rfl ?_
              refine wp_load_mid 42 _ rfl p0 0 rfl _ _ (sha_range hT.1) Try.underlying42 rfl (by kernel_rfl) ?_
              refine hK _ _ ?_
              clear hK K
              try simp only [Act.put, List.getElem_toArray, List.getElem_cons_succ, List.getElem_cons_zero, List.setIfInBounds_toArray, List.set_cons_zero, List.set_cons_succ]
              refine wpAny_ready (rs := [2]) (by kernel_rfl) (by simp) ?_
              refine AllReady.cons rfl (fun K hK => ?_) ?_
              ·
                refine sha_want rfl ?_
                refine wp_store_mid 42 _ _ rfl p0 0 kC.toArray rfl rfl (hT.1.thereA (by kernel_rfl)) (by kernel_rfl) kC_one ?_
                refine hK _ _ ?_
                clear hK K
                replace hT := tabs_set0 h01 HWP.out hT
                generalize World.setCells _ p0 0 _ = W5 at hT ⊢
                try simp only [Act.put, List.getElem_toArray, List.getElem_cons_succ, List.getElem_cons_zero, List.setIfInBounds_toArray, List.set_cons_zero, List.set_cons_succ]
                refine wpAny_ready (rs := [3]) (by kernel_rfl) (by simp) ?_
                refine AllReady.cons rfl (fun K hK => ?_) ?_
                ·
                  refine sha_want rfl ?_
                  refine wp_store_mid 43 _ _ rfl p1 0 hC.toArray rfl rfl (hT.2.1.thereA (by kernel_rfl)) (by kernel_rfl) hC_one ?_
                  refine hK _ _ ?_
                  clear hK K
                  replace hT := tabs_set1 h01 HWP.out hT
                  generalize World.setCells _ p1 0 _ = W6 at hT ⊢
                  try simp only [Act.put, List.getElem_toArray, List.getElem_cons_succ, List.getElem_cons_zero, List.setIfInBounds_toArray, List.set_cons_zero, List.set_cons_succ]
                  refine wpAny_done (by kernel_rfl) ?_ _
                  go_wp2_with fail
                  refine bodyPost_ret (results_cell_cell rfl _ _ p0 p1 42 43 _ _ (0, 0) (0, 0) _ _ rfl hT.1 rfl hT.2.1 Try.underlying42 rfl (by kernel_rfl) Try.underlying43 rfl (by kernel_rfl)) rfl ?_
                  exact ⟨rfl, hT.2.2⟩
                exact AllReady.nil
              exact AllReady.nil
            exact AllReady.nil
          exact AllReady.nil
end Go.Proofs.Ytjahdladcijhoaa
