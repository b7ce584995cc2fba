/- slices.Insert of one generation: the roads in place. Conditions: as named in each theorem. -/
import Derived.Test.YtgkcnocfijckoaaGreatSB
import Derived.Shelf.Spec.SlicesInsert
import Derived.Lib.AppendZerosOnto
import Derived.Laws.NewBlocks
import Derived.Deep.RegionHeld3
namespace Go.Proofs.YtgkcnocfijckoaaGreat
open Go.RowKit Sg Go.Shelf
set_option linter.unusedVariables false
set_option linter.unusedSimpArgs false
def sets : List Value → Nat → List Value → List Value
  | cs, _, [] => cs
  | cs, o, v :: r => sets (cs.set o v) (o + 1) r
theorem sets_len : ∀ (vs cs : List Value) (o : Nat), (sets cs o vs).length = cs.length
  | [], _, _ => rfl
  | v :: r, cs, o => by unfold sets; rw [sets_len r]; simp
theorem sets_eq : ∀ (vs cs : List Value) (o : Nat), o + vs.length ≤ cs.length → sets cs o vs = cs.take o ++ vs ++ cs.drop (o + vs.length)
  | [], cs, o, _ => by unfold sets; simp
  | v :: r, cs, o, h => by
    simp only [List.length_cons] at h
    unfold sets
    rw [sets_eq r (cs.set o v) (o + 1) (by simp; omega)]
    have h1 : (cs.set o v).take (o + 1) = cs.take o ++ [v] := by
      rw [List.take_add_one, List.take_set_of_le (Nat.le_refl _), List.getElem?_set_self (by omega)]; rfl
    have h2 : (cs.set o v).drop (o + 1 + r.length) = cs.drop (o + (r.length + 1)) := by
      rw [List.drop_set_of_lt (by omega), show o + 1 + r.length = o + (r.length + 1) by omega]
    rw [h1, h2]
    simp
theorem Blk.sets {w : World} {p : Nat} {cs : List Value} {t : TypeId} (h : Blk w p cs t) : ∀ (vs : List Value) (o : Nat), Blk (w.setCells p o vs) p (sets cs o vs) t := by
  intro vs
  induction vs generalizing w cs with
  | nil => intro o; exact h
  | cons v r ih => intro o; unfold World.setCells YtgkcnocfijckoaaGreat.sets; exact ih (h.set o v) (o + 1)
theorem Blk.setsFar {w : World} {p q : Nat} {cs : List Value} {t : TypeId} (h : Blk w p cs t) (hq : p ≠ q) : ∀ (vs : List Value) (o : Nat), Blk (w.setCells q o vs) p cs t := by
  intro vs
  induction vs generalizing w with
  | nil => intro o; exact h
  | cons v r ih => intro o; unfold World.setCells; exact ih (h.setOther hq v) (o + 1)
theorem Kept.sets {T : Nat → Prop} {w w' : World} (h : Kept T w w') {p : Nat} (hp : T p) : ∀ (vs : List Value) (o : Nat), Kept T w (w'.setCells p o vs) := by
  intro vs
  induction vs generalizing w' with
  | nil => intro o; exact h
  | cons v r ih => intro o; unfold World.setCells; exact ih (h.set hp o v) (o + 1)
theorem own_of_blk {w : World} {g n cap base size : Nat} {cs xs : List Value} {e : TypeId} (hB : Blk w g cs e) (hb : base ≤ g) (hn : n ≤ cap) (hcap : cap ≤ maxLen) (hs : cs.length = cap * size) (ht : cs.take (n * size) = xs) (hx : xs.length = n * size) :
    w.ownsRow base e size (.slice (some ⟨g, 0, none⟩) n cap) n xs :=
  ⟨hx, .inr ⟨g, cap, cs.toArray, rfl, hb, hB, hn, hcap, by simpa using hs, by simpa using ht⟩⟩
theorem blk_of_own {w : World} {base n size : Nat} {e : TypeId} {v : Value} {xs : List Value} (h : w.ownsRow base e size v n xs) : (v = .slice none 0 0 ∧ n = 0) ∨ ∃ g cap cs, v = .slice (some ⟨g, 0, none⟩) n cap ∧ base ≤ g ∧ Blk w g cs e ∧ n ≤ cap ∧ cap ≤ maxLen ∧ cs.length = cap * size ∧ cs.take (n * size) = xs := by
  rcases h.2 with h1 | ⟨g, cap, cur, h1, h2, h3, h4, h5, h6, h7⟩
  · exact .inl h1
  · exact .inr ⟨g, cap, cur.toList, h1, h2, by unfold Blk; simpa using h3, h4, h5, by simpa using h6, h7⟩
theorem run_copyK {P : Program} (w : World) (dT sT ty elem : TypeId) (b o dLen dCap : Nat) (a : Addr) (sLen sCap size : Nat) (cs : List Value)
    (hu : P.underlying dT = some (.slice elem)) (hs : (P.info? elem).map (·.size) = some size) (hn : cs.length = Nat.min sLen dLen * size)
    (hsrc : ∀ j v, cs[j]? = some v → w.cell? (a.add j) = some v) (hc : ∀ j, j < cs.length → (w.cell? ⟨b, o + j, none⟩).isSome = true) (hf : ∀ j, j < cs.length → w.frozen? ⟨b, o + j, none⟩ = false) (h1 : ∀ v ∈ cs, v.oneCell' = true) :
    (Builtin.copy_ #[dT, sT] ty #[.slice (some ⟨b, o, none⟩) dLen dCap, .slice (some a) sLen sCap]).run P w = .ok (goInt (Nat.min sLen dLen)) (w.setCells b o cs) := by
  have hl := run_loadCells_list (P := P) w a cs hsrc
  have hst := run_storeCells_cells (P := P) b o cs 0 w (by simpa using hc) (by simpa using hf) h1
  cases hq : P.info? elem with
  | none => simp [hq] at hs
  | some i =>
    have hi : i.size = size := by simpa [hq] using hs
    simp [Builtin.copy_, run_underlying hu, Builtin.lenOf, Builtin.firstCells, sizeOf, typeInfo, hq, hi, ← hn, hl, hst]
theorem Blk.some {w : World} {p : Nat} {cs : List Value} {t : TypeId} (h : Blk w p cs t) {j : Nat} (hj : j < cs.length) : (w.cell? ⟨p, j, none⟩).isSome = true := by
  rw [h.cell (List.getElem?_eq_getElem hj)]; rfl
theorem sizeGn (w : World) : (Go.sizeOf 92).run Tryz.prog w = .ok 4 w := by kernel_rfl
theorem underGs : Tryz.prog.underlying 86 = some (.slice 92) := by kernel_rfl
set_option maxHeartbeats 4000000 in
set_option maxRecDepth 100000 in
theorem insert_shift (w : World) (g n c i vb : Nat) (cs : List Value) (x : Gn) (hi : i < n) (hroom : n + 1 ≤ c) (hc63 : c ≤ 9223372036854775807) (hn : n ≤ 100000) (hvb : vb ≠ g) (hB : Blk w g cs 92) (hcl : cs.length = c * 4) (h1c : ∀ v ∈ cs.take (n * 4), v.oneCell' = true) (hV : Blk w vb x.c 92) :
    Calls Tryz.prog 94 #[.slice (some ⟨g, 0, none⟩) n c, .int .i64 i, .slice (some ⟨vb, 0, none⟩) 1 1] w fun e w' =>
      e = .returned (.slice (some ⟨g, 0, none⟩) (n + 1) c) ∧ w' = (w.drew.setCells g ((i + 1) * 4) ((cs.take (n * 4)).drop (i * 4))).setCells g (i * 4) x.c := by
  obtain ⟨i1, hj, hy0, hy1, hy2⟩ := info_parts infoGn
  have hsz : (Tryz.prog.info? 92).map (·.size) = some 4 := by rw [hj]; simp [hy1]
  obtain ⟨M, hM⟩ : ∃ M, M = (cs.take (n * 4)).drop (i * 4) := ⟨_, rfl⟩
  have hMl : M.length = (n - i) * 4 := by rw [hM, List.length_drop, List.length_take, hcl]; omega
  have hMg : ∀ j v, M[j]? = some v → w.cell? ⟨g, i * 4 + j, none⟩ = some v := fun j v h => by
    rw [hM, List.getElem?_drop, List.getElem?_take] at h
    split at h
    · exact hB.cell h
    · cases h
  have hM1 : ∀ v ∈ M, v.oneCell' = true := fun v hv => h1c v (List.mem_of_mem_drop (hM ▸ hv))
  rw [← hM]
  have hov : ∀ lb cb, (callFunc 117 #[.slice (some ⟨vb, 0, none⟩) 1 1, .slice (some ⟨g, (i + 1) * 4, none⟩) lb cb]).run Tryz.prog w = .ok (.value (.bool false)) w := fun lb cb => by
    rw [run_callFunc_extern (P := Tryz.prog) (f := 117) (fn := Tryz.f117) (by kernel_rfl) (by kernel_rfl) (by kernel_rfl) (by kernel_rfl) (e := Extern.SlicesOverlaps.overlaps #[86, 86] #[4]) (by kernel_rfl),
      Lib.run_overlaps_apart w 86 4 92 underGs 4 sizeGn ⟨vb, 0, none⟩ ⟨g, (i + 1) * 4, none⟩ 1 1 lb cb hvb 92 92 4 (c * 4) (by unfold World.shape?; rw [show w.heap[vb]? = _ from hV]; rfl) (by unfold World.shape?; rw [show w.heap[g]? = _ from hB]; simp [hcl]) (by omega) (hV.frozen 0) (hV.frozen 4)]
    rfl
  have hcp1 : ∀ ty dc sc, (Builtin.copy_ #[86, 86] ty #[.slice (some ⟨g, (i + 1) * 4, none⟩) (n - i) dc, .slice (some ⟨g, i * 4, none⟩) (n + 1 - i) sc]).run Tryz.prog w.drew = .ok (goInt ((n - i : Nat) : Int)) (w.drew.setCells g ((i + 1) * 4) M) := fun ty dc sc => by
    have h := run_copyK (P := Tryz.prog) w.drew 86 86 ty 92 g ((i + 1) * 4) (n - i) dc ⟨g, i * 4, none⟩ (n + 1 - i) sc 4 M underGs hsz (by rw [hMl]; congr 1; simp only [Nat.min_def]; split <;> omega)
      (fun j v hj => by rw [Addr.add_lit]; exact hMg j v hj)
      (fun j hj => (hB.drew).some (by rw [hcl]; omega)) (fun j hj => hB.drew.frozen _) hM1
    have e : Nat.min (n + 1 - i) (n - i) = n - i := by simp only [Nat.min_def]; split <;> omega
    rw [e] at h
    exact h
  obtain ⟨W1, hW1⟩ : ∃ W1, W1 = w.drew.setCells g ((i + 1) * 4) M := ⟨_, rfl⟩
  have hB1 : Blk W1 g (sets cs ((i + 1) * 4) M) 92 := by rw [hW1]; exact hB.drew.sets _ _
  have hV1 : Blk W1 vb x.c 92 := by rw [hW1]; exact hV.drew.setsFar hvb _ _
  have hcp2 : ∀ ty dc, (Builtin.copy_ #[86, 86] ty #[.slice (some ⟨g, i * 4, none⟩) (n + 1 - i) dc, .slice (some ⟨vb, 0, none⟩) 1 1]).run Tryz.prog W1 = .ok (goInt 1) (W1.setCells g (i * 4) x.c) := fun ty dc => by
    have e0 : Nat.min 1 (n + 1 - i) = 1 := by simp only [Nat.min_def]; split <;> omega
    have h := run_copyK (P := Tryz.prog) W1 86 86 ty 92 g (i * 4) (n + 1 - i) dc ⟨vb, 0, none⟩ 1 1 4 x.c underGs hsz (by rw [gn_len, e0])
      (fun j v hj => by rw [Addr.add_lit, Nat.zero_add]; exact hV1.cell hj)
      (fun j hj => hB1.some (by rw [sets_len, hcl]; rw [gn_len] at hj; omega)) (fun j hj => hB1.frozen _) (gn_one x)
    have e : Nat.min 1 (n + 1 - i) = 1 := by simp only [Nat.min_def]; split <;> omega
    rw [e] at h
    exact h
  rw [← hW1] at hcp1
  rw [← hW1]
  have hz2 : ¬ ((i : Int) = (n : Int)) := by omega
  have hw1 : IntKind.i64.wrap ((i : Int) + 1) = (i : Int) + 1 := by rw [IntKind.wrap_i64]; omega
  have hw2 : IntKind.i64.wrap ((n : Int) + 1) = (n : Int) + 1 := by rw [IntKind.wrap_i64]; omega
  have hb1 : (0 : Int) ≤ (i : Int) + 1 := by omega
  have hin : i ≤ n := by omega
  have htn : ((i : Int) + 1).toNat = i + 1 := by omega
  have htn2 : ((n : Int) + 1).toNat = n + 1 := by omega
  have hb2 : ¬ (c = i + 1) := by omega
  have hb3 : (i : Int) ≤ (n : Int) + 1 := by omega
  have hb4 : ¬ (c = i) := by omega
  have mixed : Tryz.prog.follows .mixedOrders = true := by kernel_rfl
  have HF := Lib.hid hW1
  clear hMg hM1 hMl hM hW1 hB1 hV1 hB hV h1c hj hy0 hy1 hy2 hsz
  go_enter Tryz.func94, Tryz.ntmps94
  go_wp2_with (simp only [hov])
  go_region_law_o (refine step_copy_runI rfl _ _ 86 86 rfl _ _ (by simp [Act.eval, Act.put]) (by simp [Act.eval, Act.put]) (hcp1 _ _ _) ?_)
  go_wp2_with (at_builtin; refine wpList_copy_runI _ rfl _ _ 86 86 rfl _ _ rfl rfl (hcp2 _ _) ?_)
  go_ret
  exact ⟨rfl, rfl⟩
end Go.Proofs.YtgkcnocfijckoaaGreat
namespace Go.Proofs.YtgkcnocfijckoaaGreat
open Go.RowKit Sg Go.Shelf
set_option linter.unusedVariables false
set_option linter.unusedSimpArgs false
theorem Kept.setsNew {T : Nat → Prop} {w w' : World} (h : Kept T w w') {q : Nat} (hq : w.heap.size ≤ q) : ∀ (vs : List Value) (o : Nat), Kept T w (w'.setCells q o vs) := by
  intro vs
  induction vs generalizing w' with
  | nil => intro o; exact h
  | cons v r ih => intro o; unfold World.setCells; exact ih (h.setNew hq o v) (o + 1)
set_option maxHeartbeats 4000000 in
set_option maxRecDepth 100000 in
theorem insert_end (w : World) (base : Nat) (v : Value) (n : Nat) (xs : List Value) (x : Gn) (vb : Nat) (hO : w.ownsRow base 92 4 v n xs) (hn : n ≤ 100000) (hV : Blk w vb x.c 92) (hbase : base ≤ w.heap.size) :
    Calls Tryz.prog 94 #[v, .int .i64 n, .slice (some ⟨vb, 0, none⟩) 1 1] w fun e w' => ∃ v', e = .returned v' ∧ w'.ownsRow base 92 4 v' (n + 1) (xs ++ x.c) ∧ w.grownBy w' v.ownBlock ∧ (v'.ownBlock = v.ownBlock ∨ v'.ownBlock = some w.heap.size) := by
  obtain ⟨i1, hj, hy0, hy1, hy2⟩ := info_parts infoGn
  obtain ⟨ao, cp, rfl⟩ := owns_slice hO
  have HO := Lib.hid hO
  have HV := Lib.hid hV
  have hu := underGs
  have hz1 : ((n : Int) == (n : Int)) = true := by simp
  clear hO hV
  go_enter Tryz.func94, Tryz.ntmps94
  go_wp2_with (at_builtin; refine wpList_append_own_at w rfl _ _ 86 rfl base 92 i1 _ 4 48 hu hj hy0 hy1 hy2 rfl (by decide) _ n xs rfl HO.out ⟨vb, 0, none⟩ 1 1 x.c rfl rfl (fun j u hu => by rw [Addr.add_lit, Nat.zero_add]; exact HV.out.cell hu) (gn_one x) (by unfold maxLen; omega) (by omega) hbase ?_)
  all_goals (
    intro v' w' h1 h2 _ h4
    have HF : Hid (w'.ownsRow base 92 4 v' (n + 1) (xs ++ x.c) ∧ w.grownBy w' (Value.slice ao n cp).ownBlock ∧ (v'.ownBlock = (Value.slice ao n cp).ownBlock ∨ v'.ownBlock = some w.heap.size)) := Lib.hid ⟨h1, by cases ao <;> exact h2, by cases ao <;> exact h4⟩
    clear h1 h2 h4
    go_wp2
    go_ret
    exact ⟨_, rfl, HF.out.1, by first | exact HF.out.2 | (have h3 := HF.out.2; cases ao <;> exact h3)⟩)
theorem size_zero (z : Array Value) (k : Nat) : (Builtin.zeroCells z k).size = k * z.size := by rw [size_zeroCells]
set_option maxHeartbeats 4000000 in
set_option maxRecDepth 100000 in
theorem insert_grow (w : World) (base g n c i vb : Nat) (cs : List Value) (x : Gn) (hi : i < n) (hnc : n ≤ c) (hroom : c < n + 1) (hn : n ≤ 100000) (hB : Blk w g cs 92) (hcl : cs.length = c * 4) (h1c : ∀ v ∈ cs.take (n * 4), v.oneCell' = true) (hV : Blk w vb x.c 92) (hbase : base ≤ w.heap.size) :
    Calls Tryz.prog 94 #[.slice (some ⟨g, 0, none⟩) n c, .int .i64 i, .slice (some ⟨vb, 0, none⟩) 1 1] w fun e w' =>
      ∃ G, e = .returned (.slice (some ⟨w.heap.size, 0, none⟩) (n + 1) G) ∧ w'.ownsRow base 92 4 (.slice (some ⟨w.heap.size, 0, none⟩) (n + 1) G) (n + 1) (cs.take (i * 4) ++ x.c ++ (cs.take (n * 4)).drop (i * 4)) ∧ Kept (fun _ => False) w w' := by
  obtain ⟨i0, hi0, hz0, hzs, hzb⟩ := info_parts infoGn
  have hsz : (Tryz.prog.info? 92).map (·.size) = some 4 := by rw [hi0]; simp [hzs]
  obtain ⟨Z, hZ⟩ : ∃ Z : Array Value, Z = (Value.agg #[.int .i64 0, .int .i64 0, .string ByteArray.empty, .string ByteArray.empty]).cells := ⟨_, rfl⟩
  have hZs : Z.size = 4 := by rw [hZ]; rfl
  obtain ⟨M, hM⟩ : ∃ M, M = (cs.take (n * 4)).drop (i * 4) := ⟨_, rfl⟩
  have hMl : M.length = (n - i) * 4 := by rw [hM, List.length_drop, List.length_take, hcl]; omega
  have hMg : ∀ j v, M[j]? = some v → cs[i * 4 + j]? = some v := fun j v h => by
    rw [hM, List.getElem?_drop, List.getElem?_take] at h
    split at h
    · exact h
    · cases h
  have hM1 : ∀ v ∈ M, v.oneCell' = true := fun v hv => h1c v (List.mem_of_mem_drop (hM ▸ hv))
  rw [← hM]
  have hold : (Builtin.firstCells i0.size i (.slice (some ⟨g, 0, none⟩) i c)).run Tryz.prog w.drew = .ok (cs.take (i * 4)).toArray w.drew := by
    rw [hzs]
    exact run_firstCells_some w.drew 4 i ⟨g, 0, none⟩ i c (cs.take (i * 4)) (by rw [List.length_take]; omega) (fun j v hj => by
      rw [Addr.add_lit, Nat.zero_add]
      rw [List.getElem?_take] at hj
      split at hj
      · exact hB.drew.cell hj
      · cases hj)
  have hkk : (n : Int) + 1 - (i : Int) = ((n + 1 - i : Nat) : Int) := by omega
  have hik : i + (n + 1 - i) = n + 1 := by omega
  have hrz : ∀ ty, (Builtin.append_ #[86, 3] ty #[.slice (some ⟨g, 0, none⟩) i c, .int .i64 ((n : Int) + 1 - (i : Int))]).run Tryz.prog w =
      .ok (.slice (some ⟨w.heap.size, 0, none⟩) (n + 1) (grownCap w (n + 1) c 92)) (w.drew.alloc (.cells ((cs.take (i * 4)).toArray ++ Builtin.zeroCells Z (n + 1 - i) ++ Builtin.zeroCells Z (grownCap w (n + 1) c 92 - (n + 1))) 92)) := fun ty => by
    have h := Lib.run_append_grow_zeros (P := Tryz.prog) w 86 3 ty 92 i0 _ .i64 .i64 underGs (by kernel_rfl) hi0 hz0 (some ⟨g, 0, none⟩) i c (cs.take (i * 4)) hold (n + 1 - i) (by omega) (by omega) (by omega) (by omega) (by rw [hzb]; omega) (by rw [hzb, hik]; exact growslice_fits hroom (by omega))
    rw [hik, ← hZ] at h
    rw [hkk]
    exact h
  have hGn : n + 1 ≤ grownCap w (n + 1) c 92 := grownCap_ge w _ _ _
  have hGm := grownCap_le_maxLen w (n + 1) c 92 (by unfold maxLen; omega)
  obtain ⟨G, hG⟩ : ∃ G, G = grownCap w (n + 1) c 92 := ⟨_, rfl⟩
  obtain ⟨ROW, hROW⟩ : ∃ ROW : Array Value, ROW = (cs.take (i * 4)).toArray ++ Builtin.zeroCells Z (n + 1 - i) ++ Builtin.zeroCells Z (G - (n + 1)) := ⟨_, rfl⟩
  rw [← hG] at hrz hGn hGm
  rw [← hROW] at hrz
  have hRs : ROW.toList.length = G * 4 := by
    rw [hROW]
    simp only [Array.length_toList, Array.size_append, List.size_toArray, List.length_take, size_zeroCells, hZs]
    rw [Nat.min_eq_left (by omega)]
    omega
  have hRt : ROW.toList.take (i * 4) = cs.take (i * 4) := by
    rw [hROW]
    simp only [Array.toList_append]
    rw [List.append_assoc, List.take_append_of_le_length (by simp; omega), List.take_of_length_le (by simp; omega)]
  have hN : Blk (w.drew.alloc (.cells ROW 92)) w.heap.size ROW.toList 92 := by
    have h := Blk.new w.drew ROW.toList 92
    simpa using h
  have hgN : g ≠ w.heap.size := Nat.ne_of_lt hB.lt
  have hvN : vb ≠ w.heap.size := Nat.ne_of_lt hV.lt
  have hcpA : ∀ (W : World) (cN : List Value), Blk W w.heap.size cN 92 → cN.length = G * 4 → Blk W vb x.c 92 → ∀ ty dc, (Builtin.copy_ #[86, 86] ty #[.slice (some ⟨w.heap.size, i * 4, none⟩) (n + 1 - i) dc, .slice (some ⟨vb, 0, none⟩) 1 1]).run Tryz.prog W = .ok (goInt 1) (W.setCells w.heap.size (i * 4) x.c) := fun W cN hB1 hcN hV1 ty dc => by
    have e0 : Nat.min 1 (n + 1 - i) = 1 := by simp only [Nat.min_def]; split <;> omega
    have h := run_copyK (P := Tryz.prog) W 86 86 ty 92 w.heap.size (i * 4) (n + 1 - i) dc ⟨vb, 0, none⟩ 1 1 4 x.c underGs hsz (by rw [gn_len, e0])
      (fun j v hj => by rw [Addr.add_lit, Nat.zero_add]; exact hV1.cell hj)
      (fun j hj => hB1.some (by rw [hcN]; rw [gn_len] at hj; omega)) (fun j hj => hB1.frozen _) (gn_one x)
    rw [e0] at h
    exact h
  have hcpB : ∀ (W : World) (cN : List Value), Blk W w.heap.size cN 92 → cN.length = G * 4 → Blk W g cs 92 → ∀ ty dc sc, (Builtin.copy_ #[86, 86] ty #[.slice (some ⟨w.heap.size, (i + 1) * 4, none⟩) (n - i) dc, .slice (some ⟨g, i * 4, none⟩) (n - i) sc]).run Tryz.prog W = .ok (goInt ((n - i : Nat) : Int)) (W.setCells w.heap.size ((i + 1) * 4) M) := fun W cN hB1 hcN hBg ty dc sc => by
    have e0 : Nat.min (n - i) (n - i) = n - i := Nat.min_self _
    have h := run_copyK (P := Tryz.prog) W 86 86 ty 92 w.heap.size ((i + 1) * 4) (n - i) dc ⟨g, i * 4, none⟩ (n - i) sc 4 M underGs hsz (by rw [hMl, e0])
      (fun j v hj => by rw [Addr.add_lit]; exact hBg.cell (hMg j v hj))
      (fun j hj => hB1.some (by rw [hcN]; omega)) (fun j hj => hB1.frozen _) hM1
    rw [e0] at h
    exact h
  have hz2 : ¬ ((i : Int) = (n : Int)) := by omega
  have hz3 : (c : Int) < (n : Int) + 1 := by omega
  have hw1 : IntKind.i64.wrap ((i : Int) + 1) = (i : Int) + 1 := by rw [IntKind.wrap_i64]; omega
  have hw2 : IntKind.i64.wrap ((n : Int) + 1) = (n : Int) + 1 := by rw [IntKind.wrap_i64]; omega
  have hw3 : IntKind.i64.wrap ((n : Int) + 1 - (i : Int)) = (n : Int) + 1 - (i : Int) := by rw [IntKind.wrap_i64]; omega
  have hb1 : (0 : Int) ≤ (i : Int) + 1 := by omega
  have hin : i ≤ n := by omega
  have htn : ((i : Int) + 1).toNat = i + 1 := by omega
  have hb3 : (i : Int) ≤ (n : Int) := by omega
  have hci : ¬ (c = i) := by omega
  have hGi : ¬ (G = i) := by omega
  have hGim : ¬ (G = i + 1) := by omega
  have hG63 : G ≤ 9223372036854775807 := by unfold maxLen at hGm; omega
  have mixed : Tryz.prog.follows .mixedOrders = true := by kernel_rfl
  have hE := sets_eq x.c ROW.toList (i * 4) (by rw [gn_len, hRs]; omega)
  have hF := sets_eq M (sets ROW.toList (i * 4) x.c) ((i + 1) * 4) (by rw [sets_len, hRs, hMl]; omega)
  have HOWN : Hid (∀ W, Blk W w.heap.size (sets (sets ROW.toList (i * 4) x.c) ((i + 1) * 4) M) 92 → W.ownsRow base 92 4 (.slice (some ⟨w.heap.size, 0, none⟩) (n + 1) G) (n + 1) (cs.take (i * 4) ++ x.c ++ M)) := Lib.hid (fun W hW => by
    have hl2 : (cs.take (i * 4) ++ x.c ++ M).length = (n + 1) * 4 := by simp only [List.length_append, List.length_take, gn_len, hMl]; omega
    refine own_of_blk hW hbase hGn hGm (by rw [sets_len, sets_len, hRs]) ?_ hl2
    have h3 : (sets ROW.toList (i * 4) x.c).take ((i + 1) * 4) = cs.take (i * 4) ++ x.c := by
      rw [hE, hRt, List.take_append_of_le_length (by simp only [List.length_append, List.length_take, gn_len]; omega), List.take_of_length_le (by simp only [List.length_append, List.length_take, gn_len]; omega)]
    rw [hF, h3, List.take_append_of_le_length (by rw [hl2]; exact Nat.le_refl _), List.take_of_length_le (by rw [hl2]; exact Nat.le_refl _)])
  have HRS : Hid ((sets ROW.toList (i * 4) x.c).length = G * 4) := Lib.hid (by rw [sets_len, hRs])
  have HRS0 := Lib.hid hRs
  have HN := Lib.hid hN
  have HB := Lib.hid hB
  have HV := Lib.hid hV
  clear hE hF hkk hik hold hROW hG hRs hRt hMg hM1 hMl hM h1c hN hB hV hsz hi0 hz0 hzs hzb hZ hZs
  obtain ⟨W1, hW1⟩ : ∃ W1, W1 = (w.alloc (.cells ROW 92)).drew := ⟨_, rfl⟩
  have hA : ∀ ty dc, (Builtin.copy_ #[86, 86] ty #[.slice (some ⟨w.heap.size, i * 4, none⟩) (n + 1 - i) dc, .slice (some ⟨vb, 0, none⟩) 1 1]).run Tryz.prog (w.alloc (.cells ROW 92)).drew = .ok (goInt 1) ((w.alloc (.cells ROW 92)).drew.setCells w.heap.size (i * 4) x.c) :=
    fun ty dc => hcpA _ ROW.toList (by exact HN.out) HRS0.out (by exact HV.out.drew.alloc _) ty dc
  have hB2 : ∀ ty dc sc, (Builtin.copy_ #[86, 86] ty #[.slice (some ⟨w.heap.size, (i + 1) * 4, none⟩) (n - i) dc, .slice (some ⟨g, i * 4, none⟩) (n - i) sc]).run Tryz.prog ((w.alloc (.cells ROW 92)).drew.setCells w.heap.size (i * 4) x.c).drew = .ok (goInt ((n - i : Nat) : Int)) (((w.alloc (.cells ROW 92)).drew.setCells w.heap.size (i * 4) x.c).drew.setCells w.heap.size ((i + 1) * 4) M) :=
    fun ty dc sc => hcpB _ (sets ROW.toList (i * 4) x.c) ((show Blk (w.alloc (.cells ROW 92)).drew w.heap.size ROW.toList 92 from HN.out).sets _ _).drew HRS.out (((show Blk (w.alloc (.cells ROW 92)).drew g cs 92 from HB.out.drew.alloc _).setsFar hgN _ _).drew) ty dc sc
  have HFB : Hid (Blk (((w.alloc (.cells ROW 92)).drew.setCells w.heap.size (i * 4) x.c).drew.setCells w.heap.size ((i + 1) * 4) M) w.heap.size (sets (sets ROW.toList (i * 4) x.c) ((i + 1) * 4) M) 92) := Lib.hid ((((show Blk (w.alloc (.cells ROW 92)).drew w.heap.size ROW.toList 92 from HN.out).sets _ _).drew).sets _ _)
  have HFK : Hid (Kept (fun _ => False) w (((w.alloc (.cells ROW 92)).drew.setCells w.heap.size (i * 4) x.c).drew.setCells w.heap.size ((i + 1) * 4) M)) := Lib.hid (((((Kept.of_below _ (below_alloc w _)).selfD).setsNew (Nat.le_refl _) _ _).selfD).setsNew (Nat.le_refl _) _ _)
  clear hcpA hcpB hW1 W1
  go_enter Tryz.func94, Tryz.ntmps94
  go_wp2_with (at_builtin; refine Lib.wpList_append_run _ rfl _ _ _ _ rfl _ _ rfl rfl _ _ (hrz _) ?_)
  go_region_law_o (refine step_copy_runI rfl _ _ 86 86 rfl _ _ (by simp [Act.eval, Act.put]) (by simp [Act.eval, Act.put]) (hB2 _ _ _) ?_)
  go_wp2
  go_ret
  exact ⟨G, rfl, HOWN.out _ HFB.out, HFK.out⟩
theorem take_flat (l : List Gn) (i : Nat) : (l.take i).flatMap Gn.c = (l.flatMap Gn.c).take (i * 4) := by
  induction l generalizing i with
  | nil => simp
  | cons g l ih =>
    cases i with
    | zero => simp
    | succ i =>
      rw [List.take_succ_cons, List.flatMap_cons, List.flatMap_cons, ih]
      have h := gn_len g
      rw [List.take_append, List.take_of_length_le (l := g.c) (by omega), h, show (i + 1) * 4 - 4 = i * 4 by omega]
theorem drop_flat (l : List Gn) (i : Nat) : (l.drop i).flatMap Gn.c = (l.flatMap Gn.c).drop (i * 4) := by
  induction l generalizing i with
  | nil => simp
  | cons g l ih =>
    cases i with
    | zero => simp
    | succ i =>
      rw [List.drop_succ_cons, List.flatMap_cons, ih]
      have h := gn_len g
      rw [List.drop_append, List.drop_of_length_le (l := g.c) (by omega), h, List.nil_append, show (i + 1) * 4 - 4 = i * 4 by omega]
theorem gnFlat_len (l : List Gn) : (l.flatMap Gn.c).length = l.length * 4 := by
  induction l with
  | nil => rfl
  | cons g l ih => rw [List.flatMap_cons, List.length_append, ih, gn_len, List.length_cons]; omega
theorem flat_one (l : List Gn) : ∀ u ∈ l.flatMap Gn.c, u.oneCell' = true := by
  intro u hu
  rw [List.mem_flatMap] at hu
  obtain ⟨g, _, hg⟩ := hu
  exact gn_one g u hg
theorem insert_any (w : World) (base : Nat) (v : Value) (l : List Gn) (x : Gn) (i vb : Nat) (hi : i ≤ l.length) (hn : l.length ≤ 100000) (hO : w.ownsRow base 92 4 v l.length (l.flatMap Gn.c)) (hV : Blk w vb x.c 92) (hvb : v.ownBlock ≠ some vb) (hbase : base ≤ w.heap.size) :
    Calls Tryz.prog 94 #[v, .int .i64 i, .slice (some ⟨vb, 0, none⟩) 1 1] w fun e w' => ∃ v', e = .returned v' ∧ w'.ownsRow base 92 4 v' (l.length + 1) ((l.take i ++ x :: l.drop i).flatMap Gn.c) ∧ Kept (fun k => v.ownBlock = some k) w w' ∧ (v'.ownBlock = v.ownBlock ∨ v'.ownBlock = some w.heap.size) := by
  have hE : (l.take i ++ x :: l.drop i).flatMap Gn.c = (l.flatMap Gn.c).take (i * 4) ++ x.c ++ (l.flatMap Gn.c).drop (i * 4) := by
    rw [List.flatMap_append, List.flatMap_cons, take_flat, drop_flat, List.append_assoc]
  rw [hE]
  by_cases hil : i = l.length
  · subst hil
    refine (insert_end w base v l.length _ x vb hO hn hV hbase).mono ?_
    rintro e w' ⟨v', rfl, h1, h2, h3⟩
    refine ⟨v', rfl, ?_, Kept.of_grown h2, h3⟩
    rw [List.take_of_length_le (by rw [gnFlat_len]; exact Nat.le_refl _), List.drop_of_length_le (by rw [gnFlat_len]; exact Nat.le_refl _), List.append_nil]
    exact h1
  · have hlt : i < l.length := by omega
    rcases blk_of_own hO with ⟨_, h0⟩ | ⟨g, cap, cs, rfl, hbg, hB, hnc, hcm, hcl, hct⟩
    · omega
    · have h1c : ∀ u ∈ cs.take (l.length * 4), u.oneCell' = true := by rw [hct]; exact flat_one l
      by_cases hroom : l.length + 1 ≤ cap
      · have hvg : vb ≠ g := fun e => hvb (by rw [e]; rfl)
        refine (insert_shift w g l.length cap i vb cs x hlt hroom (by unfold maxLen at hcm; omega) hn hvg hB hcl h1c hV).mono ?_
        rintro e w' ⟨rfl, rfl⟩
        rw [hct]
        have hML : ((l.flatMap Gn.c).drop (i * 4)).length = (l.length - i) * 4 := by rw [List.length_drop, gnFlat_len]; omega
        refine ⟨_, rfl, ?_, ?_, .inl rfl⟩
        · have hl2 : ((l.flatMap Gn.c).take (i * 4) ++ x.c ++ (l.flatMap Gn.c).drop (i * 4)).length = (l.length + 1) * 4 := by
            simp only [List.length_append, List.length_take, gnFlat_len, gn_len, hML]; omega
          refine own_of_blk (((hB.drew).sets _ _).sets _ _) hbg hroom hcm (by rw [sets_len, sets_len, hcl]) ?_ hl2
          have e1 := sets_eq ((l.flatMap Gn.c).drop (i * 4)) cs ((i + 1) * 4) (by rw [hML, hcl]; omega)
          have e2 := sets_eq x.c (sets cs ((i + 1) * 4) ((l.flatMap Gn.c).drop (i * 4))) (i * 4) (by rw [sets_len, gn_len, hcl]; omega)
          have e3 : (sets cs ((i + 1) * 4) ((l.flatMap Gn.c).drop (i * 4))).take (i * 4) = (l.flatMap Gn.c).take (i * 4) := by
            rw [e1, ← hct, List.append_assoc, List.take_append_of_le_length (by rw [List.length_take, hcl]; omega), List.take_take, List.take_take, Nat.min_eq_left (by omega), Nat.min_eq_left (by omega)]
          have e4 : (sets cs ((i + 1) * 4) ((l.flatMap Gn.c).drop (i * 4))).drop (i * 4 + x.c.length) = (l.flatMap Gn.c).drop (i * 4) ++ cs.drop ((i + 1) * 4 + ((l.flatMap Gn.c).drop (i * 4)).length) := by
            rw [e1, gn_len, List.append_assoc, List.drop_append, List.drop_of_length_le (by rw [List.length_take, hcl]; omega), List.nil_append, List.length_take, hcl, Nat.min_eq_left (by omega), show i * 4 + 4 - (i + 1) * 4 = 0 by omega, List.drop_zero]
          rw [e2, e3, e4, ← List.append_assoc, List.take_append_of_le_length (by rw [hl2]; exact Nat.le_refl _), List.take_of_length_le (by rw [hl2]; exact Nat.le_refl _)]
        · exact Kept.sets (T := fun k => (Value.slice (some ⟨g, 0, none⟩) l.length cap).ownBlock = some k) (p := g) (Kept.sets (T := fun k => (Value.slice (some ⟨g, 0, none⟩) l.length cap).ownBlock = some k) (p := g) (Kept.selfD (Kept.refl _ _)) rfl _ _) rfl _ _
      · refine (insert_grow w base g l.length cap i vb cs x hlt hnc (by omega) hn hB hcl h1c hV hbase).mono ?_
        rintro e w' ⟨G, rfl, h1, h2⟩
        refine ⟨_, rfl, ?_, h2.mono (fun _ _ h => h.elim), .inr rfl⟩
        have e1 : cs.take (i * 4) = (l.flatMap Gn.c).take (i * 4) := by rw [← hct, List.take_take, Nat.min_eq_left (by omega)]
        rw [e1, hct] at h1
        exact h1
end Go.Proofs.YtgkcnocfijckoaaGreat
namespace Go.Proofs.YtgkcnocfijckoaaGreat
open Go.RowKit Sg
set_option linter.unusedVariables false
set_option linter.unusedSimpArgs false
/-- what set leaves: the store with one generation put in -/
def SetP (ps p base : Nat) (v : Value) (l : List Gn) (x : Gn) (w w' : World) : Prop :=
  ∃ v', StB w' ps p base v' (setN l x) ∧ Kept (fun k => k = ps ∨ v.ownBlock = some k) w w' ∧ (v'.ownBlock = v.ownBlock ∨ ∃ k, v'.ownBlock = some k ∧ w.heap.size ≤ k)
theorem setGn_row {w : World} {base g c i : Nat} {cs : List Value} {l : List Gn} {x : Gn} (hB : Blk w g cs 92) (hb : base ≤ g) (hnc : l.length ≤ c) (hcm : c ≤ maxLen) (hcl : cs.length = c * 4) (hct : cs.take (l.length * 4) = l.flatMap Gn.c) (hi : i < l.length) :
    ((((w.setCell ⟨g, i * 4, none⟩ (.int .i64 x.gen)).setCell ⟨g, i * 4 + 1, none⟩ (.int .i64 x.basis)).setCell ⟨g, i * 4 + 2, none⟩ (.string x.mark)).setCell ⟨g, i * 4 + 3, none⟩ (.string x.text)).ownsRow base 92 4 (.slice (some ⟨g, 0, none⟩) l.length c) (l.set i x).length ((l.set i x).flatMap Gn.c) := by
  have h := hB.sets x.c (i * 4)
  have hl2 : ((l.set i x).flatMap Gn.c).length = l.length * 4 := by rw [gnFlat_len, List.length_set]
  rw [List.length_set]
  refine own_of_blk (cs := sets cs (i * 4) x.c) h hb hnc hcm (by rw [sets_len, hcl]) ?_ hl2
  have e0 : i * 4 + x.c.length = (i + 1) * 4 := by rw [gn_len]; omega
  rw [sets_eq x.c cs (i * 4) (by rw [gn_len, hcl]; omega), e0, List.set_eq_take_append_cons_drop, if_pos hi, List.flatMap_append, List.flatMap_cons, take_flat, drop_flat, ← hct, List.append_assoc,
    List.take_append, List.take_of_length_le (l := cs.take (i * 4)) (by rw [List.length_take, hcl]; omega), List.take_append, List.take_of_length_le (l := x.c) (by rw [gn_len, List.length_take, hcl]; omega), List.length_take, hcl, gn_len, Nat.min_eq_left (by omega), List.take_drop, List.take_take, Nat.min_eq_left (by omega)]
  have e9 : (i + 1) * 4 + (l.length * 4 - i * 4 - 4) = l.length * 4 := by omega
  rw [e9]
set_option maxRecDepth 100000 in
set_option maxHeartbeats 4000000 in
theorem stSet_any (w : World) (ps p base : Nat) (v : Value) (l : List Gn) (x : Gn) (h : StB w ps p base v l) (hl : l.length ≤ 4096) (hpb : ps < base) (hbw : base ≤ w.heap.size) :
    Calls Tryz.prog 71 #[.pointer (some ⟨ps, 0, none⟩), .agg #[.int .i64 x.gen, .int .i64 x.basis, .string x.mark, .string x.text]] w fun e w' => (∃ r, e = .returned r) ∧ SetP ps p base v l x w w' := by
  obtain ⟨V, hV⟩ : ∃ V, V = w.alloc (Obj.cells #[.int .i64 x.gen, .int .i64 x.basis, .string x.mark, .string x.text] 92) := ⟨_, rfl⟩
  obtain ⟨q, hq⟩ : ∃ q, q = w.heap.size := ⟨_, rfl⟩
  have hB : Blk V q [.int .i64 x.gen, .int .i64 x.basis, .string x.mark, .string x.text] 92 := by rw [hV, hq]; exact Blk.new _ _ _
  have hbV : Below w.heap.size w V := by rw [hV]; exact below_alloc _ _
  have q0 := hB.cell (i := 0) rfl
  have HPL := Lib.hid (stPlace_b V ps p base v l x.gen (h.next hbV) (by omega))
  obtain ⟨K, hK⟩ : ∃ K, K = atN l x.gen := ⟨_, rfl⟩
  obtain ⟨F, hF⟩ : ∃ F, F = hasN l x.gen := ⟨_, rfl⟩
  rw [← hK, ← hF] at HPL
  have HK := Lib.hid (And.intro hK hF)
  have HV := Lib.hid (And.intro hV hq)
  have HB := Lib.hid hB
  have HBV := Lib.hid hbV
  have HST := Lib.hid h
  obtain ⟨P, hP⟩ : ∃ P : World → Prop, P = SetP ps p base v l x w := ⟨_, rfl⟩
  rw [← hP]
  have HP := Lib.hid hP
  clear hV hq hB hbV hK hF h hP
  go_enter Tryz.func71, Tryz.ntmps71
  go_upto_region 1 with fail
  rw [← HV.out.1, ← HV.out.2]
  go_wp2_with fail
  refine HPL.out.mono ?_
  rintro e w2 ⟨rfl, hb2⟩
  have hB2 := HB.out.below hb2 HB.out.lt
  have hb02 := bl_nx HBV.out hb2
  have hSt2 := HST.out.next hb02
  have HB02 := Lib.hid hb02
  have q0 := hB2.cell (i := 0) rfl
  have q1 := hB2.cell (i := 1) rfl
  have q2 := hB2.cell (i := 2) rfl
  have q3 := hB2.cell (i := 3) rfl
  have s1 := hSt2.1.cell (i := 1) rfl
  have s1f := hSt2.1.frozen 1
  cases F
  case true =>
    obtain ⟨g, hg, hgn⟩ := hasN_at HK.out.2.symm
    rw [← HK.out.1] at hg
    have hKl : K < l.length := (List.getElem?_eq_some_iff.1 hg).1
    rcases blk_of_own hSt2.2 with ⟨_, h0⟩ | ⟨r, c, cs, rfl, hbr, hR, hnc, hcm, hcl, hct⟩
    · omega
    · have hcK : ∀ j, j < 4 → ∃ u, w2.cell? ⟨r, K * 4 + j, none⟩ = some u := fun j hj => ⟨_, hR.cell (List.getElem?_eq_getElem (by rw [hcl]; omega))⟩
      obtain ⟨u0, c0⟩ := hcK 0 (by omega)
      obtain ⟨u1, c1⟩ := hcK 1 (by omega)
      obtain ⟨u2, c2⟩ := hcK 2 (by omega)
      obtain ⟨u3, c3⟩ := hcK 3 (by omega)
      rw [Nat.add_zero] at c0
      have f0 := hR.frozen (K * 4)
      have f1 := hR.frozen (K * 4 + 1)
      have f2 := hR.frozen (K * 4 + 2)
      have f3 := hR.frozen (K * 4 + 3)
      obtain ⟨N, hN⟩ : ∃ N, N = l.length := ⟨_, rfl⟩
      have i2 : (K : Int) < (N : Int) := by omega
      have HR := Lib.hid (And.intro hR (And.intro hbr (And.intro hnc (And.intro hcm (And.intro hcl (And.intro hct hKl))))))
      rw [← hN] at s1
      have HN := Lib.hid hN
      have HS2 := Lib.hid hSt2
      clear hcK hg hgn hR hbr hnc hcm hcl hct hKl hN hSt2
      go_upto_region 3 with fail
      go_region
      obtain ⟨W, hW⟩ : ∃ W, W = ((((w2.setCell ⟨r, K * 4, none⟩ (.int .i64 x.gen)).setCell ⟨r, K * 4 + 1, none⟩ (.int .i64 x.basis)).setCell ⟨r, K * 4 + 2, none⟩ (.string x.mark)).setCell ⟨r, K * 4 + 3, none⟩ (.string x.text)).drew := ⟨_, rfl⟩
      rw [← hW]
      have HF : Hid (P W) := Lib.hid (by
        rw [HP.out, hW]
        obtain ⟨hR, hbr, hnc, hcm, hcl, hct, hKl⟩ := HR.out
        have hrow := setGn_row (x := x) hR hbr hnc hcm hcl hct hKl
        have hpr : ps ≠ r := by omega
        have hes : setN l x = l.set K x := by unfold setN; rw [← HK.out.2, ← HK.out.1]; rfl
        refine ⟨.slice (some ⟨r, 0, none⟩) l.length c, ⟨?_, ?_⟩, ?_, .inl rfl⟩
        · exact ((((HS2.out.1.setOther hpr _).setOther hpr _).setOther hpr _).setOther hpr _).drew
        · rw [hes]; exact hrow
        · have hk0 : Kept (fun k => k = ps ∨ (Value.slice (some ⟨r, 0, none⟩) l.length c).ownBlock = some k) w w2 := Kept.of_below _ HB02.out
          exact ((((hk0.set (p := r) (.inr rfl) _ _).set (p := r) (.inr rfl) _ _).set (p := r) (.inr rfl) _ _).set (p := r) (.inr rfl) _ _).selfD)
      clear hW
      go_wp2
      refine bodyPost_ret (results_none rfl _ _ _) rfl ?_
      exact ⟨⟨_, rfl⟩, HF.out⟩
  case false =>
    obtain ⟨va, vc, rfl⟩ := owns_slice hSt2.2
    have hKl : K ≤ l.length := by rw [HK.out.1]; exact atN_le l x.gen
    obtain ⟨NL, hNL⟩ : ∃ N, N = l.length := ⟨_, rfl⟩
    rw [← hNL] at s1
    have HIN : Hid (∀ vb W, Below w2.heap.size w2 W → Blk W vb x.c 92 → w2.heap.size ≤ vb → Calls Tryz.prog 94 #[.slice va NL vc, .int .i64 K, .slice (some ⟨vb, 0, none⟩) 1 1] W fun e w' => ∃ v', e = .returned v' ∧ w'.ownsRow base 92 4 v' (l.length + 1) ((l.take K ++ x :: l.drop K).flatMap Gn.c) ∧ Kept (fun k => (Value.slice va l.length vc).ownBlock = some k) W w' ∧ (v'.ownBlock = (Value.slice va l.length vc).ownBlock ∨ v'.ownBlock = some W.heap.size)) := Lib.hid (fun vb W hW hV hvb => by rw [hNL]; exact insert_any W base _ l x K vb hKl (by omega) (hSt2.next hW).2 hV (fun e => by have := (World.ownsRow.lt hSt2.2 vb e).2; omega) (Nat.le_trans hbw (Nat.le_trans hb02.size hW.size)))
    have HS2 := Lib.hid hSt2
    have hAL : Hid (∀ o : Obj, Below w2.heap.size w2 (w2.drew.alloc o)) := Lib.hid (fun o => (Below.refl _ _).drew.trans ((below_alloc w2.drew o).mono (Nat.le_refl _)))
    have hpl : ps < w2.heap.size := hSt2.lt
    have hpv : ¬ (Value.slice va l.length vc).ownBlock = some ps := fun e => by have := (World.ownsRow.lt hSt2.2 ps e).1; omega
    have HKL := Lib.hid hKl
    have HSB : Hid (Blk w2 ps [.pointer (some ⟨p, 0, none⟩), .slice va NL vc] 88) := Lib.hid (by rw [hNL]; exact hSt2.1)
    have hqe : q = w.heap.size := HV.out.2
    have hql : q < w2.heap.size := hB2.lt
    have hqv : ¬ (Value.slice va l.length vc).ownBlock = some q := fun e => by have := (World.ownsRow.lt HST.out.2 q e).2; omega
    have nqp : w2.heap.size ≠ ps := by omega
    have nqq : w2.heap.size ≠ q := by omega
    have HB2 := Lib.hid hB2
    have HNL := Lib.hid hNL
    clear hSt2 hKl hqe hB2 hNL
    go_upto_region 4 with fail
    go_region_with (first
        | (go_at_call 94; refine (HIN.out w2.heap.size (w2.drew.alloc _) (hAL.out _) (Blk.new w2.drew x.c _) (Nat.le_refl _)).mono ?_; rintro e w6 ⟨v6, rfl, hO6, hk6, hv6⟩; obtain ⟨a6, k6, rfl⟩ := owns_slice hO6; have hP6 := blkKept (HSB.out.below (hAL.out _) hpl) hk6 hpv; have hQ6 := blkKept (HB2.out.below (hAL.out _) hql) hk6 hqv; replace s1 := hP6.cell (i := 1) rfl; replace s1f := hP6.frozen 1; replace q0 := hQ6.cell (i := 0) rfl; replace q1 := hQ6.cell (i := 1) rfl; replace q2 := hQ6.cell (i := 2) rfl; replace q3 := hQ6.cell (i := 3) rfl))
    all_goals (
      obtain ⟨W, hW⟩ : ∃ W, W = w6.setCell ⟨ps, 1, none⟩ (.slice a6 (l.length + 1) k6) := ⟨_, rfl⟩
      rw [← hW]
      have HF : Hid (P W) := Lib.hid (by
        rw [HP.out, hW]
        have hes : setN l x = l.take K ++ x :: l.drop K := by unfold setN; rw [← HK.out.2, ← HK.out.1]; rfl
        have hln : (l.take K ++ x :: l.drop K).length = l.length + 1 := by
          have := HKL.out
          rw [List.length_append, List.length_cons, List.length_take, List.length_drop]; omega
        have hkk : Kept (fun k => k = ps ∨ (Value.slice va l.length vc).ownBlock = some k) w w6 := ((Kept.of_below _ HB02.out).trans (Kept.of_below (fun k => k = ps ∨ (Value.slice va l.length vc).ownBlock = some k) (hAL.out _)) (fun _ _ h => h)).trans hk6 (fun _ _ h => .inr h)
        refine ⟨.slice a6 (l.length + 1) k6, ⟨hP6.set 1 _, ?_⟩, hkk.set (p := ps) (.inl rfl) _ _, ?_⟩
        · rw [hes, hln]
          exact World.ownsRow.kept hO6 (grown_set (grown_refl w6 (some ps)) 1 _) (.inr (fun e => by have := (World.ownsRow.lt hO6 ps e).1; omega))
        · rcases hv6 with h1 | h1
          · exact .inl h1
          · exact .inr ⟨_, h1, Nat.le_trans HB02.out.size (hAL.out _).size⟩)
      clear hW
      go_wp2
      go_end0
      exact ⟨⟨_, rfl⟩, HF.out⟩)
end Go.Proofs.YtgkcnocfijckoaaGreat
namespace Go.Proofs.YtgkcnocfijckoaaGreat
open Go.RowKit Sg
set_option linter.unusedVariables false
set_option linter.unusedSimpArgs false
set_option maxRecDepth 100000 in
set_option maxHeartbeats 1000000 in
theorem stImage_any (w : World) (ps p m base : Nat) (v : Value) (S : Bk) (l : List Gn) (im : Int → ByteArray) (h : StB w ps p base v l) (hI : BookI w p m S) (hinv : Inv S l im) (hS : S.length ≤ 90000000) (hm : m < base) (hbw : base ≤ w.heap.size) (hps : ps ≠ m) (n : Int) :
    Calls Tryz.prog 33 #[.pointer (some ⟨ps, 0, none⟩), .int .i64 n] w fun e w' => e = .returned (.tuple #[.string (if hasN l n = true then im n else ByteArray.empty), .int .i64 (if hasN l n = true then 0 else 8)]) ∧ BookI w' p m S ∧ Kept (fun k => some m = some k) w w' := by
  have HM := Lib.hid (made_any w ps p m base v S l im h hI hinv hS hm hbw hps n)
  have HNO := Lib.hid (none_any w ps p base v l h)
  obtain ⟨T, hT⟩ : ∃ T, T = (if hasN l n = true then im n else ByteArray.empty) := ⟨_, rfl⟩
  obtain ⟨E, hE⟩ : ∃ E : Int, E = (if hasN l n = true then 0 else 8) := ⟨_, rfl⟩
  rw [← hT, ← hE]
  rw [← hT, ← hE] at HM
  clear hT hE h hI hinv
  go_enter Tryz.func33, Tryz.ntmps33
  go_wp2_with fail
  refine HNO.out.mono ?_
  rintro e w' ⟨rfl, rfl⟩
  go_wp2_with fail
  refine HM.out.mono ?_
  rintro e w2 ⟨rfl, hI2, hk2⟩
  have HF := Lib.hid (And.intro hI2 hk2)
  clear hI2 hk2
  go_wp2
  go_ret2
  exact ⟨rfl, HF.out.1, by first | exact HF.out.2 | exact kept_eq HF.out.2⟩
def recG (f c : Nat) : ByteArray := (⟨#[71]⟩ : ByteArray) ++ numBs f ++ numBs c
def GnOk (f c : Int) : Prop := 0 ≤ f ∧ f ≤ c ∧ c ≤ 4611686018427387903
def GnP (f c : Int) (w : World) (e : Ending) (w' : World) : Prop :=
  Below w.heap.size w w' ∧ ((¬ GnOk f c ∧ e = .returned (.tuple #[.string ByteArray.empty, .int .i64 2])) ∨ (GnOk f c ∧ e = .returned (.tuple #[.string (recG f.toNat c.toNat), .int .i64 0])))
set_option maxRecDepth 100000 in
set_option maxHeartbeats 1000000 in
theorem stGone_any (w : World) (f c : Int) (wf : (Lit.int .i64 f).wf = true) (wc : (Lit.int .i64 c).wf = true) :
    Calls Tryz.prog 90 #[.int .i64 f, .int .i64 c] w (GnP f c w) := by
  by_cases h0 : f < 0
  case pos =>
    have d0 : decide (f < 0) = true := decide_eq_true h0
    have HN : Hid (¬ GnOk f c) := Lib.hid (fun h => by have := h.1; omega)
    clear h0
    go_enter Tryz.func90, Tryz.ntmps90
    go_wp2
    go_ret2
    exact ⟨Below.refl _ _, .inl ⟨HN.out, rfl⟩⟩
  have d0 : decide (f < 0) = false := decide_eq_false h0
  by_cases h1 : c < f
  case pos =>
    have d1 : decide (c < f) = true := decide_eq_true h1
    have HN : Hid (¬ GnOk f c) := Lib.hid (fun h => by have := h.2.1; omega)
    clear h0 h1
    go_enter Tryz.func90, Tryz.ntmps90
    go_wp2
    go_ret2
    exact ⟨Below.refl _ _, .inl ⟨HN.out, rfl⟩⟩
  have d1 : decide (c < f) = false := decide_eq_false h1
  by_cases h2 : 4611686018427387903 < c
  case pos =>
    have d2 : decide (4611686018427387903 < c) = true := decide_eq_true h2
    have HN : Hid (¬ GnOk f c) := Lib.hid (fun h => by have := h.2.2; omega)
    clear h0 h1 h2
    go_enter Tryz.func90, Tryz.ntmps90
    go_wp2
    go_ret2
    exact ⟨Below.refl _ _, .inl ⟨HN.out, rfl⟩⟩
  have d2 : decide (4611686018427387903 < c) = false := decide_eq_false h2
  have HN : Hid (GnOk f c) := Lib.hid ⟨by omega, by omega, by omega⟩
  obtain ⟨a, rfl⟩ : ∃ a : Nat, f = a := ⟨f.toNat, by omega⟩
  obtain ⟨b, rfl⟩ : ∃ b : Nat, c = b := ⟨c.toNat, by omega⟩
  have HA := Lib.hid (num_any a w (by omega))
  have HB : Hid (∀ W, Calls Tryz.prog 45 #[.int .i64 (b : Int)] W fun e w' => e = .returned (.tuple #[.string (numBs b), .int .i64 (0 : Nat)]) ∧ Below W.heap.size W w') := Lib.hid (fun W => num_any b W (by omega))
  have hal : (numBs a).size ≤ 9 := by rw [numBs_size]; exact numL_le9 a (by omega)
  have hbl : (numBs b).size ≤ 9 := by rw [numBs_size]; exact numL_le9 b (by omega)
  have d3 : decide (b < a) = false := decide_eq_false (by omega)
  clear h0 h1 h2
  go_enter Tryz.func90, Tryz.ntmps90
  go_wp2_with fail
  refine HA.out.mono ?_
  rintro e w2 ⟨rfl, hb2⟩
  have HB2 := Lib.hid hb2
  clear hb2
  go_wp2_with fail
  refine (HB.out w2).mono ?_
  rintro e w3 ⟨rfl, hb3⟩
  have HB3 := Lib.hid (bl_nx HB2.out hb3)
  clear hb3
  go_wp2
  go_ret2
  exact ⟨HB3.out, .inr ⟨HN.out, rfl⟩⟩
end Go.Proofs.YtgkcnocfijckoaaGreat
namespace Go.Proofs.YtgkcnocfijckoaaGreat
open Go.RowKit Sg
set_option linter.unusedVariables false
set_option linter.unusedSimpArgs false
set_option maxRecDepth 100000 in
set_option maxHeartbeats 2000000 in
theorem stScrub_any (w : World) (ps p m base : Nat) (v : Value) (S : Bk) (l : List Gn) (im : Int → ByteArray) (h : StB w ps p base v l) (hI : BookI w p m S) (hinv : Inv S l im) (hS : S.length ≤ 90000000) (hm : m < base) (hbw : base ≤ w.heap.size) (hps : ps ≠ m) :
    Calls Tryz.prog 30 #[.pointer (some ⟨ps, 0, none⟩)] w fun e w' => e = .returned (.slice none 0 0) ∧ BookI w' p m S ∧ Kept (fun k => some m = some k) w w' := by
  have hgz := gnZ_run
  have hl := hinv.len
  have HNO := Lib.hid (none_any w ps p base v l h)
  have HST := Lib.hid h
  have HI := Lib.hid hI
  have HINV := Lib.hid hinv
  obtain ⟨ao, cp, rfl⟩ := owns_slice h.2
  have s1 := h.1.cell (i := 1) rfl
  obtain ⟨N, hN⟩ : ∃ N, N = l.length := ⟨_, rfl⟩
  rw [← hN] at s1 hl
  have HN := Lib.hid hN
  clear h hI hinv hN
  go_enter Tryz.func30, Tryz.ntmps30
  go_wp2_with fail
  refine HNO.out.mono ?_
  rintro e w' ⟨rfl, rfl⟩
  go_wp2_with fail
  go_loopw [3, 15] (fun u i wr => ∃ k : Nat, i = .int .i64 k ∧ k ≤ N ∧ u = .slice none 0 0 ∧ BookI wr p m S ∧ Kept (fun k => some m = some k) w wr) (fun _ i _ => N - (intOf i).toNat)
  case atStart => exact ⟨0, by go_num, Nat.zero_le _, rfl, HI.out, Kept.refl _ _⟩
  case round =>
    obtain ⟨k, rfl, hk, rfl, hI, hK⟩ := hrel
    have hSt := HST.out.kept hK hm hps
    have hwr : w.heap.size ≤ wr.heap.size := hK.size
    have HKK := Lib.hid (And.intro hI hK)
    clear hI hK
    by_cases hlt : k < N
    case pos =>
      obtain ⟨g, hg⟩ : ∃ g, l[k]? = some g := ⟨_, List.getElem?_eq_getElem (by rw [← HN.out]; exact hlt)⟩
      have hgm : g ∈ l := List.mem_of_getElem? hg
      have hhas : hasN l g.gen = true := (HINV.out.up.has_iff _).2 ⟨g, hgm, rfl⟩
      have hRg := hSt.rs rfl
      rw [← HN.out] at hRg
      obtain ⟨bg, og, rfl, hbg, hcg⟩ := rs_gn hRg (by omega)
      obtain ⟨g0, g1, g2, g3⟩ := hcg k g hg
      have i1 : (k : Int) < (N : Int) := by omega
      obtain ⟨V, hV⟩ : ∃ V, V = wr.alloc (Obj.cells #[.int .i64 g.gen, .int .i64 g.basis, .string g.mark, .string g.text] 92) := ⟨_, rfl⟩
      obtain ⟨q, hq⟩ : ∃ q, q = wr.heap.size := ⟨_, rfl⟩
      have hQ : Blk V q [.int .i64 g.gen, .int .i64 g.basis, .string g.mark, .string g.text] 92 := by rw [hV, hq]; exact Blk.new _ _ _
      have hbV : Below wr.heap.size wr V := by rw [hV]; exact below_alloc _ _
      have q0 := hQ.cell (i := 0) rfl
      have HM := Lib.hid (made_any V ps p m base _ S l im (hSt.next hbV) (HKK.out.1.next hbV) HINV.out hS hm (by have := hbV.size; omega) hps g.gen)
      rw [hhas] at HM
      simp only [if_true] at HM
      obtain ⟨tx, htx⟩ : ∃ tx, tx = im g.gen := ⟨_, rfl⟩
      rw [← htx] at HM
      have HV := Lib.hid (And.intro hV hq)
      have HKV : Hid (Kept (fun k => some m = some k) w V) := Lib.hid (kept_bel HKK.out.2 hbV)
      clear hg hgm hhas hRg hcg hV hq hQ hbV htx hSt
      go_upto_region 7 with fail
      rw [← HV.out.1, ← HV.out.2]
      clear g0 g1 g2 g3
      go_wp2_with fail
      refine HM.out.mono ?_
      rintro e w3 ⟨rfl, hI3, hk3⟩
      have HF : Hid (BookI w3 p m S ∧ Kept (fun k => some m = some k) w w3) := Lib.hid ⟨hI3, HKV.out.trans hk3 (fun _ _ h => h)⟩
      clear hI3 hk3 q0 HM
      go_wp2
      go_roundw
      case rel => exact ⟨k + 1, by go_num, by omega, rfl, HF.out.1, by first | exact HF.out.2 | exact kept_eq HF.out.2⟩
      case measure => simp [intOf]; omega
    case neg =>
      have i1 : ¬ (k : Int) < (N : Int) := by omega
      clear hSt
      go_wp2
      go_ret
      exact ⟨rfl, HKK.out.1, by first | exact HKK.out.2 | exact kept_eq HKK.out.2⟩
end Go.Proofs.YtgkcnocfijckoaaGreat
