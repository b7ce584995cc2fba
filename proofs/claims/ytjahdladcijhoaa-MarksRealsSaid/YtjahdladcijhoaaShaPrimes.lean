/- Arrays loaded and stored whole; the first 64 primes. Conditions: as named in each theorem. -/
import Derived.Test.YtjahdladcijhoaaShaRoot2
import Derived.Deep.MidRow
import Derived.Scope
import Derived.Deep.Cut
import Derived.Deep.DeepCutAuto
import Derived.Laws.Rows
namespace Go.Proofs.Ytjahdladcijhoaa
open Go.RowKit
set_option linter.unusedVariables false
set_option linter.unusedSimpArgs false

theorem grown_setCells {w w' : World} {q : Nat} (h : w.grownBy w' (some q)) : ∀ (vs : List Value) (o : Nat), w.grownBy (w'.setCells q o vs) (some q) := by
  intro vs
  induction vs generalizing w' with
  | nil => intro o; exact h
  | cons v vs ih => intro o; exact ih (grown_set h o v) (o + 1)
theorem Blk.setMid {q : Nat} {T : TypeId} : ∀ (vs cs pre : List Value) (w : World), Blk w q (pre ++ cs) T → vs.length = cs.length → Blk (w.setCells q pre.length vs) q (pre ++ vs) T := by
  intro vs
  induction vs with
  | nil =>
    intro cs pre w h hl
    cases cs with
    | nil => exact h
    | cons c cs => simp at hl
  | cons v vs ih =>
    intro cs pre w h hl
    cases cs with
    | nil => simp at hl
    | cons c cs =>
      have h1 := Blk.set h pre.length v
      have e : (pre ++ c :: cs).set pre.length v = (pre ++ [v]) ++ cs := by
        rw [List.set_append_right _ _ (Nat.le_refl _)]; simp
      rw [e] at h1
      have h2 := ih cs (pre ++ [v]) _ h1 (by simpa using hl)
      rw [List.length_append, List.length_singleton, List.append_assoc] at h2
      exact h2
theorem Blk.setAll {w : World} {q : Nat} {cs vs : List Value} {T : TypeId} (h : Blk w q cs T) (hl : vs.length = cs.length) : Blk (w.setCells q 0 vs) q vs T := by
  have := Blk.setMid vs cs [] w (by simpa using h) hl
  simpa using this
theorem Blk.thereA {w : World} {q : Nat} {cs : List Value} {T : TypeId} (h : Blk w q cs T) {n : Nat} (hl : n = cs.length) : w.there q 0 n := by
  intro j hj
  have hj2 : j < cs.length := by rw [← hl]; exact hj
  rw [Nat.zero_add]
  exact ⟨by rw [h.cell (List.getElem?_eq_getElem hj2)]; rfl, h.frozen j⟩
theorem Blk.setAllOther {w : World} {q p : Nat} {cs vs : List Value} {T : TypeId} (h : Blk w p cs T) (hne : p ≠ q) : Blk (w.setCells q 0 vs) p cs T := h.grown (grown_setCells (grown_refl w (some q)) vs 0) (by simpa using hne)
theorem below_setAll {w w' : World} {q : Nat} (h : Below w.heap.size w w') (hq : w.heap.size ≤ q) (vs : List Value) : Below w.heap.size w (w'.setCells q 0 vs) :=
  h.grown (grown_setCells (grown_refl w' (some q)) vs 0) h.size (fun k hk => by cases hk; exact hq)

def P64 : List Nat := [2, 3, 5, 7, 11, 13, 17, 19, 23, 29, 31, 37, 41, 43, 47, 53, 59, 61, 67, 71, 73, 79, 83, 89, 97, 101, 103, 107, 109, 113, 127, 131, 137, 139, 149, 151, 157, 163, 167, 173, 179, 181, 191, 193, 197, 199, 211, 223, 227, 229, 233, 239, 241, 251, 257, 263, 269, 271, 277, 281, 283, 293, 307, 311]
def cntP (x : Nat) : Nat := (P64.filter (fun p => decide (p < x))).length
theorem P64_len : P64.length = 64 := by decide
theorem P64_table : ∀ x : Fin 312, 2 ≤ x.val → (P64[cntP x.val]? = some x.val ∧ (P64.take (cntP x.val)).all (fun p => decide (x.val % p ≠ 0)) = true ∧ cntP (x.val + 1) = cntP x.val + 1) ∨ ((P64.take (cntP x.val)).any (fun p => decide (x.val % p = 0)) = true ∧ cntP (x.val + 1) = cntP x.val) := by decide +kernel
theorem P64_cnt : cntP 2 = 0 ∧ cntP 312 = 64 := by decide +kernel
theorem P64_small : ∀ x : Fin 312, cntP x.val ≤ 63 := by decide +kernel
theorem P64_bd : ∀ p ∈ P64, 2 ≤ p ∧ p ≤ 311 := by decide
theorem P64_step {x : Nat} (h : 2 ≤ x) (h2 : x < 312) : (P64[cntP x]? = some x ∧ (∀ p ∈ P64.take (cntP x), x % p ≠ 0) ∧ cntP (x + 1) = cntP x + 1) ∨ ((∃ p ∈ P64.take (cntP x), x % p = 0) ∧ cntP (x + 1) = cntP x) := by
  rcases P64_table ⟨x, h2⟩ h with ⟨a, b, c⟩ | ⟨a, b⟩
  · exact .inl ⟨a, by simpa using b, c⟩
  · exact .inr ⟨by simpa using a, b⟩

/-- the array of primes, so many of them found -/
def pCells (n : Nat) : List Value := (P64.take n).map (fun p : Nat => Value.int .u64 (p : Nat)) ++ List.replicate (64 - n) (Value.int .u64 0)
theorem pCells_len (n : Nat) (h : n ≤ 64) : (pCells n).length = 64 := by
  unfold pCells
  rw [List.length_append, List.length_map, List.length_take, List.length_replicate, P64_len]
  omega
theorem pCells_at {n j : Nat} (h : n ≤ 64) (hj : j < n) : (pCells n)[j]? = some (.int .u64 ((P64.getD j 0 : Nat) : Int)) := by
  unfold pCells
  have hl := P64_len
  rw [List.getElem?_append_left (by rw [List.length_map, List.length_take]; omega), List.getElem?_map, List.getElem?_take_of_lt hj, List.getD_eq_getElem?_getD, List.getElem?_eq_getElem (by omega)]
  rfl
theorem pCells_set {n x : Nat} (h : n < 64) (hx : P64[n]? = some x) : (pCells n).set n (.int .u64 (x : Nat)) = pCells (n + 1) := by
  unfold pCells
  have hl := P64_len
  have h1 : ((P64.take n).map (fun p : Nat => Value.int .u64 (p : Nat))).length = n := by rw [List.length_map, List.length_take]; omega
  rw [List.set_append_right _ _ (by rw [h1]; exact Nat.le_refl _), h1, Nat.sub_self, show 64 - n = (64 - (n + 1)) + 1 by omega, List.replicate_succ, List.set_cons_zero]
  have h2 : P64.take (n + 1) = P64.take n ++ [x] := by
    rw [List.take_add_one, hx]; rfl
  rw [h2, List.map_append, List.append_assoc]
  rfl
def zeros64 : Array Value := (List.replicate 64 (Value.int .u64 0)).toArray
theorem arr64_run (w : World) : (zeroValue 65).run Try.prog w = .ok (.agg zeros64) w := by kernel_rfl
set_option maxRecDepth 100000 in
set_option maxHeartbeats 2000000 in
theorem primes_any (w : World) : Calls Try.prog 37 #[] w fun e w' => e = .returned (.agg (pCells 64).toArray) ∧ Below w.heap.size w w' := by
  have haz := arr64_run
  obtain ⟨V1, hV1⟩ : ∃ V, V = w.alloc (Obj.cells zeros64 65) := ⟨_, rfl⟩
  obtain ⟨p0, hp0⟩ : ∃ p, p = w.heap.size := ⟨_, rfl⟩
  obtain ⟨V2, hV2⟩ : ∃ V, V = V1.alloc (Obj.cells zeros64 65) := ⟨_, rfl⟩
  obtain ⟨p1, hp1⟩ : ∃ p, p = V1.heap.size := ⟨_, rfl⟩
  have hA1 : Blk V1 p0 (pCells 0) 65 := by rw [hV1, hp0]; exact Blk.new w (pCells 0) _
  have hA : Blk V2 p0 (pCells 0) 65 := by rw [hV2]; exact hA1.alloc _
  have hX : Blk V2 p1 (pCells 0) 65 := by rw [hV2, hp1]; exact Blk.new V1 (pCells 0) _
  have hB1 : Below w.heap.size w V1 := by rw [hV1]; exact (Below.refl _ _).alloc (Nat.le_refl _) _
  have hB : Below w.heap.size w V2 := by rw [hV2]; exact hB1.alloc hB1.size _
  have h01 : p0 < p1 := by rw [hp1]; exact hA1.lt
  have HWP : Hid (w.heap.size ≤ p0) := Lib.hid (by rw [hp0]; exact Nat.le_refl _)
  have H0 := Lib.hid (And.intro hA (And.intro hX hB))
  have HV1 := Lib.hid hV1
  have HV2 := Lib.hid hV2
  have HP0 := Lib.hid hp0
  have HP1 := Lib.hid hp1
  clear hV1 hp0 hV2 hp1 hA1 hA hX hB1 hB
  go_enter Try.func37, Try.ntmps37
  go_upto_region 1 with fail
  rw [← HP0.out, ← HV1.out]
  refine wp_scope_straight ?_
  go_upto_region 2 with fail
  rw [← HP1.out, ← HV2.out]
  go_wp2_with fail
  go_step3
  go_wp2_with fail
  go_loopw [2, 3] (fun a b wr => ∃ (n x : Nat), a = .int .i64 n ∧ b = .int .u64 x ∧ 2 ≤ x ∧ x ≤ 312 ∧ n = cntP x ∧ Blk wr p0 (pCells 0) 65 ∧ Blk wr p1 (pCells n) 65 ∧ Below w.heap.size w wr) (fun _ b _ => 312 - (intOf b).toNat)
  case atStart => exact ⟨0, 2, rfl, rfl, by omega, by omega, P64_cnt.1.symm, H0.out.1, H0.out.2.1, H0.out.2.2⟩
  case round =>
    obtain ⟨n, x, rfl, rfl, h2, h312, hn, hA, hX, hB⟩ := hrel
    obtain ⟨wo, hwo⟩ : ∃ wo, wo = wr := ⟨_, rfl⟩
    subst hwo
    have HA := Lib.hid (And.intro hA (And.intro hX hB))
    clear hA hX hB
    by_cases hx : x < 312
    · have hn63 : n ≤ 63 := by rw [hn]; exact P64_small ⟨x, hx⟩
      have HST := Lib.hid (P64_step h2 hx)
      have HN := Lib.hid hn
      have HLT := Lib.hid hx
      have hwx : IntKind.u64.wrap ((x : Int) + 1) = (x : Int) + 1 := by rw [IntKind.wrap_u64]; omega
      have i0 : (0 : Int) ≤ (n : Int) := by omega
      have i1 : (n : Int) ≤ 64 := by omega
      have i2 : (n : Int) < 64 := by omega
      clear hn hx
      go_wp2_with fail
      go_loopw [13] (fun i wr => ∃ j : Nat, i = .int .i64 j ∧ j ≤ n ∧ (∀ p ∈ P64.take j, x % p ≠ 0) ∧ wr = wo) (fun i _ => n - (intOf i).toNat)
      case atStart => exact ⟨0, by go_num, Nat.zero_le _, by simp, rfl⟩
      case round =>
        obtain ⟨j, rfl, hj, hall, rfl⟩ := hrel
        have HALL := Lib.hid hall
        clear hall
        by_cases hjn : j < n
        · have hc := HA.out.2.1.cell (i := j) (pCells_at (by omega) hjn)
          obtain ⟨p, hp⟩ : ∃ p, p = P64.getD j 0 := ⟨_, rfl⟩
          rw [← hp] at hc
          have hpj : P64[j]? = some p := by
            have hl := P64_len
            rw [hp, List.getD_eq_getElem?_getD, List.getElem?_eq_getElem (by omega)]; rfl
          have hpb := P64_bd p (List.mem_of_getElem? hpj)
          have HPJ := Lib.hid hpj
          have i3 : (j : Int) < (n : Int) := by omega
          have i4 : (0 : Int) ≤ (j : Int) := by omega
          have i5 : ¬ (p : Int) = 0 := by omega
          have hmod : IntKind.u64.wrap ((x : Int) % (p : Int)) = ((x % p : Nat) : Int) := by rw [IntKind.wrap_u64, ← Int.natCast_emod]; have := Nat.mod_lt x (y := p) (by omega); omega
          clear hp hpj
          by_cases hz : x % p = 0
          · have HF : Hid (cntP (x + 1) = n) := Lib.hid (by
              rcases HST.out with ⟨_, b, _⟩ | ⟨_, b⟩
              · exact absurd hz (b p (by
                  rw [← HN.out]
                  have := List.mem_of_getElem? (l := P64.take n) (i := j) (by rw [List.getElem?_take_of_lt hjn]; exact HPJ.out)
                  exact this))
              · rw [b, HN.out])
            have hzi : (((x % p : Nat) : Int) == 0) = true := by rw [hz]; rfl
            clear hz
            go_wp2
            go_roundw
            case rel => exact ⟨n, x + 1, by go_num, by go_num, by omega, by have := HLT.out; omega, HF.out.symm, HA.out.1, HA.out.2.1, HA.out.2.2⟩
            case measure => have := HLT.out; simp [intOf]; omega
          · have HALL2 : Hid (∀ q ∈ P64.take (j + 1), x % q ≠ 0) := Lib.hid (by
              intro q hq
              rw [List.take_add_one, HPJ.out] at hq
              rcases List.mem_append.1 hq with h | h
              · exact HALL.out q h
              · have : q = p := by simpa using h
                rw [this]; exact hz)
            have hzi : (((x % p : Nat) : Int) == 0) = false := by rw [beq_eq_false_iff_ne]; omega
            clear hz
            go_wp2
            go_roundw
            case rel => exact ⟨j + 1, by go_num, by omega, HALL2.out, trivial⟩
            case measure => simp [intOf]; omega
        · have hjn2 : j = n := by omega
          subst hjn2
          have HF : Hid (P64[j]? = some x ∧ cntP (x + 1) = j + 1) := Lib.hid (by
            rcases HST.out with ⟨a, _, b⟩ | ⟨⟨p, b, c⟩, _⟩
            · rw [← HN.out] at a b; exact ⟨a, b⟩
            · rw [← HN.out] at b; exact absurd c (HALL.out p b))
          have hfz := HA.out.2.1.frozen j
          have hce := HA.out.2.1.cell (i := j) (v := .int .u64 0) (by
            unfold pCells
            have hl := P64_len
            rw [List.getElem?_append_right (by rw [List.length_map, List.length_take]; omega), List.length_map, List.length_take, P64_len, show min j 64 = j by omega, Nat.sub_self, show 64 - j = (64 - j - 1) + 1 by omega, List.replicate_succ]
            rfl)
          have HX2 : Hid (Blk (wr.setCell ⟨p1, j, none⟩ (.int .u64 (x : Nat))) p1 (pCells (j + 1)) 65) := Lib.hid (by
            have h := Blk.set HA.out.2.1 j (.int .u64 (x : Nat))
            rw [pCells_set (by omega) HF.out.1] at h
            exact h)
          have HA2 : Hid (Blk (wr.setCell ⟨p1, j, none⟩ (.int .u64 (x : Nat))) p0 (pCells 0) 65 ∧ Below w.heap.size w (wr.setCell ⟨p1, j, none⟩ (.int .u64 (x : Nat)))) := Lib.hid ⟨HA.out.1.setOther (by simp only; omega) _, HA.out.2.2.setCell (by have := HWP.out; simp only; omega) _⟩
          go_wp2
          go_roundw
          case rel => exact ⟨j + 1, x + 1, by go_num, by go_num, by omega, by have := HLT.out; omega, HF.out.2.symm, HA2.out.1, HX2.out, HA2.out.2⟩
          case measure => have := HLT.out; simp [intOf]; omega
    · have hx2 : x = 312 := by omega
      have hn64 : n = 64 := by rw [hn, hx2]; exact P64_cnt.2
      subst hn64
      clear hn hx
      go_wp2_with (first | (refine wpList_load_row rfl 65 _ rfl p1 rfl 65 (pCells 64).toArray _ _ HA.out.2.1 Try.underlying65 rfl (by kernel_rfl) ?_) | (refine wpList_store_mid rfl 65 _ _ rfl p0 0 (pCells 64).toArray rfl rfl (HA.out.1.thereA (by kernel_rfl)) (by kernel_rfl) (by kernel_rfl) ?_))
      rw [Exit.noGoto_ret]
      refine bodyPost_ret (results_cell_row rfl _ _ p0 65 _ (0, 0) _ rfl (HA.out.1.setAll (vs := pCells 64) (by kernel_rfl)) Try.underlying65 rfl (by kernel_rfl)) rfl ?_
      exact ⟨rfl, below_setAll HA.out.2.2 (by have := HWP.out; omega) _⟩
end Go.Proofs.Ytjahdladcijhoaa
