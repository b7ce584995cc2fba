/- numbered and the reference's Number: a number as a mark. Conditions: as named in each theorem. -/
import Derived.Test.YtgemhgllifhckaaChecked
import Derived.Test.YtgemhgllifhckaaStr
import Derived.OpenShut
namespace Go.Proofs.Ytgemhgllifhckaa
open Go.RowKit
set_option linter.unusedVariables false

/-- byte i of a number -/
def nb (n i : Nat) : Nat := n / 256 ^ i % 256
def numB (n : Nat) : List UInt8 := (List.range 32).map fun i => UInt8.ofNat (nb n i)
def numS (n : Nat) : ByteArray := ⟨(numB n).toArray⟩
/-- the cells behind k rounds -/
def numC (n k : Nat) : List Value := (List.range 32).map fun i => .int .u8 (if i < k then nb n i else 0 : Nat)

theorem nb_lt (n i : Nat) : nb n i < 256 := Nat.mod_lt _ (by decide)
theorem numB_len (n : Nat) : (numB n).length = 32 := by simp [numB]
theorem numC_len (n k : Nat) : (numC n k).length = 32 := by simp [numC]
theorem numC_set (n k : Nat) (hk : k < 32) : (numC n k).set k (.int .u8 (nb n k : Nat)) = numC n (k + 1) := by
  apply List.ext_getElem (by simp [numC])
  intro i h1 h2
  rw [List.getElem_set]
  simp only [numC, List.getElem_map, List.getElem_range]
  by_cases e : k = i
  · subst e; simp
  · rw [if_neg e]
    have : (i < k) ↔ (i < k + 1) := by omega
    simp [this]
theorem numC_byte (n j : Nat) (c : UInt8) (h : (numB n)[j]? = some c) : (numC n 32)[j]? = some (.int .u8 (c.toNat : Nat)) := by
  have hj : j < 32 := by have := (List.getElem?_eq_some_iff.1 h).1; rw [numB_len] at this; exact this
  simp only [numB, List.getElem?_map, List.getElem?_range hj, Option.map_some, Option.some.injEq] at h
  subst h
  have := nb_lt n j
  simp only [numC, List.getElem?_map, List.getElem?_range hj, Option.map_some, if_pos hj, UInt8.toNat_ofNat']
  congr 3
  omega
theorem nb_high (n i : Nat) (hn : n ≤ 4611686018427387904) (hi : 8 ≤ i) : nb n i = 0 := by
  unfold nb
  have h1 : 256 ^ 8 ≤ 256 ^ i := Nat.pow_le_pow_right (by decide) hi
  rw [Nat.div_eq_of_lt (Nat.lt_of_lt_of_le (by omega : n < 256 ^ 8) h1)]
theorem pow_8 (k : Nat) : (2 : Int) ^ (8 * k) = ((256 ^ k : Nat) : Int) := by
  rw [Int.natCast_pow, Int.pow_mul]; rfl

theorem numbered_any (n : Nat) (w : World) (hn : n ≤ 4611686018427387904) :
    Calls Try.prog 45 #[.int .i64 n] w fun e w' => e = .returned (.string (numS n)) ∧ Below w.heap.size w w' := by
  have hmk : ∀ w, (Instr.makeSlice 81 (.int .i64 32) (.int .i64 32)).run Try.prog w = .ok (.slice (some ⟨w.heap.size, 0, none⟩) 32 32) (w.alloc (.cells (List.replicate 32 (.int .u8 0)).toArray 5)) := fun _ => by kernel_rfl
  have h0 : Blk (w.alloc (.cells (List.replicate 32 (.int .u8 0)).toArray 5)) w.heap.size (numC n 0) 5 := Blk.new w _ _
  have hB0 : Below w.heap.size w (w.alloc (.cells (List.replicate 32 (.int .u8 0)).toArray 5)) := (Below.refl _ _).alloc (Nat.le_refl _) _
  have H0 := Lib.hid h0
  clear h0
  go_enter Try.func45, Try.ntmps45
  go_wp2
  clear hmk
  go_loopw [4, 8] (fun _ i wr => ∃ k : Nat, k ≤ 32 ∧ i = .int .i64 k ∧ Blk wr w.heap.size (numC n k) 5 ∧ Below w.heap.size w wr) (fun _ i _ => 32 - (intOf i).toNat)
  case atStart => exact ⟨0, by omega, rfl, H0.out, hB0⟩
  case round =>
    clear H0 hB0
    obtain ⟨k, hk, rfl, hb, hB⟩ := hrel
    by_cases hlt : k < 32
    · have hf := Blk.frozen hb k
      have hc : wr.cell? ⟨w.heap.size, k, none⟩ = some (.int .u8 0) := Blk.cell hb (i := k) (by simp [numC, hlt])
      have HB := Lib.hid hb
      clear hb
      by_cases h7 : k ≤ 7
      · go_wp2
        go_roundw
        case rel =>
          have e : (n : Int) / 2 ^ (8 * k) % 256 = ((nb n k : Nat) : Int) := by rw [pow_8]; unfold nb; simp only [Int.natCast_emod, Int.natCast_ediv]; rfl
          refine ⟨k + 1, by omega, by go_num, ?_, hB.setCell (Nat.le_refl _) _⟩
          rw [e, ← numC_set n k hlt]
          exact HB.out.set k _
        case measure => simp [intOf]; omega
      · go_wp2
        go_roundw
        case rel =>
          refine ⟨k + 1, by omega, by go_num, ?_, (hB.setCell (Nat.le_refl _) _).setCell (Nat.le_refl _) _⟩
          have h2 := (HB.out.set k (Value.int IntKind.u8 ((n : Int) / 72057594037927936))).set k (.int .u8 (0 : Nat))
          rw [List.set_set, ← nb_high n k hn (by omega), numC_set n k hlt, nb_high n k hn (by omega)] at h2
          exact h2
        case measure => simp [intOf]; omega
    · have hk2 : k = 32 := by omega
      subst hk2
      have hcv : (convert 81 9 (.slice (some ⟨w.heap.size, 0, none⟩) 32 32)).run Try.prog wr = .ok (.string (numS n)) wr :=
        run_bytes_str (numB n) Try.underlying81 Try.underlying5 Try.underlying9 (numB_len n) (fun j c hj => Blk.cell hb (i := 0 + j) (by rw [Nat.zero_add]; exact numC_byte n j c hj))
      clear hb
      go_wp2
      go_ret
      exact ⟨rfl, hB⟩

theorem infoByte : (Try.prog.info? 5).map (fun i => (i.zero, i.size, i.bytes)) = some (some (.int .u8 0), 1, 1) := by kernel_rfl
def byteC (l : List UInt8) : List Value := l.map fun c => .int .u8 (c.toNat : Nat)
theorem byteC_len (l : List UInt8) : (byteC l).length = l.length := by simp [byteC]
theorem byteC_get (l : List UInt8) (j : Nat) (c : UInt8) (h : l[j]? = some c) : (byteC l)[j]? = some (.int .u8 (c.toNat : Nat)) := by simp [byteC, h]

theorem owns_bytes_str {P : Program} {w : World} {src dst e : TypeId} {base : Nat} {v : Value} {n : Nat} (l : List UInt8)
    (hs : P.underlying src = some (.slice e)) (he : P.underlying e = some (.int .u8)) (hd : P.underlying dst = some .string)
    (h : w.ownsRow base e 1 v n (byteC l)) (hn : 0 < n) : (convert src dst v).run P w = .ok (.string ⟨l.toArray⟩) w := by
  have h0 := h
  have hl : l.length = n := by have := h.1; rw [byteC_len] at this; omega
  rcases h.2 with ⟨rfl, h3⟩ | ⟨g, cap, cur, rfl, _⟩
  · omega
  · refine run_bytes_str l hs he hd hl fun j c hj => ?_
    have := World.ownsRow.cells h0 (g := g) rfl j _ (byteC_get l j c hj)
    rw [add_off'] at this
    exact this

theorem numS_size (n : Nat) : (numS n).size = 32 := by simp [numS, ByteArray.size, numB]
theorem nb_all (m n : Nat) : ∀ k, (∀ i, i < k → nb m i = nb n i) → m % 256 ^ k = n % 256 ^ k
  | 0, _ => by simp [Nat.mod_one]
  | k + 1, h => by
    have ih := nb_all m n k (fun i hi => h i (by omega))
    have hk := h k (by omega)
    unfold nb at hk
    rw [Nat.pow_succ, Nat.mod_mul, Nat.mod_mul, ih, hk]
theorem numB_inj (m n : Nat) (hm : m < 256 ^ 32) (hn : n < 256 ^ 32) (h : numB m = numB n) : m = n := by
  have hall : ∀ i, i < 32 → nb m i = nb n i := by
    intro i hi
    have := congrArg (fun l => l[i]?) h
    simp only [numB, List.getElem?_map, List.getElem?_range hi, Option.map_some, Option.some.injEq] at this
    have h2 := congrArg UInt8.toNat this
    simp only [UInt8.toNat_ofNat'] at h2
    have a := nb_lt m i
    have b := nb_lt n i
    omega
  have := nb_all m n 32 hall
  rwa [Nat.mod_eq_of_lt hm, Nat.mod_eq_of_lt hn] at this
theorem numS_list (n : Nat) : (numS n).data.toList = numB n := rfl
theorem numS_inj (m n : Nat) (hm : m < 18446744073709551616) (hn : n < 18446744073709551616) (h : (numS m).data.toList = (numS n).data.toList) : m = n :=
  numB_inj m n (Nat.lt_of_lt_of_le hm (by decide)) (Nat.lt_of_lt_of_le hn (by decide)) h
end Go.Proofs.Ytgemhgllifhckaa
