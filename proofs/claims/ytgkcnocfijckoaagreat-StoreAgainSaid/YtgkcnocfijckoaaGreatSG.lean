/- The law's world: find, hangs, and the plain law of the model. Conditions: as named in each theorem. -/
import Derived.Test.YtgkcnocfijckoaaGreatSF
namespace Go.Proofs.YtgkcnocfijckoaaGreat
open Go.RowKit Sg
set_option linter.unusedVariables false
set_option linter.unusedSimpArgs false
theorem owns_base {w : World} {b b' size n : Nat} {e : TypeId} {v : Value} {xs : List Value} (h : w.ownsRow b e size v n xs) (hb : b' ≤ b) : w.ownsRow b' e size v n xs := by
  obtain ⟨h1, h2⟩ := h
  refine ⟨h1, ?_⟩
  rcases h2 with h2 | ⟨g, cap, cur, a1, a2, a3⟩
  · exact .inl h2
  · exact .inr ⟨g, cap, cur, a1, Nat.le_trans hb a2, a3⟩
theorem WW.rs {w : World} {pw ps p m n cap : Nat} {v : Value} {ao : Option Addr} {S : Bk} {l : List Gn} {im : Int → ByteArray} {K : List Kp} (h : WW w pw ps p m v (.slice ao n cap) S l im K) (hn : K.length = n) : Rs w ao n cap 2 K Kp.c := by
  subst hn; exact Rs.of_owns kp_len rfl h.row
theorem rs_kp {w : World} {ao : Option Addr} {len cap : Nat} {l : List Kp} (h : Rs w ao len cap 2 l Kp.c) (h0 : 0 < len) :
    ∃ b off, ao = some ⟨b, off, none⟩ ∧ b < w.heap.size ∧ ∀ k g, l[k]? = some g → w.cell? ⟨b, off + k * 2, none⟩ = some (.int .i64 g.gen) ∧ w.cell? ⟨b, off + k * 2 + 1, none⟩ = some (.string g.s) := by
  obtain ⟨_, _, _, h4⟩ := h
  obtain ⟨b, off, e, hb, hc⟩ := h4 h0
  refine ⟨b, off, e, hb, fun k g hg => ?_⟩
  obtain ⟨hk, rfl⟩ := List.getElem?_eq_some_iff.1 hg
  exact ⟨by simpa using hc k hk 0 _ rfl, by simpa [Nat.add_assoc] using hc k hk 1 _ rfl⟩
def FindP (K : List Kp) (n : Int) (r : Int) : Prop := (r = -1 ∧ ∀ x ∈ K, x.gen ≠ n) ∨ ∃ k x, r = (k : Nat) ∧ K[k]? = some x ∧ x.gen = n
set_option maxRecDepth 100000 in
set_option maxHeartbeats 1000000 in
theorem find_any (w : World) (pw ps p m : Nat) (v vl : Value) (S : Bk) (l : List Gn) (im : Int → ByteArray) (K : List Kp) (h : WW w pw ps p m v vl S l im K) (hK : K.length ≤ 100000) (n : Int) :
    Calls Tryz.prog 65 #[.pointer (some ⟨pw, 0, none⟩), .int .i64 n] w fun e w' => ∃ r, e = .returned (.int .i64 r) ∧ FindP K n r ∧ w = w' := by
  obtain ⟨ao, cp, rfl⟩ := owns_slice h.row
  have hR := h.rs rfl
  have c2 := h.ob.cell (i := 2) rfl
  obtain ⟨N, hN⟩ : ∃ N, N = K.length := ⟨_, rfl⟩
  rw [← hN] at hR c2 hK
  have HN := Lib.hid hN
  clear h hN
  go_enter Tryz.func65, Tryz.ntmps65
  go_wp2_with fail
  go_loopw [5] (fun i wr => ∃ k : Nat, i = .int .i64 k ∧ k ≤ N ∧ Hid (∀ x ∈ K.take k, x.gen ≠ n) ∧ wr = w) (fun i _ => N - (intOf i).toNat)
  case atStart => exact ⟨0, by go_num, Nat.zero_le _, Lib.hid (by simp), rfl⟩
  case round =>
    obtain ⟨k, rfl, hk, hA, rfl⟩ := hrel
    by_cases hlt : k < N
    case pos =>
      obtain ⟨g, hg⟩ : ∃ g, K[k]? = some g := ⟨_, List.getElem?_eq_getElem (by rw [← HN.out]; exact hlt)⟩
      obtain ⟨b, off, rfl, hb, hc⟩ := rs_kp hR (by omega)
      have d0 := (hc k g hg).1
      have i1 : (k : Int) < (N : Int) := by omega
      have HG := Lib.hid hg
      clear hc hR hb hg
      by_cases hgn : g.gen = n
      case pos =>
        have d1 : (g.gen == n) = true := by simpa using hgn
        have HF : Hid (FindP K n (k : Nat)) := Lib.hid (.inr ⟨k, g, rfl, HG.out, hgn⟩)
        clear hgn
        go_wp2
        go_ret
        exact ⟨_, rfl, HF.out, rfl⟩
      case neg =>
        have d1 : (g.gen == n) = false := by simpa using hgn
        have HNX : Hid (∀ x ∈ K.take (k + 1), x.gen ≠ n) := Lib.hid (by
          intro x hx
          rw [List.take_add_one, HG.out] at hx
          rcases List.mem_append.1 hx with hx | hx
          · exact hA.out x hx
          · simp at hx; rw [hx]; exact hgn)
        clear hgn
        go_wp2
        go_roundw
        case rel => exact ⟨k + 1, by go_num, by omega, HNX, by first | rfl | trivial⟩
        case measure => simp [intOf]; omega
    case neg =>
      have i1 : ¬ (k : Int) < (N : Int) := by omega
      have HF : Hid (FindP K n (-1)) := Lib.hid (.inl ⟨rfl, by
        have h1 := hA.out
        rw [List.take_of_length_le (by rw [← HN.out]; omega)] at h1
        exact h1⟩)
      go_wp2
      go_ret
      exact ⟨_, rfl, HF.out, rfl⟩
theorem gn_g_gen (l : List Gn) (k : Nat) (g : G) (h : (gsG l)[k]? = some g) : ∃ x, l[k]? = some x ∧ g = x.g := by
  unfold gsG at h
  rw [List.getElem?_map] at h
  cases hx : l[k]? with
  | none => rw [hx] at h; cases h
  | some x => rw [hx] at h; exact ⟨x, rfl, (Option.some.inj h).symm⟩
theorem rs_g4 {w : World} {ao : Option Addr} {len cap : Nat} {l : List G} (h : Rs w ao len cap 4 l G.c) (h0 : 0 < len) :
    ∃ b off, ao = some ⟨b, off, none⟩ ∧ b < w.heap.size ∧ ∀ k g, l[k]? = some g → w.cell? ⟨b, off + k * 4, none⟩ = some (.int .i64 g.gen) ∧ w.cell? ⟨b, off + k * 4 + 1, none⟩ = some (.int .i64 g.basis) ∧ w.cell? ⟨b, off + k * 4 + 2, none⟩ = some (.int .i64 g.bytes) ∧ w.cell? ⟨b, off + k * 4 + 3, none⟩ = some (.string g.mark) := by
  obtain ⟨_, _, _, h4⟩ := h
  obtain ⟨b, off, e, hb, hc⟩ := h4 h0
  refine ⟨b, off, e, hb, fun k g hg => ?_⟩
  obtain ⟨hk, rfl⟩ := List.getElem?_eq_some_iff.1 hg
  exact ⟨by simpa using hc k hk 0 _ rfl, by simpa [Nat.add_assoc] using hc k hk 1 _ rfl, by simpa [Nat.add_assoc] using hc k hk 2 _ rfl, by simpa [Nat.add_assoc] using hc k hk 3 _ rfl⟩
theorem SW.gens {w : World} {ps p m : Nat} {v : Value} {S : Bk} {l : List Gn} {im : Int → ByteArray} (h : SW w ps p m v S l im) :
    Calls Tryz.prog 21 #[.pointer (some ⟨ps, 0, none⟩)] w fun e w' => ∃ v', e = .returned v' ∧ RowG w' w.heap.size v' (gsG l) ∧ Below w.heap.size w w' :=
  stGens_any w ps p (ps + 1) v l h.st (by have := h.inv.len; omega) (fun g hg => Nat.le_trans (h.inv.each g hg).len (by decide))
set_option maxRecDepth 100000 in
set_option maxHeartbeats 1000000 in
theorem wHangs_any (w : World) (pw ps p m : Nat) (v vl : Value) (S : Bk) (l : List Gn) (im : Int → ByteArray) (K : List Kp) (h : WW w pw ps p m v vl S l im K) (n : Int) :
    Calls Tryz.prog 88 #[.pointer (some ⟨pw, 0, none⟩), .int .i64 n] w fun e w' => e = .returned (.bool (hangsN l n)) ∧ Below w.heap.size w w' := by
  have c0 := h.ob.cell (i := 0) rfl
  have HGE := Lib.hid h.sw.gens
  have hl := h.sw.inv.len
  obtain ⟨X, hX⟩ : ∃ X, X = hangsN l n := ⟨_, rfl⟩
  rw [← hX]
  have HX := Lib.hid hX
  clear hX h
  go_enter Tryz.func88, Tryz.ntmps88
  go_wp2_with fail
  refine HGE.out.mono ?_
  rintro e w1 ⟨v1, rfl, hO1, hb1⟩
  obtain ⟨a1, k1, rfl⟩ := owns_slice hO1
  obtain ⟨N, hN⟩ : ∃ N, N = (gsG l).length := ⟨_, rfl⟩
  have hR := RowG.rs (gs := gsG l) hO1 rfl
  rw [← hN] at hR ⊢
  have HN : Hid (N = l.length) := Lib.hid (by rw [hN, gsG_len])
  have HR := Lib.hid hR
  have HB1 := Lib.hid hb1
  clear hN hO1 hb1 hR HGE c0
  have hN2 : N ≤ 4096 := by rw [HN.out]; exact hl
  go_wp2_with fail
  go_loopw [6] (fun i wr => ∃ k : Nat, i = .int .i64 k ∧ k ≤ N ∧ Hid ((l.take k).any (hangP n) = false) ∧ wr = w1) (fun i _ => N - (intOf i).toNat)
  case atStart => exact ⟨0, by go_num, Nat.zero_le _, Lib.hid (by simp), rfl⟩
  case round =>
    obtain ⟨k, rfl, hk, hA, rfl⟩ := hrel
    by_cases hlt : k < N
    case pos =>
      obtain ⟨g, hg⟩ : ∃ g, l[k]? = some g := ⟨_, List.getElem?_eq_getElem (by rw [← HN.out]; exact hlt)⟩
      have hg2 : (gsG l)[k]? = some g.g := by unfold gsG; rw [List.getElem?_map, hg]; rfl
      obtain ⟨b, off, rfl, hb, hc⟩ := rs_g4 HR.out (by omega)
      have d0 := (hc k _ hg2).1
      have d1 := (hc k _ hg2).2.1
      obtain ⟨⟨gg, gb, gm, gt⟩, rfl⟩ : ∃ x, x = g := ⟨_, rfl⟩
      simp only [Gn.g] at d0 d1
      have i1 : (k : Int) < (N : Int) := by omega
      have HG := Lib.hid hg
      have HNX : Hid (hangP n ⟨gg, gb, gm, gt⟩ = false → (l.take (k + 1)).any (hangP n) = false) := Lib.hid (by
        intro hf
        rw [List.take_add_one, HG.out, List.any_append, hA.out]
        simp [hf])
      clear hc hg hg2 hb
      by_cases h1 : gb = n
      case pos =>
        have e1 : (gb == n) = true := by simpa using h1
        by_cases h2 : gg = n
        case pos =>
          have e2 : (gg != n) = false := by simpa using h2
          have HP : Hid (hangP n ⟨gg, gb, gm, gt⟩ = false) := Lib.hid (by unfold hangP; simp only; rw [e1, e2]; rfl)
          clear h1 h2
          go_wp2
          go_roundw
          case rel => exact ⟨k + 1, by go_num, by omega, Lib.hid (HNX.out HP.out), by first | rfl | trivial⟩
          case measure => simp [intOf]; omega
        case neg =>
          have e2 : (gg != n) = true := by simpa using h2
          have HT : Hid (X = true) := Lib.hid (by
            rw [HX.out]
            unfold hangsN
            rw [List.any_eq_true]
            exact ⟨_, List.mem_of_getElem? HG.out, by simp [h1, h2]⟩)
          clear h1 h2
          go_wp2
          go_ret
          exact ⟨by rw [HT.out]; rfl, HB1.out⟩
      case neg =>
        have e1 : (gb == n) = false := by simpa using h1
        have HP : Hid (hangP n ⟨gg, gb, gm, gt⟩ = false) := Lib.hid (by unfold hangP; simp only; rw [e1]; rfl)
        clear h1
        go_wp2
        go_roundw
        case rel => exact ⟨k + 1, by go_num, by omega, Lib.hid (HNX.out HP.out), by first | rfl | trivial⟩
        case measure => simp [intOf]; omega
    case neg =>
      have i1 : ¬ (k : Int) < (N : Int) := by omega
      have HT : Hid (X = false) := Lib.hid (by
        rw [HX.out]
        have h1 := hA.out
        rw [List.take_of_length_le (by rw [← HN.out]; omega)] at h1
        exact h1)
      go_wp2
      go_ret
      exact ⟨by rw [HT.out]; rfl, HB1.out⟩
end Go.Proofs.YtgkcnocfijckoaaGreat
namespace Go.Proofs.YtgkcnocfijckoaaGreat
open Go.RowKit Sg
set_option linter.unusedVariables false
set_option linter.unusedSimpArgs false
def putF (n : Int) (s : ByteArray) (z : List Kp × Bool) (x : Kp) : List Kp × Bool :=
  let y := if z.2 = false ∧ n ≤ x.gen then (z.1 ++ [⟨n, s⟩], true) else z
  if x.gen = n then y else (y.1 ++ [x], y.2)
def putR (n : Int) (s : ByteArray) (z : List Kp × Bool) : List Kp := if z.2 = true then z.1 else z.1 ++ [⟨n, s⟩]
def putK (K : List Kp) (n : Int) (s : ByteArray) : List Kp := putR n s (K.foldl (putF n s) ([], false))
/-- the same, plainly -/
def insK (n : Int) (s : ByteArray) : List Kp → List Kp
  | [] => [⟨n, s⟩]
  | x :: K => if x.gen < n then x :: insK n s K else if x.gen = n then ⟨n, s⟩ :: K else ⟨n, s⟩ :: x :: K
theorem insK_cons (n : Int) (s : ByteArray) (x : Kp) (K : List Kp) : insK n s (x :: K) = if x.gen < n then x :: insK n s K else if x.gen = n then ⟨n, s⟩ :: K else ⟨n, s⟩ :: x :: K := rfl
theorem putF_true (n : Int) (s : ByteArray) : ∀ (K : List Kp) (o : List Kp), (∀ x ∈ K, x.gen ≠ n) → K.foldl (putF n s) (o, true) = (o ++ K, true)
  | [], o, _ => by simp
  | x :: K, o, h => by
    have h0 := h x (List.mem_cons_self ..)
    have h1 : putF n s (o, true) x = (o ++ [x], true) := by unfold putF; simp [h0]
    rw [List.foldl_cons, h1, putF_true n s K _ (fun y hy => h y (List.mem_cons_of_mem _ hy))]
    simp
theorem putF_false (n : Int) (s : ByteArray) : ∀ (K : List Kp) (o : List Kp), (K.map Kp.gen).Pairwise (· < ·) → putR n s (K.foldl (putF n s) (o, false)) = o ++ insK n s K
  | [], o, _ => by simp [putR, insK]
  | x :: K, o, h => by
    rw [List.map_cons, List.pairwise_cons] at h
    obtain ⟨h1, h2⟩ := h
    have hgt : ∀ y ∈ K, x.gen < y.gen := fun y hy => h1 _ (List.mem_map_of_mem hy)
    rw [List.foldl_cons, insK_cons]
    by_cases hlt : x.gen < n
    · have e : putF n s (o, false) x = (o ++ [x], false) := by
        unfold putF; simp [show ¬ n ≤ x.gen by omega, show ¬ x.gen = n by omega]
      rw [e, putF_false n s K _ h2, if_pos hlt]; simp
    · by_cases heq : x.gen = n
      · have e : putF n s (o, false) x = (o ++ [⟨n, s⟩], true) := by unfold putF; simp [heq]
        rw [e, putF_true n s K _ (fun y hy => by have := hgt y hy; omega), if_neg hlt, if_pos heq]; simp [putR]
      · have e : putF n s (o, false) x = (o ++ [⟨n, s⟩] ++ [x], true) := by unfold putF; simp [show n ≤ x.gen by omega, heq]
        rw [e, putF_true n s K _ (fun y hy => by have := hgt y hy; omega), if_neg hlt, if_neg heq]; simp [putR]
theorem setN_cons (g x : Gn) (l : List Gn) : setN (g :: l) x = if g.gen < x.gen then g :: setN l x else if g.gen = x.gen then x :: l else x :: g :: l := by
  by_cases h1 : g.gen < x.gen
  · rw [if_pos h1]
    have ha : atN (g :: l) x.gen = atN l x.gen + 1 := by unfold atN; rw [if_pos h1]; cases l <;> rfl
    have hh : hasN (g :: l) x.gen = hasN l x.gen := by unfold hasN; rw [ha, List.getElem?_cons_succ]
    unfold setN
    rw [ha, hh]
    split
    · rw [List.set_cons_succ]
    · rw [List.take_succ_cons, List.drop_succ_cons]; rfl
  · rw [if_neg h1]
    have ha : atN (g :: l) x.gen = 0 := by unfold atN; rw [if_neg h1]
    by_cases h2 : g.gen = x.gen
    · rw [if_pos h2]
      have hh : hasN (g :: l) x.gen = true := by unfold hasN; rw [ha]; simp [h2]
      unfold setN; rw [hh, ha]; rfl
    · rw [if_neg h2]
      have hh : hasN (g :: l) x.gen = false := by unfold hasN; rw [ha]; simp [h2]
      unfold setN; rw [hh, ha]; rfl
theorem model_upd {l : List Gn} {im : Int → ByteArray} {n : Int} {s : ByteArray} (h : ∀ g ∈ l, g.gen ≠ n) : modelK l (updI im n s) = modelK l im := by
  unfold modelK
  refine List.map_congr_left (fun g hg => ?_)
  rw [updI_other (h g hg)]
theorem model_set {im : Int → ByteArray} {s : ByteArray} {x : Gn} : ∀ {l : List Gn}, Ris l → insK x.gen s (modelK l im) = modelK (setN l x) (updI im x.gen s)
  | [], _ => by
    show [(⟨x.gen, s⟩ : Kp)] = modelK [x] (updI im x.gen s)
    unfold modelK; simp [updI_same]
  | g :: l, h => by
    unfold Ris at h
    rw [List.map_cons, List.pairwise_cons] at h
    obtain ⟨h1, h2⟩ := h
    have hgt : ∀ y ∈ l, g.gen < y.gen := fun y hy => h1 _ (List.mem_map_of_mem hy)
    rw [setN_cons]
    show (if g.gen < x.gen then (⟨g.gen, im g.gen⟩ : Kp) :: insK x.gen s (modelK l im) else if g.gen = x.gen then ⟨x.gen, s⟩ :: modelK l im else ⟨x.gen, s⟩ :: ⟨g.gen, im g.gen⟩ :: modelK l im) = _
    by_cases hlt : g.gen < x.gen
    · rw [if_pos hlt, if_pos hlt, model_set h2]
      show _ = (⟨g.gen, updI im x.gen s g.gen⟩ : Kp) :: modelK (setN l x) (updI im x.gen s)
      rw [updI_other (by omega)]
    · rw [if_neg hlt, if_neg hlt]
      by_cases heq : g.gen = x.gen
      · rw [if_pos heq, if_pos heq]
        show _ = (⟨x.gen, updI im x.gen s x.gen⟩ : Kp) :: modelK l (updI im x.gen s)
        rw [updI_same, model_upd (fun y hy => by have := hgt y hy; omega)]
      · rw [if_neg heq, if_neg heq]
        show _ = (⟨x.gen, updI im x.gen s x.gen⟩ : Kp) :: (⟨g.gen, updI im x.gen s g.gen⟩ : Kp) :: modelK l (updI im x.gen s)
        rw [updI_same, updI_other heq, model_upd (fun y hy => by have := hgt y hy; omega)]
theorem putK_model {l : List Gn} {im : Int → ByteArray} {s : ByteArray} {x : Gn} (h : Ris l) : putK (modelK l im) x.gen s = modelK (setN l x) (updI im x.gen s) := by
  unfold putK
  rw [putF_false x.gen s (modelK l im) [] (by unfold modelK; rw [List.map_map]; exact h), model_set h]; rfl
theorem putF_len (n : Int) (s : ByteArray) : ∀ (K : List Kp) (z : List Kp × Bool), (K.foldl (putF n s) z).1.length ≤ z.1.length + 2 * K.length
  | [], z => by simp
  | x :: K, z => by
    have h1 : (putF n s z x).1.length ≤ z.1.length + 2 := by
      unfold putF
      simp only
      split <;> split <;> simp
    have h2 := putF_len n s K (putF n s z x)
    rw [List.foldl_cons, List.length_cons]
    omega
theorem putF_snoc {n : Int} {s : ByteArray} {K : List Kp} {k : Nat} {x : Kp} (h : K[k]? = some x) (z : List Kp × Bool) : (K.take (k + 1)).foldl (putF n s) z = putF n s ((K.take k).foldl (putF n s) z) x := by
  rw [List.take_add_one, h, List.foldl_append]; rfl
theorem infoKp : (Tryz.prog.info? 112).map (fun i => (i.zero, i.size, i.bytes)) = some (some (.agg #[.int .i64 0, .string ByteArray.empty]), 2, 24) := by kernel_rfl
def RowK (w : World) (base : Nat) (v : Value) (K : List Kp) : Prop := w.ownsRow base 112 2 v K.length (K.flatMap Kp.c)
theorem RowK.snoc {w : World} {base : Nat} {v : Value} {K : List Kp} {x : Kp} (h : w.ownsRow base 112 2 v (K.length + 1) (K.flatMap Kp.c ++ x.c)) : RowK w base v (K ++ [x]) := by
  unfold RowK; simpa using h
end Go.Proofs.YtgkcnocfijckoaaGreat
namespace Go.Proofs.YtgkcnocfijckoaaGreat
open Go.RowKit Sg
set_option linter.unusedVariables false
set_option linter.unusedSimpArgs false
/-- what put leaves -/
def PutP (w : World) (pw ps p m : Nat) (v : Value) (S : Bk) (l : List Gn) (im : Int → ByteArray) (K' : List Kp) (w' : World) : Prop := ∃ vl', WW w' pw ps p m v vl' S l im K' ∧ Kept (fun k => k = pw) w w' ∧ ∀ k, vl'.ownBlock = some k → w.heap.size ≤ k
set_option maxRecDepth 100000 in
set_option maxHeartbeats 4000000 in
theorem put_any (w : World) (pw ps p m : Nat) (v vl : Value) (S : Bk) (l : List Gn) (im : Int → ByteArray) (K : List Kp) (h : WW w pw ps p m v vl S l im K) (hK : K.length ≤ 4096) (n : Int) (s : ByteArray) :
    Calls Tryz.prog 89 #[.pointer (some ⟨pw, 0, none⟩), .int .i64 n, .string s] w fun e w' => (∃ r, e = .returned r) ∧ PutP w pw ps p m v S l im (putK K n s) w' := by
  obtain ⟨i1, hj, hy0, hy1, hy2⟩ := info_parts infoKp
  have hgz := kpZ_run
  obtain ⟨ao, cp, rfl⟩ := owns_slice h.row
  have HW := Lib.hid h
  have HR := Lib.hid (h.rs rfl)
  have c2 := h.ob.cell (i := 2) rfl
  have hpw := h.ob.lt
  obtain ⟨N, hN⟩ : ∃ N, N = K.length := ⟨_, rfl⟩
  rw [← hN] at HR c2 hK
  have HN := Lib.hid hN
  obtain ⟨P, hP⟩ : ∃ P : World → Prop, P = PutP w pw ps p m v S l im (putK K n s) := ⟨_, rfl⟩
  have HPI : Hid (∀ (W : World) (a : Option Addr) (c : Nat) (L : List Kp), L = putK K n s → RowK W w.heap.size (.slice a L.length c) L → Below w.heap.size w W → P (W.setCell ⟨pw, 2, none⟩ (.slice a L.length c))) := Lib.hid (by
    intro W a c L hL hO hB
    rw [hP]
    have hob := (HW.out.ob.below hB HW.out.ob.lt).set 2 (.slice a L.length c)
    have hsw := HW.out.sw.below hB
    have hne := HW.out.ne
    have hlt : ps < w.heap.size ∧ p < w.heap.size ∧ m < w.heap.size := ⟨HW.out.sw.st.lt, HW.out.sw.bk.2.2.2.2.1.1, HW.out.sw.bk.2.2.2.2.1.2⟩
    have hown : ∀ k, (Value.slice a L.length c).ownBlock = some k → w.heap.size ≤ k ∧ k < W.heap.size := fun k e => World.ownsRow.lt hO k e
    refine ⟨_, ⟨hob, hsw.keep ((Kept.refl (fun k => k = pw) W).set rfl 2 _) (fun e => hne.1 e.symm) (fun k e e2 => hne.2.2.2.1 (by rw [e, e2])) (fun e => hne.2.1 e.symm) (fun e => hne.2.2.1 e.symm), ?_, ⟨hne.1, hne.2.1, hne.2.2.1, hne.2.2.2.1, fun e => by have := hown _ e; omega, fun e => by have := hown _ e; omega, fun e => by have := hown _ e; omega, fun k e e2 => by have := hown _ e; have h5 := HW.out.sw.own e2; omega⟩⟩, (Kept.of_below (fun k => k = pw) hB).set rfl 2 _, fun k e => (hown k e).1⟩
    rw [← hL]
    exact owns_base (World.ownsRow.kept (show W.ownsRow w.heap.size 112 2 _ L.length (L.flatMap Kp.c) from hO) (grown_set (grown_refl W (some pw)) 2 _) (.inr (fun e => by have := (hown pw e).1; omega))) (by omega))
  rw [← hP]
  clear h hN hP
  go_enter Tryz.func89, Tryz.ntmps89
  go_wp2_with fail
  go_loopw [6, 7, 8] (fun u d i wr => ∃ (k : Nat) (L : List Kp) (D : Bool), i = .int .i64 k ∧ k ≤ N ∧ d = .bool D ∧ Hid ((K.take k).foldl (putF n s) ([], false) = (L, D)) ∧ Hid (RowK wr w.heap.size u L) ∧ Hid (Below w.heap.size w wr)) (fun _ _ i _ => N - (intOf i).toNat)
  case atStart => exact ⟨0, [], false, by go_num, Nat.zero_le _, rfl, Lib.hid rfl, Lib.hid (World.ownsRow_nil _ _ _ _), Lib.hid (Below.refl _ _)⟩
  case round =>
    obtain ⟨k, L, D, rfl, hk, rfl, hF, hO, hB⟩ := hrel
    have hll : L.length ≤ 10000 := by
      have h1 := putF_len n s (K.take k) ([], false)
      rw [hF.out] at h1
      have h2 : (K.take k).length ≤ N := by rw [List.length_take]; omega
      simp only [List.length_nil] at h1
      omega
    obtain ⟨au, ku, rfl⟩ := owns_slice hO.out
    have hS := hB.out.size
    have o2 := (hB.out.cell (p := ⟨pw, 2, none⟩) hpw).trans c2
    by_cases hlt : k < N
    case pos =>
      obtain ⟨x, hx⟩ : ∃ x, K[k]? = some x := ⟨_, List.getElem?_eq_getElem (by rw [← HN.out]; exact hlt)⟩
      obtain ⟨b, off, rfl, hb, hc⟩ := rs_kp (HR.out.below hB.out (Nat.le_refl _)) (by omega)
      obtain ⟨d0, d1⟩ := hc k x hx
      obtain ⟨⟨xg, xs⟩, rfl⟩ : ∃ y, y = x := ⟨_, rfl⟩
      simp only at d0 d1
      have jk : (k : Int) < (N : Int) := by omega
      have HXK := Lib.hid hx
      have HSN := Lib.hid (putF_snoc hx (n := n) (s := s) ([], false))
      rw [hF.out] at HSN
      clear hx hc

      cases D
      case true =>
        by_cases hxn : xg = n
        case pos =>
          have e2 : (xg != n) = false := by simpa using hxn
          have HZ : Hid ((K.take (k + 1)).foldl (putF n s) ([], false) = (L, true)) := Lib.hid (by rw [HSN.out]; unfold putF; simp [hxn])
          clear hxn
          go_wp2
          go_roundw
          case rel => exact ⟨k + 1, L, true, by go_num, by omega, rfl, HZ, hO, hB⟩
          case measure => simp [intOf]; omega
        case neg =>
          have e2 : (xg != n) = true := by simpa using hxn
          have HZ : Hid ((K.take (k + 1)).foldl (putF n s) ([], false) = (L ++ [⟨xg, xs⟩], true)) := Lib.hid (by rw [HSN.out]; unfold putF; simp [hxn])
          clear hxn
          go_wp2_with (at_builtin; refine wpList_append_own _ rfl _ _ 26 rfl w.heap.size 112 i1 (.agg #[.int .i64 0, .string ByteArray.empty]) 2 24 Tryz.underlying26 hj hy0 hy1 hy2 rfl (by decide) _ _ _ rfl (World.ownsRow.alloc (show wr.ownsRow w.heap.size 112 2 (.slice au L.length ku) L.length (L.flatMap Kp.c) from hO.out) _) ⟨wr.heap.size, 0, none⟩ 1 1 [.int .i64 xg, .string xs] rfl rfl (cells_new wr _ _) (kp_one ⟨xg, xs⟩) (by unfold maxLen; omega) (by omega) (by simp; omega) ?_)
          intro v8 w8 hO8r hg8 _
          have hO8 : Hid (RowK w8 w.heap.size v8 (L ++ [⟨xg, xs⟩])) := Lib.hid (RowK.snoc (x := ⟨xg, xs⟩) hO8r)
          have hB8 : Hid (Below w.heap.size w w8) := Lib.hid ((hB.out.alloc hB.out.size _).grown hg8 (by simp; omega) (fun j hj => (World.ownsRow.lt (show wr.ownsRow w.heap.size 112 2 (.slice au L.length ku) L.length (L.flatMap Kp.c) from hO.out) j hj).1))
          clear hO8r hg8
          go_wp2
          go_roundw
          case rel => exact ⟨k + 1, L ++ [⟨xg, xs⟩], true, by go_num, by omega, rfl, HZ, hO8, hB8⟩
          case measure => simp [intOf]; omega
      case false =>
        by_cases hge : n ≤ xg
        case pos =>
          have e1 : decide (n ≤ xg) = true := decide_eq_true hge
          have HGE := Lib.hid hge
          clear hge
          go_wp2_with (at_builtin; refine wpList_append_own _ rfl _ _ 26 rfl w.heap.size 112 i1 (.agg #[.int .i64 0, .string ByteArray.empty]) 2 24 Tryz.underlying26 hj hy0 hy1 hy2 rfl (by decide) _ _ _ rfl (World.ownsRow.alloc (show wr.ownsRow w.heap.size 112 2 (.slice au L.length ku) L.length (L.flatMap Kp.c) from hO.out) _) ⟨wr.heap.size, 0, none⟩ 1 1 [.int .i64 n, .string s] rfl rfl (cells_new wr _ _) (kp_one ⟨n, s⟩) (by unfold maxLen; omega) (by omega) (by simp; omega) ?_)
          intro v6 w6 hO6r hg6 _
          have hO6 : Hid (RowK w6 w.heap.size v6 (L ++ [⟨n, s⟩])) := Lib.hid (RowK.snoc (x := ⟨n, s⟩) hO6r)
          have hB6 : Hid (Below w.heap.size w w6) := Lib.hid ((hB.out.alloc hB.out.size _).grown hg6 (by simp; omega) (fun j hj => (World.ownsRow.lt (show wr.ownsRow w.heap.size 112 2 (.slice au L.length ku) L.length (L.flatMap Kp.c) from hO.out) j hj).1))
          clear hO6r hg6
          obtain ⟨L6, hL6⟩ : ∃ L6, L6 = L ++ [(⟨n, s⟩ : Kp)] := ⟨_, rfl⟩
          have hl6 : L6.length = L.length + 1 := by rw [hL6, List.length_append]; rfl
          have hl62 : L6.length ≤ 10001 := by omega
          rw [← hL6] at hO6
          have HL6 := Lib.hid hL6
          obtain ⟨a6, k6, rfl⟩ := owns_slice hO6.out
          have hS6 := hB6.out.size
          have p2 := (hB6.out.cell (p := ⟨pw, 2, none⟩) hpw).trans c2
          obtain ⟨b6, off6, hbe, hb6, hc6⟩ := rs_kp (HR.out.below hB6.out (Nat.le_refl _)) (by omega)
          injection hbe with hbe
          injection hbe with hbe1 hbe2 hbe3
          subst hbe1 hbe2
          obtain ⟨y0, y1⟩ := hc6 k ⟨xg, xs⟩ (by have h1 := HSN.out; exact HXK.out)
          simp only at y0 y1
          have HL6l := Lib.hid hl6
          clear hc6 hL6 hl6 d0 d1 o2
          by_cases hxn : xg = n
          case pos =>
            have e2 : (xg != n) = false := by simpa using hxn
            have HZ : Hid ((K.take (k + 1)).foldl (putF n s) ([], false) = (L6, true)) := Lib.hid (by rw [HSN.out]; unfold putF; rw [HL6.out]; simp [HGE.out, hxn])
            clear hxn
            go_wp2
            go_roundw
            case rel => exact ⟨k + 1, L6, true, by go_num, by omega, rfl, HZ, hO6, hB6⟩
            case measure => simp [intOf]; omega
          case neg =>
            have e2 : (xg != n) = true := by simpa using hxn
            have HZ : Hid ((K.take (k + 1)).foldl (putF n s) ([], false) = (L6 ++ [⟨xg, xs⟩], true)) := Lib.hid (by rw [HSN.out]; unfold putF; rw [HL6.out]; simp [HGE.out, hxn])
            clear hxn
            go_wp2_with (at_builtin; refine wpList_append_own _ rfl _ _ 26 rfl w.heap.size 112 i1 (.agg #[.int .i64 0, .string ByteArray.empty]) 2 24 Tryz.underlying26 hj hy0 hy1 hy2 rfl (by decide) _ _ _ rfl (World.ownsRow.alloc (show w6.ownsRow w.heap.size 112 2 (.slice a6 L6.length k6) L6.length (L6.flatMap Kp.c) from hO6.out) _) ⟨w6.heap.size, 0, none⟩ 1 1 [.int .i64 xg, .string xs] rfl rfl (cells_new w6 _ _) (kp_one ⟨xg, xs⟩) (by unfold maxLen; omega) (by omega) (by simp; omega) ?_)
            intro v8 w8 hO8r hg8 _
            have hO8 : Hid (RowK w8 w.heap.size v8 (L6 ++ [⟨xg, xs⟩])) := Lib.hid (RowK.snoc (x := ⟨xg, xs⟩) hO8r)
            have hB8 : Hid (Below w.heap.size w w8) := Lib.hid ((hB6.out.alloc hB6.out.size _).grown hg8 (by simp; omega) (fun j hj => (World.ownsRow.lt (show w6.ownsRow w.heap.size 112 2 (.slice a6 L6.length k6) L6.length (L6.flatMap Kp.c) from hO6.out) j hj).1))
            clear hO8r hg8
            go_wp2
            go_roundw
            case rel => exact ⟨k + 1, L6 ++ [⟨xg, xs⟩], true, by go_num, by omega, rfl, HZ, hO8, hB8⟩
            case measure => simp [intOf]; omega
        case neg =>
          have e1 : decide (n ≤ xg) = false := decide_eq_false hge
          have HGE := Lib.hid hge
          clear hge
          by_cases hxn : xg = n
          case pos =>
            have e2 : (xg != n) = false := by simpa using hxn
            have HZ : Hid ((K.take (k + 1)).foldl (putF n s) ([], false) = (L, false)) := Lib.hid (by rw [HSN.out]; unfold putF; (first | (exfalso; have := HGE.out; omega) | simp [HGE.out, hxn]))
            clear hxn
            go_wp2
            go_roundw
            case rel => exact ⟨k + 1, L, false, by go_num, by omega, rfl, HZ, hO, hB⟩
            case measure => simp [intOf]; omega
          case neg =>
            have e2 : (xg != n) = true := by simpa using hxn
            have HZ : Hid ((K.take (k + 1)).foldl (putF n s) ([], false) = (L ++ [⟨xg, xs⟩], false)) := Lib.hid (by rw [HSN.out]; unfold putF; (first | (exfalso; have := HGE.out; omega) | simp [HGE.out, hxn]))
            clear hxn
            go_wp2_with (at_builtin; refine wpList_append_own _ rfl _ _ 26 rfl w.heap.size 112 i1 (.agg #[.int .i64 0, .string ByteArray.empty]) 2 24 Tryz.underlying26 hj hy0 hy1 hy2 rfl (by decide) _ _ _ rfl (World.ownsRow.alloc (show wr.ownsRow w.heap.size 112 2 (.slice au L.length ku) L.length (L.flatMap Kp.c) from hO.out) _) ⟨wr.heap.size, 0, none⟩ 1 1 [.int .i64 xg, .string xs] rfl rfl (cells_new wr _ _) (kp_one ⟨xg, xs⟩) (by unfold maxLen; omega) (by omega) (by simp; omega) ?_)
            intro v8 w8 hO8r hg8 _
            have hO8 : Hid (RowK w8 w.heap.size v8 (L ++ [⟨xg, xs⟩])) := Lib.hid (RowK.snoc (x := ⟨xg, xs⟩) hO8r)
            have hB8 : Hid (Below w.heap.size w w8) := Lib.hid ((hB.out.alloc hB.out.size _).grown hg8 (by simp; omega) (fun j hj => (World.ownsRow.lt (show wr.ownsRow w.heap.size 112 2 (.slice au L.length ku) L.length (L.flatMap Kp.c) from hO.out) j hj).1))
            clear hO8r hg8
            go_wp2
            go_roundw
            case rel => exact ⟨k + 1, L ++ [⟨xg, xs⟩], false, by go_num, by omega, rfl, HZ, hO8, hB8⟩
            case measure => simp [intOf]; omega
    case neg =>
      have jk : ¬ (k : Int) < (N : Int) := by omega
      have HE : Hid (K.foldl (putF n s) ([], false) = (L, D)) := Lib.hid (by
        have h1 := hF.out
        rwa [List.take_of_length_le (by rw [← HN.out]; omega)] at h1)
      have f2 := (HW.out.ob.below hB.out HW.out.ob.lt).frozen 2
      cases D
      case true =>
        have HF : Hid (P (wr.setCell ⟨pw, 2, none⟩ (.slice au L.length ku))) := Lib.hid (HPI.out wr au ku L (by unfold putK; rw [HE.out]; rfl) hO.out hB.out)
        go_wp2
        go_end0
        exact ⟨⟨_, rfl⟩, HF.out⟩
      case false =>
        go_wp2_with (at_builtin; refine wpList_append_own _ rfl _ _ 26 rfl w.heap.size 112 i1 (.agg #[.int .i64 0, .string ByteArray.empty]) 2 24 Tryz.underlying26 hj hy0 hy1 hy2 rfl (by decide) _ _ _ rfl (World.ownsRow.alloc (show wr.ownsRow w.heap.size 112 2 (.slice au L.length ku) L.length (L.flatMap Kp.c) from hO.out) _) ⟨wr.heap.size, 0, none⟩ 1 1 [.int .i64 n, .string s] rfl rfl (cells_new wr _ _) (kp_one ⟨n, s⟩) (by unfold maxLen; omega) (by omega) (by simp; omega) ?_)
        intro v6 w6 hO6r hg6 _
        have hO6 : Hid (RowK w6 w.heap.size v6 (L ++ [⟨n, s⟩])) := Lib.hid (RowK.snoc (x := ⟨n, s⟩) hO6r)
        have hB6 : Hid (Below w.heap.size w w6) := Lib.hid ((hB.out.alloc hB.out.size _).grown hg6 (by simp; omega) (fun j hj => (World.ownsRow.lt (show wr.ownsRow w.heap.size 112 2 (.slice au L.length ku) L.length (L.flatMap Kp.c) from hO.out) j hj).1))
        clear hO6r hg6
        obtain ⟨L6, hL6⟩ : ∃ L6, L6 = L ++ [(⟨n, s⟩ : Kp)] := ⟨_, rfl⟩
        rw [← hL6] at hO6
        obtain ⟨a6, k6, rfl⟩ := owns_slice hO6.out
        have p2 := (hB6.out.cell (p := ⟨pw, 2, none⟩) hpw).trans c2
        have f6 := (HW.out.ob.below hB6.out HW.out.ob.lt).frozen 2
        have HF : Hid (P (w6.setCell ⟨pw, 2, none⟩ (.slice a6 L6.length k6))) := Lib.hid (HPI.out w6 a6 k6 L6 (by unfold putK; rw [HE.out, hL6]; rfl) hO6.out hB6.out)
        clear hL6
        go_wp2
        go_end0
        exact ⟨⟨_, rfl⟩, HF.out⟩
end Go.Proofs.YtgkcnocfijckoaaGreat
namespace Go.Proofs.YtgkcnocfijckoaaGreat
open Go.RowKit Sg
set_option linter.unusedVariables false
set_option linter.unusedSimpArgs false
/-- what of the world's moves -/
structure Moves (w w' : World) (pw ps m : Nat) (v v' vl vl' : Value) : Prop where
  kept : Kept (fun k => k = pw ∨ k = ps ∨ k = m ∨ v.ownBlock = some k) w w'
  own : ∀ k, v'.ownBlock = some k → v.ownBlock = some k ∨ w.heap.size ≤ k
  ownl : ∀ k, vl'.ownBlock = some k → vl.ownBlock = some k ∨ w.heap.size ≤ k
theorem Moves.of_below {w w' : World} {pw ps m : Nat} {v vl : Value} (hb : Below w.heap.size w w') : Moves w w' pw ps m v v vl vl := ⟨Kept.of_below _ hb, fun _ h => .inl h, fun _ h => .inl h⟩
theorem Moves.of_book {w w' : World} {pw ps m : Nat} {v vl : Value} (hk : Kept (fun k => some m = some k) w w') : Moves w w' pw ps m v v vl vl :=
  ⟨hk.mono (fun k _ e => .inr (.inr (.inl (by injection e with e; exact e.symm)))), fun _ h => .inl h, fun _ h => .inl h⟩
theorem Moves.trans {a b c : World} {pw ps m : Nat} {v v' v'' vl vl' vl'' : Value} (h : Moves a b pw ps m v v' vl vl') (k : Moves b c pw ps m v' v'' vl' vl'') : Moves a c pw ps m v v'' vl vl'' := by
  refine ⟨h.kept.trans k.kept (fun i hi e => ?_), fun i e => ?_, fun i e => ?_⟩
  · rcases e with e | e | e | e
    · exact .inl e
    · exact .inr (.inl e)
    · exact .inr (.inr (.inl e))
    · rcases h.own i e with h1 | h1
      · exact .inr (.inr (.inr h1))
      · omega
  · rcases k.own i e with h1 | h1
    · exact h.own i h1
    · exact .inr (Nat.le_trans h.kept.size h1)
  · rcases k.ownl i e with h1 | h1
    · exact h.ownl i h1
    · exact .inr (Nat.le_trans h.kept.size h1)
theorem WW.book {w w' : World} {pw ps p m : Nat} {v vl : Value} {S S' : Bk} {l : List Gn} {im : Int → ByteArray} {K : List Kp} (h : WW w pw ps p m v vl S l im K) (hk : Kept (fun k => some m = some k) w w') (hI : BookI w' p m S') (hE : Ext S S') : WW w' pw ps p m v vl S' l im K := by
  refine ⟨blkKept h.ob hk (fun e => h.ne.2.2.1 (by injection e with e; exact e.symm)), h.sw.book hk hI hE, ?_, h.ne⟩
  exact owns_block h.row (fun k e => hk.block k (World.ownsRow.lt h.row k e).2 (fun e2 => h.ne.2.2.2.2.2.2.1 (by rw [e]; exact e2.symm)))
theorem WW.done {w w' : World} {pw ps p m : Nat} {v vl v' : Value} {S S' : Bk} {l l' : List Gn} {im im' : Int → ByteArray} {K : List Kp} {s : ByteArray} {e : Int} (h : WW w pw ps p m v vl S l im K) (hD : SWD w ps p m v S l im s w' e v' S' l' im') : WW w' pw ps p m v' vl S' l' im' K ∧ Moves w w' pw ps m v v' vl vl := by
  have hlt := h.ob.lt
  have hown : ∀ k, v'.ownBlock = some k → v.ownBlock = some k ∨ w.heap.size ≤ k := fun k e => by
    rcases hD.own with h1 | ⟨j, h1, h2⟩
    · exact .inl (by rw [← h1]; exact e)
    · rw [h1] at e; injection e with e; exact .inr (by omega)
  obtain ⟨n1, n2, n3, n4, n5, n6, n7, n8⟩ := h.ne
  have hrow : ∀ k, vl.ownBlock = some k → k < w.heap.size := fun k e => (World.ownsRow.lt h.row k e).2
  refine ⟨⟨blkKept h.ob hD.kept ?_, hD.sw, ?_, n1, n2, n3, ?_, n5, n6, n7, ?_⟩, ?_, hown, fun _ h => .inl h⟩
  · rintro (e | e | e)
    · exact n1 e
    · exact n3 e
    · exact n4 e
  · refine owns_block h.row (fun k e => hD.kept.block k (hrow k e) ?_)
    rintro (e2 | e2 | e2)
    · exact n5 (by rw [e, e2])
    · exact n7 (by rw [e, e2])
    · exact n8 k e e2
  · intro e
    rcases hown _ e with h1 | h1
    · exact n4 h1
    · omega
  · intro k e e2
    rcases hown _ e2 with h1 | h1
    · exact n8 k e h1
    · have := hrow k e; omega
  · exact hD.kept.mono (fun k _ e => by
      rcases e with e | e | e
      · exact .inr (.inl e)
      · exact .inr (.inr (.inl e))
      · exact .inr (.inr (.inr e)))
theorem PutP.moves {w w' : World} {pw ps p m : Nat} {v vl : Value} {S : Bk} {l : List Gn} {im : Int → ByteArray} {K' : List Kp} (h : PutP w pw ps p m v S l im K' w') : ∃ vl', WW w' pw ps p m v vl' S l im K' ∧ Moves w w' pw ps m v v vl vl' := by
  obtain ⟨vl', h1, h2, h3⟩ := h
  exact ⟨vl', h1, h2.mono (fun k _ e => .inl e), fun _ h => .inl h, fun k e => .inr (h3 k e)⟩
theorem modelK_len (l : List Gn) (im : Int → ByteArray) : (modelK l im).length = l.length := by simp [modelK]
theorem modelK_at {l : List Gn} {im : Int → ByteArray} {k : Nat} {x : Kp} (h : (modelK l im)[k]? = some x) : ∃ g, l[k]? = some g ∧ x = ⟨g.gen, im g.gen⟩ := by
  unfold modelK at h
  rw [List.getElem?_map] at h
  cases hg : l[k]? with
  | none => rw [hg] at h; cases h
  | some g => rw [hg] at h; exact ⟨g, rfl, (Option.some.inj h).symm⟩
theorem FindP.no {l : List Gn} {im : Int → ByteArray} {n : Int} (h : ∀ x ∈ modelK l im, x.gen ≠ n) (mk : ByteArray) : ¬ blockN l n mk := by
  rintro ⟨g, hg, hgn, _⟩
  exact h ⟨g.gen, im g.gen⟩ (List.mem_map.2 ⟨g, List.mem_of_getElem? hg, rfl⟩) hgn
theorem block_iff {S : Bk} {l : List Gn} {im : Int → ByteArray} (h : Inv S l im) (hS : S.length ≤ 100000000) {k : Nat} {g : Gn} {s : ByteArray} (hg : l[k]? = some g) (hm : bytesOf s ∈ S) : blockN l g.gen (mkI S s) ↔ im g.gen ≠ s ∧ hangsN l g.gen = true := by
  obtain ⟨e1, e2⟩ := h.up.at hg
  have hG := h.each g (List.mem_of_getElem? hg)
  constructor
  · rintro ⟨x, hx, hxn, h1, h2⟩
    rw [e1, hg] at hx
    obtain rfl := Option.some.inj hx
    exact ⟨fun e => h1 (by rw [hG.mark, e]), h2⟩
  · rintro ⟨h1, h2⟩
    refine ⟨g, by rw [e1]; exact hg, rfl, fun e => h1 ?_, h2⟩
    rw [hG.mark] at e
    exact mkI_inj hG.mem hm hS e
/-- what do leaves -/
def WDP (w : World) (pw ps p m : Nat) (v vl : Value) (S : Bk) (l : List Gn) (im : Int → ByteArray) (n : Int) (s : ByteArray) (x : Gn) (w' : World) : Prop :=
  ∃ v' vl' l' im', WW w' pw ps p m v' vl' S l' im' (modelK l' im') ∧ Moves w w' pw ps m v v' vl vl' ∧ ((blockN l n (mkI S s) ∧ l' = l ∧ im' = im) ∨ (¬ blockN l n (mkI S s) ∧ l' = setN l x ∧ im' = updI im n s))
set_option maxRecDepth 100000 in
set_option maxHeartbeats 4000000 in
theorem wDo_any (w : World) (pw ps p m : Nat) (v vl : Value) (S : Bk) (l : List Gn) (im : Int → ByteArray) (h : WW w pw ps p m v vl S l im (modelK l im)) (hS : S.length ≤ 90000000) (hl : l.length < 4096) (rec : ByteArray) (hrs : rec.size ≤ 524288) (n : Int) (s : ByteArray) (x : Gn) (hx : x.gen = n) (hm : bytesOf s ∈ S)
    (h1 : blockN l n (mkI S s) → doS S l im rec.data.toList = (15, l, im, S)) (h2 : ¬ blockN l n (mkI S s) → doS S l im rec.data.toList = (0, setN l x, updI im n s, S)) :
    Calls Tryz.prog 64 #[.pointer (some ⟨pw, 0, none⟩), .string rec, .int .i64 n, .string s] w fun e w' => e = .returned (.bool true) ∧ WDP w pw ps p m v vl S l im n s x w' := by
  obtain ⟨ao, cp, rfl⟩ := owns_slice h.row
  have HFI := Lib.hid (find_any w pw ps p m v _ S l im _ h (by rw [modelK_len]; omega) n)
  have HW := Lib.hid h
  have HH1 := Lib.hid h1
  have HH2 := Lib.hid h2
  have HM := Lib.hid hm
  have c0 := h.ob.cell (i := 0) rfl
  have c2 := h.ob.cell (i := 2) rfl
  have HR := Lib.hid (h.rs rfl)
  obtain ⟨N, hN⟩ : ∃ N, N = (modelK l im).length := ⟨_, rfl⟩
  rw [← hN] at HR c2
  have HN : Hid (N = l.length) := Lib.hid (by rw [hN, modelK_len])
  obtain ⟨P, hP⟩ : ∃ P : World → Prop, P = WDP w pw ps p m v (.slice ao (modelK l im).length cp) S l im n s x := ⟨_, rfl⟩
  rw [← hP]
  have HP := Lib.hid hP
  have HDO := Lib.hid (fun W (hb : Below w.heap.size w W) => (h.sw.below hb).do_ hS hl rec hrs)
  have HXG := Lib.hid hx
  -- not stuck: done, and put
  have HGO : Hid (¬ blockN l n (mkI S s) → ∀ W W2, Below w.heap.size w W → ∀ e v' S' l' im', SWD W ps p m v S l im rec W2 e v' S' l' im' → e = 0 ∧ Calls Tryz.prog 89 #[.pointer (some ⟨pw, 0, none⟩), .int .i64 n, .string s] W2 fun e w' => (∃ r, e = .returned r) ∧ P w') := Lib.hid (by
    intro hnb W W2 hb e v' S' l' im' hD
    have heq := hD.eq
    rw [HH2.out hnb] at heq
    obtain ⟨a1, a2⟩ := (HW.out.below hb).done hD
    have q1 : e = 0 := (congrArg Prod.fst heq).symm
    have q2 : l' = setN l x := (congrArg (fun z : DoT => z.2.1) heq).symm
    have q3 : im' = updI im n s := (congrArg (fun z : DoT => z.2.2.1) heq).symm
    have q4 : S' = S := (congrArg (fun z : DoT => z.2.2.2) heq).symm
    subst q1 q2 q3 q4
    refine ⟨rfl, (put_any W2 pw ps p m v' _ S' _ _ _ a1 (by rw [modelK_len]; omega) n s).mono ?_⟩
    rintro e w' ⟨hr, hp⟩
    refine ⟨hr, ?_⟩
    rw [HP.out]
    rw [← HXG.out, putK_model HW.out.sw.inv.up] at hp
    obtain ⟨vl', b1, b2⟩ := hp.moves
    rw [HXG.out] at b1
    exact ⟨v', vl', _, _, b1, ((Moves.of_below hb).trans a2).trans b2, .inr ⟨hnb, rfl, rfl⟩⟩)
  clear h h1 h2 hm hx hP hN
  go_enter Tryz.func64, Tryz.ntmps64
  go_wp2_with fail
  refine HFI.out.mono ?_
  rintro e w1 ⟨r, rfl, hF, rfl⟩
  rcases hF with ⟨rfl, hno⟩ | ⟨k, y, rfl, hy, hyn⟩
  · have HNB := Lib.hid (FindP.no hno (mkI S s))
    have HD0 := Lib.hid (HDO.out w (Below.refl _ _))
    clear hno
    go_wp2_with fail
    refine HD0.out.mono ?_
    rintro e w2 ⟨e2, v', S', l', im', rfl, hD⟩
    obtain ⟨rfl, hPU⟩ := HGO.out HNB.out w w2 (Below.refl _ _) _ _ _ _ _ hD
    have HPU := Lib.hid hPU
    clear hPU hD
    go_wp2_with fail
    refine HPU.out.mono ?_
    rintro e w3 ⟨⟨r, rfl⟩, hF⟩
    have HF := Lib.hid hF
    clear hF
    go_wp2
    go_ret
    exact ⟨rfl, HF.out⟩
  · obtain ⟨g, hg, hyg⟩ := modelK_at hy
    have hgn : g.gen = n := by rw [← hyn, hyg]
    have HBI : Hid (blockN l n (mkI S s) ↔ im n ≠ s ∧ hangsN l n = true) := Lib.hid (by
      have h := block_iff HW.out.sw.inv (by omega) hg HM.out
      rw [hgn] at h; exact h)
    have hkN : k < N := by rw [HN.out]; exact (List.getElem?_eq_some_iff.1 hg).1
    have hNl : N < 4096 := by rw [HN.out]; exact hl
    obtain ⟨b, off, rfl, hb, hc⟩ := rs_kp HR.out (by omega)
    have d1 := (hc k y hy).2
    have hys : y.s = im n := by rw [hyg, ← hgn]
    obtain ⟨t, ht⟩ : ∃ t, t = im n := ⟨_, rfl⟩
    rw [hys, ← ht] at d1
    rw [← ht] at HBI
    have i1 : (k : Int) < (N : Int) := by omega
    have i2 : (0 : Int) ≤ (k : Int) := by omega
    clear hc hb hy hyn hyg hgn hg hys ht
    by_cases hts : t = s
    case pos =>
      have hne : (t.toList == s.toList) = true := beqS_t (by rw [hts])
      have HNB : Hid (¬ blockN l n (mkI S s)) := Lib.hid (fun hb => (HBI.out.1 hb).1 hts)
      have HD0 := Lib.hid (HDO.out w (Below.refl _ _))
      clear hts
      go_wp2_with fail
      refine HD0.out.mono ?_
      rintro e w2 ⟨e2, v', S', l', im', rfl, hD⟩
      obtain ⟨rfl, hPU⟩ := HGO.out HNB.out w w2 (Below.refl _ _) _ _ _ _ _ hD
      have HPU := Lib.hid hPU
      clear hPU hD
      go_wp2_with fail
      refine HPU.out.mono ?_
      rintro e w3 ⟨⟨r, rfl⟩, hF⟩
      have HF := Lib.hid hF
      clear hF
      go_wp2
      go_ret
      exact ⟨rfl, HF.out⟩
    case neg =>
      have hne : (t.toList == s.toList) = false := beqS_f (fun e => hts (ByteArray.ext (Array.ext' e)))
      have HTS := Lib.hid hts
      have HHG := Lib.hid (wHangs_any w pw ps p m v _ S l im _ HW.out n)
      obtain ⟨HH, hHH⟩ : ∃ R, R = hangsN l n := ⟨_, rfl⟩
      rw [← hHH] at HHG HBI
      clear hts hHH
      go_wp2_with fail
      refine HHG.out.mono ?_
      rintro e w2 ⟨rfl, hb2⟩
      have o0 := (HW.out.ob.below hb2 HW.out.ob.lt).cell (i := 0) rfl
      have HD0 := Lib.hid (HDO.out w2 hb2)
      have HB2 := Lib.hid hb2
      clear hb2 HHG c0
      cases HH
      case true =>
        have HNB := Lib.hid (HBI.out.2 ⟨HTS.out, by first | rfl | trivial⟩)
        go_wp2_with fail
        refine HD0.out.mono ?_
        rintro e w3 ⟨e2, v', S', l', im', rfl, hD⟩
        have heq := hD.eq
        rw [HH1.out HNB.out] at heq
        obtain ⟨a1, a2⟩ := (HW.out.below HB2.out).done hD
        obtain rfl : e2 = 15 := (congrArg Prod.fst heq).symm
        have q2 : l' = l := (congrArg (fun z : DoT => z.2.1) heq).symm
        have q3 : im' = im := (congrArg (fun z : DoT => z.2.2.1) heq).symm
        have q4 : S' = S := (congrArg (fun z : DoT => z.2.2.2) heq).symm
        have HF : Hid (P w3) := Lib.hid (by
          rw [HP.out]
          subst q2 q3 q4
          exact ⟨v', _, _, _, a1, (Moves.of_below HB2.out).trans a2, .inl ⟨HNB.out, rfl, rfl⟩⟩)
        clear heq a1 a2 q2 q3 q4 hD
        go_wp2
        go_ret
        exact ⟨rfl, HF.out⟩
      case false =>
        have HNB : Hid (¬ blockN l n (mkI S s)) := Lib.hid (fun hb => by have := (HBI.out.1 hb).2; first | cases this | exact this.elim)
        go_wp2_with fail
        refine HD0.out.mono ?_
        rintro e w3 ⟨e2, v', S', l', im', rfl, hD⟩
        obtain ⟨rfl, hPU⟩ := HGO.out HNB.out w2 w3 HB2.out _ _ _ _ _ hD
        have HPU := Lib.hid hPU
        clear hPU hD
        go_wp2_with fail
        refine HPU.out.mono ?_
        rintro e w4 ⟨⟨r, rfl⟩, hF⟩
        have HF := Lib.hid hF
        clear hF
        go_wp2
        go_ret
        exact ⟨rfl, HF.out⟩
end Go.Proofs.YtgkcnocfijckoaaGreat
