/- The law's world: gone. Conditions: as named in each theorem. -/
import Derived.Test.YtgkcnocfijckoaaGreatSG
import Derived.Test.YtgkcnocfijckoaaGreatSC
import Derived.Test.YtgkcnocfijckoaaGreatSB
namespace Go.Proofs.YtgkcnocfijckoaaGreat
open Go.RowKit Sg
set_option linter.unusedVariables false
set_option linter.unusedSimpArgs false
theorem WW.store {w W : World} {pw ps p m c : Nat} {v vl : Value} {S : Bk} {l : List Gn} {im : Int → ByteArray} {K L : List Kp} {a : Option Addr} (h : WW w pw ps p m v vl S l im K) (hO : RowK W w.heap.size (.slice a L.length c) L) (hB : Below w.heap.size w W) : PutP w pw ps p m v S l im L (W.setCell ⟨pw, 2, none⟩ (.slice a L.length c)) := by
  have hob := (h.ob.below hB h.ob.lt).set 2 (.slice a L.length c)
  have hsw := h.sw.below hB
  have hne := h.ne
  have hpw := h.ob.lt
  have hlt : ps < w.heap.size ∧ p < w.heap.size ∧ m < w.heap.size := ⟨h.sw.st.lt, h.sw.bk.2.2.2.2.1.1, h.sw.bk.2.2.2.2.1.2⟩
  have hown : ∀ k, (Value.slice a L.length c).ownBlock = some k → w.heap.size ≤ k ∧ k < W.heap.size := fun k e => World.ownsRow.lt hO k e
  refine ⟨_, ⟨hob, hsw.keep ((Kept.refl (fun k => k = pw) W).set rfl 2 _) (fun e => hne.1 e.symm) (fun k e e2 => hne.2.2.2.1 (by rw [e, e2])) (fun e => hne.2.1 e.symm) (fun e => hne.2.2.1 e.symm), ?_, ⟨hne.1, hne.2.1, hne.2.2.1, hne.2.2.2.1, fun e => by have := hown _ e; omega, fun e => by have := hown _ e; omega, fun e => by have := hown _ e; omega, fun k e e2 => by have := hown _ e; have h5 := h.sw.own e2; omega⟩⟩, (Kept.of_below (fun k => k = pw) hB).set rfl 2 _, fun k e => (hown k e).1⟩
  exact owns_base (World.ownsRow.kept (show W.ownsRow w.heap.size 112 2 _ L.length (L.flatMap Kp.c) from hO) (grown_set (grown_refl W (some pw)) 2 _) (.inr (fun e => by have := (hown pw e).1; omega))) (by omega)
def badG (f c : Int) (g : Gn) : Bool := staysN f c g.gen && !staysN f c g.basis
theorem bad_any {f c : Int} {l : List Gn} : (∃ g ∈ l, staysN f c g.gen = true ∧ staysN f c g.basis = false) ↔ l.any (badG f c) = true := by
  rw [List.any_eq_true]
  constructor
  · rintro ⟨g, hg, h1, h2⟩; exact ⟨g, hg, by unfold badG; rw [h1, h2]; rfl⟩
  · rintro ⟨g, hg, h⟩
    unfold badG at h
    rw [Bool.and_eq_true] at h
    exact ⟨g, hg, h.1, by simpa using h.2⟩
theorem model_filter (l : List Gn) (im : Int → ByteArray) (f c : Int) : (modelK l im).filter (fun x => staysN f c x.gen) = modelK (l.filter (fun g => staysN f c g.gen)) im := by
  unfold modelK
  rw [List.filter_map]; rfl
/-- what gone leaves -/
def WGP (w : World) (pw ps p m : Nat) (v vl : Value) (S : Bk) (l : List Gn) (im : Int → ByteArray) (f c : Int) (w' : World) : Prop :=
  ∃ v' vl' l', WW w' pw ps p m v' vl' S l' im (modelK l' im) ∧ Moves w w' pw ps m v v' vl vl' ∧ (l' = l ∨ l' = l.filter (fun g => staysN f c g.gen)) ∧ (GnOk f c → l.any (badG f c) = false → l' = l.filter (fun g => staysN f c g.gen))
set_option maxRecDepth 100000 in
set_option maxHeartbeats 8000000 in
theorem wGone_any (w : World) (pw ps p m : Nat) (v vl : Value) (S : Bk) (l : List Gn) (im : Int → ByteArray) (h : WW w pw ps p m v vl S l im (modelK l im)) (hS : S.length ≤ 90000000) (hl : l.length < 4096) (f c : Int) (wf : (Lit.int .i64 f).wf = true) (wc : (Lit.int .i64 c).wf = true) :
    Calls Tryz.prog 66 #[.pointer (some ⟨pw, 0, none⟩), .int .i64 f, .int .i64 c] w fun e w' => e = .returned (.bool true) ∧ WGP w pw ps p m v vl S l im f c w' := by
  obtain ⟨i1, hj, hy0, hy1, hy2⟩ := info_parts infoKp
  have hgz := kpZ_run
  have HW := Lib.hid h
  have HGN := Lib.hid (stGone_any w f c wf wc)
  obtain ⟨P, hP⟩ : ∃ P : World → Prop, P = WGP w pw ps p m v vl S l im f c := ⟨_, rfl⟩
  rw [← hP]
  have HP := Lib.hid hP
  obtain ⟨ao, cp, rfl⟩ := owns_slice h.row
  clear h hP
  go_enter Tryz.func66, Tryz.ntmps66
  go_wp2_with fail
  refine HGN.out.mono ?_
  rintro e w1 ⟨hb1, ⟨hno, rfl⟩ | ⟨hok, rfl⟩⟩
  · have HF : Hid (P w1) := Lib.hid (by
      rw [HP.out]
      exact ⟨v, _, l, HW.out.below hb1, Moves.of_below hb1, .inl rfl, fun h => absurd h hno⟩)
    clear hb1
    by_cases h0 : f < 0
    case pos =>
      have d0 : decide (f < 0) = true := decide_eq_true h0
      clear h0 hno
      go_wp2
      go_ret
      exact ⟨rfl, HF.out⟩
    have d0 : decide (f < 0) = false := decide_eq_false h0
    by_cases h1 : c < f
    case pos =>
      have d1 : decide (c < f) = true := decide_eq_true h1
      clear h0 h1 hno
      go_wp2
      go_ret
      exact ⟨rfl, HF.out⟩
    have d1 : decide (c < f) = false := decide_eq_false h1
    have d2 : decide (4611686018427387903 < c) = true := decide_eq_true (by
      refine Classical.byContradiction fun h2 => hno ⟨by omega, by omega, by omega⟩)
    clear h0 h1 hno
    go_wp2
    go_ret
    exact ⟨rfl, HF.out⟩
  have d0 : decide (f < 0) = false := decide_eq_false (by have := hok.1; omega)
  have d1 : decide (c < f) = false := decide_eq_false (by have := hok.2.1; omega)
  have d2 : decide (4611686018427387903 < c) = false := decide_eq_false (by have := hok.2.2; omega)
  have HOK := Lib.hid hok
  obtain ⟨R, hR⟩ : ∃ R, R = recG f.toNat c.toNat := ⟨_, rfl⟩
  rw [← hR]
  have hRs : R.size ≤ 524288 := by
    rw [hR]; unfold recG
    rw [ByteArray.size_append, ByteArray.size_append, numBs_size, numBs_size]
    have := numL_le9 f.toNat (by have := hok.2.1; have := hok.2.2; have := hok.1; omega)
    have := numL_le9 c.toNat (by have := hok.2.2; have := hok.1; omega)
    have : (⟨#[71]⟩ : ByteArray).size = 1 := rfl
    omega
  have HRG : Hid ((l.any (badG f c) = true → doS S l im R.data.toList = (13, l, im, S)) ∧ (l.any (badG f c) = false → doS S l im R.data.toList = (0, l.filter (fun g => staysN f c g.gen), im, S))) := Lib.hid (by
    have h1 := doS_G (S := S) (l := l) (im := im) (f := f.toNat) (c := c.toNat) (by have := hok.2.1; have := hok.2.2; have := hok.1; omega) (by have := hok.2.2; have := hok.1; omega)
    have e1 : ((f.toNat : Nat) : Int) = f := by have := hok.1; omega
    have e2 : ((c.toNat : Nat) : Int) = c := by have := hok.1; have := hok.2.1; omega
    rw [e1, e2, ← hR] at h1
    refine ⟨fun h => h1.1 (bad_any.2 h), fun h => h1.2 (fun h2 => by rw [bad_any.1 h2] at h; cases h)⟩)
  have HW1 := Lib.hid (HW.out.below hb1)
  have HB1 := Lib.hid hb1
  have o0 := HW1.out.ob.cell (i := 0) rfl
  have HGE := Lib.hid HW1.out.sw.gens
  clear hb1 hok hR
  go_wp2_with fail
  refine HGE.out.mono ?_
  rintro e w2 ⟨v2, rfl, hO2, hb2⟩
  obtain ⟨a2, k2, rfl⟩ := owns_slice hO2
  obtain ⟨N, hN⟩ : ∃ N, N = (gsG l).length := ⟨_, rfl⟩
  have hR2 := RowG.rs (gs := gsG l) hO2 rfl
  rw [← hN] at hR2 ⊢
  have HN : Hid (N = l.length) := Lib.hid (by rw [hN, gsG_len])
  have HR2 := Lib.hid hR2
  have HW2 := Lib.hid (HW1.out.below hb2)
  have HB2 := Lib.hid (bl_nx HB1.out hb2)
  clear hN hO2 hb2 hR2 HGE o0
  have hN2 : N ≤ 4096 := by rw [HN.out]; omega
  go_wp2_with fail
  go_loopw [10, 11] (fun d i wr => ∃ k : Nat, i = .int .i64 k ∧ k ≤ N ∧ d = .bool ((l.take k).any (badG f c)) ∧ wr = w2) (fun _ i _ => N - (intOf i).toNat)
  case atStart => exact ⟨0, by go_num, Nat.zero_le _, by simp, rfl⟩
  case round =>
    obtain ⟨k, rfl, hk, rfl, rfl⟩ := hrel
    obtain ⟨D, hD⟩ : ∃ D, D = (l.take k).any (badG f c) := ⟨_, rfl⟩
    rw [← hD]
    have HD := Lib.hid hD
    clear hD
    by_cases hlt : k < N
    case pos =>
      obtain ⟨g, hg⟩ : ∃ g, l[k]? = some g := ⟨_, List.getElem?_eq_getElem (by rw [← HN.out]; exact hlt)⟩
      have hg2 : (gsG l)[k]? = some g.g := by unfold gsG; rw [List.getElem?_map, hg]; rfl
      obtain ⟨b, off, rfl, hb, hc⟩ := rs_g4 HR2.out (by omega)
      have e0 := (hc k _ hg2).1
      have e1 := (hc k _ hg2).2.1
      obtain ⟨⟨gg, gb, gm, gt⟩, rfl⟩ : ∃ x, x = g := ⟨_, rfl⟩
      simp only [Gn.g] at e0 e1
      have jk : (k : Int) < (N : Int) := by omega
      have HNX : Hid (∀ b : Bool, badG f c ⟨gg, gb, gm, gt⟩ = b → (l.take (k + 1)).any (badG f c) = (D || b)) := Lib.hid (by
        intro b hb
        rw [List.take_add_one, hg, List.any_append, ← HD.out]
        simp [hb])
      clear hc hg hg2 hb
      cases D
      case true =>
        have HZ : Hid ((l.take (k + 1)).any (badG f c) = true) := Lib.hid (by rw [HNX.out _ rfl]; simp)
        go_wp2
        go_roundw
        case rel => exact ⟨k + 1, by go_num, by omega, by rw [HZ.out], by first | rfl | trivial⟩
        case measure => simp [intOf]; omega
      case false =>
        by_cases h1 : f ≤ gg
        case neg =>
          have z1 : decide (f ≤ gg) = false := decide_eq_false h1
          have HZ : Hid ((l.take (k + 1)).any (badG f c) = false) := Lib.hid (by rw [HNX.out false (by unfold badG staysN; simp only; rw [z1]; rfl)]; rfl)
          clear h1
          go_wp2
          go_roundw
          case rel => exact ⟨k + 1, by go_num, by omega, by rw [HZ.out], by first | rfl | trivial⟩
          case measure => simp [intOf]; omega
        have z1 : decide (f ≤ gg) = true := decide_eq_true h1
        by_cases h2 : gg < c
        case neg =>
          have z2 : decide (gg < c) = false := decide_eq_false h2
          have HZ : Hid ((l.take (k + 1)).any (badG f c) = false) := Lib.hid (by rw [HNX.out false (by unfold badG staysN; simp only; rw [z1, z2]; rfl)]; rfl)
          clear h1 h2
          go_wp2
          go_roundw
          case rel => exact ⟨k + 1, by go_num, by omega, by rw [HZ.out], by first | rfl | trivial⟩
          case measure => simp [intOf]; omega
        have z2 : decide (gg < c) = true := decide_eq_true h2
        by_cases h3 : gb < f
        case pos =>
          have z3 : decide (gb < f) = true := decide_eq_true h3
          have z3' : decide (f ≤ gb) = false := decide_eq_false (by omega)
          have HZ : Hid ((l.take (k + 1)).any (badG f c) = true) := Lib.hid (by rw [HNX.out true (by unfold badG staysN; simp only; rw [z1, z2, z3']; rfl)]; rfl)
          clear h1 h2 h3 z3'
          go_wp2
          go_roundw
          case rel => exact ⟨k + 1, by go_num, by omega, by rw [HZ.out], by first | rfl | trivial⟩
          case measure => simp [intOf]; omega
        have z3 : decide (gb < f) = false := decide_eq_false h3
        have Z3 : Hid (decide (f ≤ gb) = true) := Lib.hid (decide_eq_true (by omega))
        by_cases h4 : c ≤ gb
        case pos =>
          have z4 : decide (c ≤ gb) = true := decide_eq_true h4
          have HZ : Hid ((l.take (k + 1)).any (badG f c) = true) := Lib.hid (by rw [HNX.out true (by unfold badG staysN; simp only; rw [z1, z2, Z3.out, decide_eq_false (show ¬ gb < c by omega)]; rfl)]; rfl)
          clear h1 h2 h3 h4
          go_wp2
          go_roundw
          case rel => exact ⟨k + 1, by go_num, by omega, by rw [HZ.out], by first | rfl | trivial⟩
          case measure => simp [intOf]; omega
        have z4 : decide (c ≤ gb) = false := decide_eq_false h4
        have HZ : Hid ((l.take (k + 1)).any (badG f c) = false) := Lib.hid (by rw [HNX.out false (by unfold badG staysN; simp only; rw [z1, z2, Z3.out, decide_eq_true (show gb < c by omega)]; rfl)]; rfl)
        clear h1 h2 h3 h4
        go_wp2
        go_roundw
        case rel => exact ⟨k + 1, by go_num, by omega, by rw [HZ.out], by first | rfl | trivial⟩
        case measure => simp [intOf]; omega
    case neg =>
      have jk : ¬ (k : Int) < (N : Int) := by omega
      have HDE : Hid (l.any (badG f c) = D) := Lib.hid (by
        have h1 := HD.out
        rw [List.take_of_length_le (by rw [← HN.out]; omega)] at h1
        exact h1.symm)
      have o0 := HW2.out.ob.cell (i := 0) rfl
      have HDO := Lib.hid (HW2.out.sw.do_ hS hl R hRs)
      clear hk hlt
      go_wp2_with fail
      refine HDO.out.mono ?_
      rintro e w3 ⟨x3, v3, S3, l3, im3, rfl, hD3⟩
      have heq := hD3.eq
      obtain ⟨b1, b2⟩ := HW2.out.done hD3
      cases D
      case true =>
        rw [HRG.out.1 HDE.out] at heq
        obtain rfl : x3 = 13 := (congrArg Prod.fst heq).symm
        have q2 : l3 = l := (congrArg (fun z : DoT => z.2.1) heq).symm
        have q3 : im3 = im := (congrArg (fun z : DoT => z.2.2.1) heq).symm
        have q4 : S3 = S := (congrArg (fun z : DoT => z.2.2.2) heq).symm
        have HF : Hid (P w3) := Lib.hid (by
          rw [HP.out]
          subst q2 q3 q4
          exact ⟨v3, _, _, b1, (Moves.of_below HB2.out).trans b2, .inl rfl, fun _ h => by rw [HDE.out] at h; cases h⟩)
        clear heq b1 b2 q2 q3 q4 hD3 HDO o0
        go_wp2
        go_ret
        exact ⟨rfl, HF.out⟩
      case false =>
        rw [HRG.out.2 HDE.out] at heq
        obtain rfl : x3 = 0 := (congrArg Prod.fst heq).symm
        have q2 : l3 = l.filter (fun g => staysN f c g.gen) := (congrArg (fun z : DoT => z.2.1) heq).symm
        have q3 : im3 = im := (congrArg (fun z : DoT => z.2.2.1) heq).symm
        have q4 : S3 = S := (congrArg (fun z : DoT => z.2.2.2) heq).symm
        have HW3 : Hid (WW w3 pw ps p m v3 (.slice ao (modelK l im).length cp) S (l.filter (fun g => staysN f c g.gen)) im (modelK l im)) := Lib.hid (by subst q2 q3 q4; exact b1)
        have HM3 := Lib.hid ((Moves.of_below (pw := pw) (ps := ps) (m := m) (v := v) (vl := (Value.slice ao (modelK l im).length cp)) HB2.out).trans b2)
        clear heq b1 b2 q2 q3 q4 hD3 HDO o0
        have HRK := Lib.hid (HW3.out.rs rfl)
        have c2 := HW3.out.ob.cell (i := 2) rfl
        have hpw := HW3.out.ob.lt
        have hmN : (modelK l im).length = N := by rw [modelK_len, HN.out]
        rw [hmN] at HRK c2
        clear hmN
        go_wp2_with fail
        go_loopw [13, 14] (fun u i wr => ∃ (k : Nat) (L : List Kp), i = .int .i64 k ∧ k ≤ N ∧ Hid (((modelK l im).take k).filter (fun x => staysN f c x.gen) = L) ∧ L.length ≤ k ∧ Hid (RowK wr w3.heap.size u L) ∧ Hid (Below w3.heap.size w3 wr)) (fun _ i _ => N - (intOf i).toNat)
        case atStart => exact ⟨0, [], by go_num, Nat.zero_le _, Lib.hid (by simp), Nat.le_refl _, Lib.hid (World.ownsRow_nil _ _ _ _), Lib.hid (Below.refl _ _)⟩
        case round =>
          obtain ⟨k, L, rfl, hk, hF, hll, hO, hB⟩ := hrel
          obtain ⟨au, ku, rfl⟩ := owns_slice hO.out
          have hS3 := hB.out.size
          have o2 := (hB.out.cell (p := ⟨pw, 2, none⟩) hpw).trans c2
          by_cases hlt : k < N
          case pos =>
            obtain ⟨x, hx⟩ : ∃ x, (modelK l im)[k]? = some x := ⟨_, List.getElem?_eq_getElem (by rw [modelK_len, ← HN.out]; exact hlt)⟩
            obtain ⟨b, off, rfl, hb, hc⟩ := rs_kp (HRK.out.below hB.out (Nat.le_refl _)) (by omega)
            obtain ⟨e0, e1⟩ := hc k x hx
            obtain ⟨⟨xg, xs⟩, rfl⟩ : ∃ y, y = x := ⟨_, rfl⟩
            simp only at e0 e1
            have jk : (k : Int) < (N : Int) := by omega
            have HNX : Hid (∀ b : Bool, staysN f c xg = b → ((modelK l im).take (k + 1)).filter (fun x => staysN f c x.gen) = if b = true then L ++ [⟨xg, xs⟩] else L) := Lib.hid (by
              intro b hb
              rw [List.take_add_one, hx, List.filter_append, hF.out]
              cases b <;> simp [hb])
            clear hx hc
            by_cases h1 : f ≤ xg
            case neg =>
              have z1 : decide (f ≤ xg) = false := decide_eq_false h1
              have HZ := Lib.hid (HNX.out false (by unfold staysN; rw [z1]; rfl))
              clear h1
              go_wp2
              go_roundw
              case rel => exact ⟨k + 1, L, by go_num, by omega, Lib.hid (by rw [HZ.out]; rfl), by omega, hO, hB⟩
              case measure => simp [intOf]; omega
            have z1 : decide (f ≤ xg) = true := decide_eq_true h1
            by_cases h2 : xg < c
            case neg =>
              have z2 : decide (xg < c) = false := decide_eq_false h2
              have HZ := Lib.hid (HNX.out false (by unfold staysN; rw [z1, z2]; rfl))
              clear h1 h2
              go_wp2
              go_roundw
              case rel => exact ⟨k + 1, L, by go_num, by omega, Lib.hid (by rw [HZ.out]; rfl), by omega, hO, hB⟩
              case measure => simp [intOf]; omega
            have z2 : decide (xg < c) = true := decide_eq_true h2
            have HZ := Lib.hid (HNX.out true (by unfold staysN; rw [z1, z2]; rfl))
            clear h1 h2
            go_wp2_with (at_builtin; refine wpList_append_own _ rfl _ _ 26 rfl w3.heap.size 112 i1 (.agg #[.int .i64 0, .string ByteArray.empty]) 2 24 Tryz.underlying26 hj hy0 hy1 hy2 rfl (by decide) _ _ _ rfl (World.ownsRow.alloc (show wr.ownsRow w3.heap.size 112 2 (.slice au L.length ku) L.length (L.flatMap Kp.c) from hO.out) _) ⟨wr.heap.size, 0, none⟩ 1 1 [.int .i64 xg, .string xs] rfl rfl (cells_new wr _ _) (kp_one ⟨xg, xs⟩) (by unfold maxLen; omega) (by omega) (by simp; omega) ?_)
            intro v8 w8 hO8r hg8 _
            have hO8 : Hid (RowK w8 w3.heap.size v8 (L ++ [⟨xg, xs⟩])) := Lib.hid (RowK.snoc (x := ⟨xg, xs⟩) hO8r)
            have hB8 : Hid (Below w3.heap.size w3 w8) := Lib.hid ((hB.out.alloc hB.out.size _).grown hg8 (by simp; omega) (fun j hj => (World.ownsRow.lt (show wr.ownsRow w3.heap.size 112 2 (.slice au L.length ku) L.length (L.flatMap Kp.c) from hO.out) j hj).1))
            clear hO8r hg8
            go_wp2
            go_roundw
            case rel => exact ⟨k + 1, L ++ [⟨xg, xs⟩], by go_num, by omega, Lib.hid (by rw [HZ.out]; rfl), by rw [List.length_append]; simp; omega, hO8, hB8⟩
            case measure => simp [intOf]; omega
          case neg =>
            have jk : ¬ (k : Int) < (N : Int) := by omega
            have f2 := (HW3.out.ob.below hB.out HW3.out.ob.lt).frozen 2
            have HF : Hid (P (wr.setCell ⟨pw, 2, none⟩ (.slice au L.length ku))) := Lib.hid (by
              have h1 := hF.out
              rw [List.take_of_length_le (by rw [modelK_len, ← HN.out]; omega), model_filter] at h1
              have h2 := HW3.out.store hO.out hB.out
              obtain ⟨vl', h3, h4⟩ := h2.moves
              rw [HP.out]
              subst h1
              exact ⟨v3, vl', _, h3, HM3.out.trans h4, .inr rfl, fun _ _ => rfl⟩)
            go_wp2
            go_ret
            exact ⟨rfl, HF.out⟩
end Go.Proofs.YtgkcnocfijckoaaGreat
namespace Go.Proofs.YtgkcnocfijckoaaGreat
open Go.RowKit Sg
set_option linter.unusedVariables false
set_option linter.unusedSimpArgs false
def cut6 (t : ByteArray) : ByteArray := if 600 < t.size then t.extract 0 600 else t
theorem cut6_size (t : ByteArray) : (cut6 t).size ≤ 600 := by
  unfold cut6
  split
  · rw [ByteArray.size_extract]; omega
  · omega
set_option maxHeartbeats 1000000 in
theorem cut_any (w : World) (t : ByteArray) (ht : t.size ≤ maxLen) : Calls Tryz.prog 18 #[.string t] w fun e w' => e = .returned (.string (cut6 t)) ∧ w = w' := by
  obtain ⟨s, hs⟩ : ∃ s, s = cut6 t := ⟨_, rfl⟩
  rw [← hs]
  unfold cut6 at hs
  by_cases h : 600 < t.size
  case pos =>
    rw [if_pos h] at hs
    have d : decide ((600 : Int) < (t.size : Int)) = true := decide_eq_true (by omega)
    have i1 : (600 : Int) ≤ (t.size : Int) := by omega
    have HS := Lib.hid hs
    clear hs h
    go_enter Tryz.func18, Tryz.ntmps18
    go_wp2
    go_ret
    exact ⟨by rw [HS.out]; rfl, rfl⟩
  case neg =>
    rw [if_neg h] at hs
    have d : decide ((600 : Int) < (t.size : Int)) = false := decide_eq_false (by omega)
    have HS := Lib.hid hs
    clear hs h
    go_enter Tryz.func18, Tryz.ntmps18
    go_wp2
    go_ret
    exact ⟨by rw [HS.out]; rfl, rfl⟩
/-- what a step leaves -/
def STP (w : World) (pw ps p m : Nat) (v vl : Value) (S : Bk) (l : List Gn) (w' : World) : Prop :=
  ∃ v' vl' S' l' im', WW w' pw ps p m v' vl' S' l' im' (modelK l' im') ∧ Moves w w' pw ps m v v' vl vl' ∧ Ext S S' ∧ S'.length ≤ S.length + 3000020 ∧ l'.length ≤ l.length + 1
theorem WGP.stp {w w' : World} {pw ps p m : Nat} {v vl : Value} {S : Bk} {l : List Gn} {im : Int → ByteArray} {f c : Int} (h : WGP w pw ps p m v vl S l im f c w') : STP w pw ps p m v vl S l w' := by
  obtain ⟨v', vl', l', h1, h2, h3, _⟩ := h
  refine ⟨v', vl', S, l', im, h1, h2, Ext.refl S, by omega, ?_⟩
  rcases h3 with rfl | rfl
  · omega
  · exact Nat.le_trans (List.length_filter_le _ _) (Nat.le_succ _)
theorem WDP.stp {w0 w w' : World} {pw ps p m : Nat} {v vl : Value} {S0 S : Bk} {l : List Gn} {im : Int → ByteArray} {n : Int} {s : ByteArray} {x : Gn} (h : WDP w pw ps p m v vl S l im n s x w') (hm : Moves w0 w pw ps m v v vl vl) (hE : Ext S0 S) (hl : S.length ≤ S0.length + 3000020) : STP w0 pw ps p m v vl S0 l w' := by
  obtain ⟨v', vl', l', im', h1, h2, h3⟩ := h
  refine ⟨v', vl', S, l', im', h1, hm.trans h2, hE, hl, ?_⟩
  rcases h3 with ⟨_, rfl, _⟩ | ⟨_, rfl, _⟩
  · omega
  · exact setN_len _ _
/-- a record that keeps t as the generation n -/
def RecOk (S : Bk) (l : List Gn) (im : Int → ByteArray) (rec : ByteArray) (n : Int) (t : ByteArray) : Prop :=
  ∃ x : Gn, x.gen = n ∧ rec.size ≤ 524288 ∧ bytesOf t ∈ S ∧ (blockN l n (mkI S t) → doS S l im rec.data.toList = (15, l, im, S)) ∧ (¬ blockN l n (mkI S t) → doS S l im rec.data.toList = (0, setN l x, updI im n t, S))
theorem numL_n {n : Int} (h : NumOk n) : (numL n.toNat).length ≤ 9 := numL_le9 _ (by have := h.1; have := h.2; omega)
theorem recW_ok {S : Bk} {l : List Gn} {im : Int → ByteArray} {n : Int} {t : ByteArray} (hn : NumOk n) (ht : t.size ≤ 10000) (hm : bytesOf t ∈ S) : RecOk S l im (recW n.toNat (mkI S t) t) n t := by
  have e : ((n.toNat : Nat) : Int) = n := by have := hn.1; omega
  have h := doS_W (S := S) (l := l) (im := im) (n := n.toNat) (t := t) (by have := hn.1; have := hn.2; omega) (by omega) hm
  rw [e] at h
  refine ⟨⟨n, n, mkI S t, t⟩, rfl, ?_, hm, h.1, h.2⟩
  rw [recW_size, mkI_size]
  have := numL_n hn
  omega
theorem recD_ok {S : Bk} {l : List Gn} {im : Int → ByteArray} {n b : Int} {d : Dl} {x t : ByteArray} (hn : NumOk n) (hinv : Inv S l im) {g : Gn} (hg : g ∈ l) (hgb : g.gen = b) (hbn : b < n) (hx : x.size ≤ 500000) (hd : readD x.data.toList = (d, 0)) (ha : AppOk S (im b) d t) (hmt : bytesOf t ∈ S) : RecOk S l im (recD n.toNat b.toNat d.mark x) n t := by
  have hG := hinv.each g hg
  have e : ((n.toNat : Nat) : Int) = n := by have := hn.1; omega
  have e2 : ((b.toNat : Nat) : Int) = b := by have := hG.lo; omega
  have hh : hasN l b = true := (hinv.up.has_iff b).2 ⟨g, hg, hgb⟩
  have h := doS_D (S := S) (l := l) (im := im) (n := n.toNat) (b := b.toNat) (d := d) (x := x) (t := t) (by have := hn.1; have := hn.2; omega) (by have := hG.lo; omega) (by rw [e2]; exact hh) hd (by rw [e2]; exact ha) (by rw [e2, ← hgb]; exact hG.mem) hmt
  rw [e, e2, ha.2.2.2] at h
  refine ⟨⟨n, b, mkI S t, x⟩, rfl, ?_, hmt, ?_, ?_⟩
  · rw [recD_size, ha.1.2.1]
    have := numL_n hn
    have := numL_le9 b.toNat (by have := hG.hi; have := hG.lo; omega)
    omega
  · rw [ha.2.2.2]; exact h.1
  · rw [ha.2.2.2]; exact h.2
theorem BeR.rec_ok {S : Bk} {l : List Gn} {im : Int → ByteArray} {n deep : Int} {t rec : ByteArray} (h : BeR S l im n t deep rec) (hinv : Inv S l im) (hn : NumOk n) (ht : t.size ≤ 10000) (hm : bytesOf t ∈ S) : RecOk S l im rec n t := by
  rcases h with h | ⟨g, d, hg, h0, hr, hd, ha, _, hs⟩
  · rw [h]; exact recW_ok hn ht hm
  · rw [hr]
    have hsz : (⟨(bytesD d).toArray⟩ : ByteArray).size ≤ 500000 := by
      rw [hr, recD_size, recW_size, mkI_size] at hs
      have := numL_n hn
      omega
    exact recD_ok hn hinv (List.mem_of_getElem? hg) rfl (atN_below (by omega) hg) hsz hd ha hm
theorem wDo_rec (w : World) (pw ps p m : Nat) (v vl : Value) (S : Bk) (l : List Gn) (im : Int → ByteArray) (h : WW w pw ps p m v vl S l im (modelK l im)) (hS : S.length ≤ 90000000) (hl : l.length < 4096) (rec : ByteArray) (n : Int) (s : ByteArray) (hr : RecOk S l im rec n s) :
    Calls Tryz.prog 64 #[.pointer (some ⟨pw, 0, none⟩), .string rec, .int .i64 n, .string s] w fun e w' => e = .returned (.bool true) ∧ ∃ x, WDP w pw ps p m v vl S l im n s x w' := by
  obtain ⟨x, hx, hrs, hm, h1, h2⟩ := hr
  exact (wDo_any w pw ps p m v vl S l im h hS hl rec hrs n s x hx hm h1 h2).mono fun e w' h => ⟨h.1, x, h.2⟩
end Go.Proofs.YtgkcnocfijckoaaGreat
namespace Go.Proofs.YtgkcnocfijckoaaGreat
open Go.RowKit Sg
set_option linter.unusedVariables false
set_option linter.unusedSimpArgs false
set_option maxRecDepth 100000 in
set_option maxHeartbeats 8000000 in
theorem stepG_any (w : World) (pw ps p m : Nat) (v vl : Value) (S : Bk) (l : List Gn) (im : Int → ByteArray) (h : WW w pw ps p m v vl S l im (modelK l im)) (hS : S.length ≤ 70000000) (hl : l.length < 4000) (kd n mm : Int) (wn : (Lit.int .i64 n).wf = true) (wm : (Lit.int .i64 mm).wf = true) (t : ByteArray) (ht : t.size ≤ maxLen) (hk : kd = 3) :
    Calls Tryz.prog 31 #[.pointer (some ⟨pw, 0, none⟩), .agg #[.int .i64 kd, .int .i64 n, .int .i64 mm, .string t]] w fun e w' => e = .returned (.bool true) ∧ STP w pw ps p m v vl S l w' := by
  obtain ⟨V, hV⟩ : ∃ V, V = w.alloc (Obj.cells #[.int .i64 kd, .int .i64 n, .int .i64 mm, .string t] 71) := ⟨_, rfl⟩
  obtain ⟨q, hq⟩ : ∃ q, q = w.heap.size := ⟨_, rfl⟩
  have hG : Blk V q [.int .i64 kd, .int .i64 n, .int .i64 mm, .string t] 71 := by rw [hV, hq]; exact Blk.new _ _ _
  have hbV : Below w.heap.size w V := by rw [hV]; exact below_alloc _ _
  have HV := Lib.hid (And.intro hV hq)
  have HG := Lib.hid hG
  have HW := Lib.hid (h.below hbV)
  have HB := Lib.hid hbV
  have HCU := Lib.hid (cut_any V t ht)
  obtain ⟨s, hs⟩ : ∃ s, s = cut6 t := ⟨_, rfl⟩
  have hss : s.size ≤ 600 := by rw [hs]; exact cut6_size t
  rw [← hs] at HCU
  have q0 := hG.cell (i := 0) rfl
  have q1 := hG.cell (i := 1) rfl
  have q2 := hG.cell (i := 2) rfl
  have q3 := hG.cell (i := 3) rfl
  have hqw : w.heap.size ≤ q := by omega
  have HNE : Hid (q ≠ pw ∧ q ≠ ps ∧ q ≠ p ∧ q ≠ m ∧ (∀ k, v.ownBlock = some k → k ≠ q) ∧ (∀ k, vl.ownBlock = some k → k ≠ q)) := Lib.hid (by
    have h1 := h.ob.lt
    have h2 := h.sw.st.lt
    have h3 := h.sw.bk.2.2.2.2.1
    refine ⟨by omega, by omega, by omega, by omega, fun k e => ?_, fun k e => ?_⟩
    · have := h.sw.own e; omega
    · have := (World.ownsRow.lt h.row k e).2; omega)
  obtain ⟨P, hP⟩ : ∃ P : World → Prop, P = STP w pw ps p m v vl S l := ⟨_, rfl⟩
  rw [← hP]
  have HP := Lib.hid hP
  have HKD := Lib.hid hk
  clear hV hq hG hbV h hs hP hqw hk
  go_enter Tryz.func31, Tryz.ntmps31
  go_upto_region 1 with fail
  rw [← HV.out.1, ← HV.out.2]
  go_wp2_with fail
  refine HCU.out.mono ?_
  rintro e w1 ⟨rfl, rfl⟩
  obtain rfl := HKD.out
  have HGO := Lib.hid (wGone_any V pw ps p m v vl S l im HW.out (by omega) (by omega) n mm wn wm)
  go_wp2_with fail
  refine HGO.out.mono ?_
  rintro e w2 ⟨rfl, hg⟩
  have HF : Hid (P w2) := Lib.hid (by
    rw [HP.out]
    obtain ⟨v', vl', S', l', im', a1, a2, a3, a4, a5⟩ := hg.stp
    exact ⟨v', vl', S', l', im', a1, (Moves.of_below HB.out).trans a2, a3, a4, a5⟩)
  clear hg
  go_wp2
  go_ret
  exact ⟨rfl, HF.out⟩
end Go.Proofs.YtgkcnocfijckoaaGreat
namespace Go.Proofs.YtgkcnocfijckoaaGreat
open Go.RowKit Sg
set_option linter.unusedVariables false
set_option linter.unusedSimpArgs false
/-- a record that keeps a text as a generation, or why there is none -/
def KeepQ (B : Nat) (p m : Nat) (S : Bk) (l : List Gn) (im : Int → ByteArray) (n : Int) (s : ByteArray) (w : World) (e : Ending) (w' : World) : Prop :=
  ∃ R X S', e = .returned (.tuple #[.string R, .int .i64 X]) ∧ Kept (fun k => some m = some k) w w' ∧ Hid (BookI w' p m S' ∧ Ext S S' ∧ S'.length ≤ S.length + B ∧ ((¬ NumOk n ∧ R = ByteArray.empty ∧ X = 2) ∨ (NumOk n ∧ X = 0 ∧ RecOk S' l im R n s)))
theorem whole_q (w : World) (ps p m : Nat) (v : Value) (S : Bk) (l : List Gn) (im : Int → ByteArray) (h : SW w ps p m v S l im) (hS : S.length ≤ 90000000) (n : Int) (wn : (Lit.int .i64 n).wf = true) (s : ByteArray) (hs : s.size ≤ 600) :
    Calls Tryz.prog 19 #[.pointer (some ⟨ps, 0, none⟩), .int .i64 n, .string s] w (KeepQ 1 p m S l im n s w) := by
  refine (stWhole_any w ps p m (ps + 1) v S l h.st h.bk hS n wn s (by omega)).mono ?_
  rintro e w2 ⟨hk2, ⟨hno, rfl, hI2⟩ | ⟨hok, hbig, rfl, hI2⟩ | ⟨hok, hsm, rfl, hI2⟩⟩
  · exact ⟨_, _, S, rfl, hk2, Lib.hid ⟨hI2, Ext.refl S, by omega, .inl ⟨hno, rfl, rfl⟩⟩⟩
  · omega
  · have hm : bytesOf s ∈ addS S (bytesOf s) := inAddS _ _
    refine ⟨_, _, _, rfl, hk2, Lib.hid ⟨hI2, (Ext.refl S).add _, Nat.le_trans (addS_len _ _) (by omega), .inr ⟨hok, rfl, ?_⟩⟩⟩
    rw [← mkI_add S s]
    exact recW_ok hok (by omega) hm
theorem best_q (w : World) (ps p m : Nat) (v : Value) (S : Bk) (l : List Gn) (im : Int → ByteArray) (h : SW w ps p m v S l im) (hS : S.length ≤ 80000000) (n deep : Int) (wn : (Lit.int .i64 n).wf = true) (wd : (Lit.int .i64 deep).wf = true) (s : ByteArray) (hs : s.size ≤ 600) :
    Calls Tryz.prog 20 #[.pointer (some ⟨ps, 0, none⟩), .int .i64 n, .string s, .int .i64 deep] w (KeepQ 3000010 p m S l im n s w) := by
  refine (stBest_any w ps p m (ps + 1) v S l im h.st h.bk h.inv hS (by have := h.lt.2; omega) h.psl (by have := h.lt.2; omega) n deep wn wd s (by omega)).mono ?_
  rintro e w2 ⟨hk2, ⟨hno, rfl, hI2⟩ | ⟨hok, S', rec, rfl, hI2, hE, hm, hl, hr⟩⟩
  · exact ⟨_, _, S, rfl, hk2, Lib.hid ⟨hI2, Ext.refl S, by omega, .inl ⟨hno, rfl, rfl⟩⟩⟩
  · exact ⟨_, _, S', rfl, hk2, Lib.hid ⟨hI2, hE, hl, .inr ⟨hok, rfl, hr.rec_ok (h.inv.ext hE) hok (by omega) hm⟩⟩⟩
set_option maxRecDepth 100000 in
set_option maxHeartbeats 8000000 in
theorem stepW_any (w : World) (pw ps p m : Nat) (v vl : Value) (S : Bk) (l : List Gn) (im : Int → ByteArray) (h : WW w pw ps p m v vl S l im (modelK l im)) (hS : S.length ≤ 70000000) (hl : l.length < 4000) (kd n mm : Int) (wn : (Lit.int .i64 n).wf = true) (wm : (Lit.int .i64 mm).wf = true) (t : ByteArray) (ht : t.size ≤ maxLen) (hk : kd = 0 ∨ kd = 1) :
    Calls Tryz.prog 31 #[.pointer (some ⟨pw, 0, none⟩), .agg #[.int .i64 kd, .int .i64 n, .int .i64 mm, .string t]] w fun e w' => e = .returned (.bool true) ∧ STP w pw ps p m v vl S l w' := by
  obtain ⟨V, hV⟩ : ∃ V, V = w.alloc (Obj.cells #[.int .i64 kd, .int .i64 n, .int .i64 mm, .string t] 71) := ⟨_, rfl⟩
  obtain ⟨q, hq⟩ : ∃ q, q = w.heap.size := ⟨_, rfl⟩
  have hG : Blk V q [.int .i64 kd, .int .i64 n, .int .i64 mm, .string t] 71 := by rw [hV, hq]; exact Blk.new _ _ _
  have hbV : Below w.heap.size w V := by rw [hV]; exact below_alloc _ _
  have HV := Lib.hid (And.intro hV hq)
  have HG := Lib.hid hG
  have HW := Lib.hid (h.below hbV)
  have HB := Lib.hid hbV
  have HCU := Lib.hid (cut_any V t ht)
  obtain ⟨s, hs⟩ : ∃ s, s = cut6 t := ⟨_, rfl⟩
  have hss : s.size ≤ 600 := by rw [hs]; exact cut6_size t
  rw [← hs] at HCU
  have q0 := hG.cell (i := 0) rfl
  have q1 := hG.cell (i := 1) rfl
  have q2 := hG.cell (i := 2) rfl
  have q3 := hG.cell (i := 3) rfl
  have hqw : w.heap.size ≤ q := by omega
  have HNE : Hid (q ≠ pw ∧ q ≠ ps ∧ q ≠ p ∧ q ≠ m ∧ (∀ k, v.ownBlock = some k → k ≠ q) ∧ (∀ k, vl.ownBlock = some k → k ≠ q)) := Lib.hid (by
    have h1 := h.ob.lt
    have h2 := h.sw.st.lt
    have h3 := h.sw.bk.2.2.2.2.1
    refine ⟨by omega, by omega, by omega, by omega, fun k e => ?_, fun k e => ?_⟩
    · have := h.sw.own e; omega
    · have := (World.ownsRow.lt h.row k e).2; omega)
  obtain ⟨P, hP⟩ : ∃ P : World → Prop, P = STP w pw ps p m v vl S l := ⟨_, rfl⟩
  rw [← hP]
  have HP := Lib.hid hP
  have HKD := Lib.hid hk
  clear hV hq hG hbV h hs hP hqw hk
  go_enter Tryz.func31, Tryz.ntmps31
  go_upto_region 1 with fail
  rw [← HV.out.1, ← HV.out.2]
  go_wp2_with fail
  refine HCU.out.mono ?_
  rintro e w1 ⟨rfl, rfl⟩
  have o0 := HW.out.ob.cell (i := 0) rfl
  have HWH := Lib.hid (whole_q V.drew ps p m v S l im (HW.out.sw.below (bl_drew (Below.refl _ V))) (by omega) n wn s hss)
  have HLT : Hid (pw < V.heap.size ∧ q < V.heap.size ∧ ¬ some m = some pw ∧ ¬ some m = some q) := Lib.hid ⟨HW.out.ob.lt, HG.out.lt, fun e => by injection e with e; exact HW.out.ne.2.2.1 e.symm, fun e => by injection e with e; exact HNE.out.2.2.2.1 e.symm⟩
  rcases HKD.out with hk | hk
  · subst hk
    go_upto_region 14 with fail
    go_region_held3 (fun w' => w'.cell? ⟨pw, 0, none⟩ = some (.pointer (some ⟨ps, 0, none⟩)) ∧ w'.cell? ⟨q, 1, none⟩ = some (.int .i64 n))
      (first | exact ⟨o0, q1⟩)
      (first | (go_at_call 19; refine HWH.out.mono ?_; rintro e w2 ⟨R, X, S1, rfl, hk2, HX⟩; replace o0 := (hk2.cell (i := 0) (by exact HLT.out.1) HLT.out.2.2.1).trans o0; replace q1 := (hk2.cell (i := 1) (by exact HLT.out.2.1) HLT.out.2.2.2).trans q1))
    all_goals
      have hk12 : Kept (fun k => some m = some k) V w2 := (Kept.of_below (fun k => some m = some k) (bl_drew (Below.refl _ V))).trans hk2 (fun _ _ h => h)
      have HWW := Lib.hid (HW.out.book hk12 HX.out.1 HX.out.2.1)
      have HG2 := Lib.hid (blkKept HG.out hk12 HLT.out.2.2.2)
      have HMV : Hid (Moves w w2 pw ps m v v vl vl ∧ Ext S S1 ∧ S1.length ≤ S.length + 3000020) := Lib.hid ⟨(Moves.of_below HB.out).trans (Moves.of_book hk12), HX.out.2.1, by have := HX.out.2.2.1; omega⟩
      have HXC := Lib.hid HX.out.2.2.2
      have q0 := HG2.out.cell (i := 0) rfl
      have q1 := HG2.out.cell (i := 1) rfl
      have q2 := HG2.out.cell (i := 2) rfl
      clear hk12 hk2 o0
      rcases HXC.out with ⟨hno, rfl, rfl⟩ | ⟨hok, rfl, hrec⟩
      · have HF : Hid (P w2) := Lib.hid (by
          rw [HP.out]
          exact ⟨v, vl, S1, l, im, HWW.out, HMV.out.1, HMV.out.2.1, HMV.out.2.2, Nat.le_succ _⟩)
        by_cases h0 : n < 0
        · have d0 : decide (n < 0) = true := decide_eq_true h0
          clear h0 hno
          go_wp2
          go_ret
          exact ⟨rfl, HF.out⟩
        · have d0 : decide (n < 0) = false := decide_eq_false h0
          have d1 : decide (4611686018427387903 < n) = true := decide_eq_true (Classical.byContradiction fun h2 => hno ⟨by omega, by omega⟩)
          clear h0 hno
          go_wp2
          go_ret
          exact ⟨rfl, HF.out⟩
      · have d0 : decide (n < 0) = false := decide_eq_false (by have := hok.1; omega)
        have d1 : decide (4611686018427387903 < n) = false := decide_eq_false (by have := hok.2; omega)
        have HDO := Lib.hid (wDo_rec w2 pw ps p m v vl S1 l im HWW.out (by have := HMV.out.2.2; omega) (by omega) R n s hrec)
        clear hok hrec
        go_wp2_with fail
        refine HDO.out.mono ?_
        rintro e wz ⟨rfl, x, hd⟩
        have HF : Hid (P wz) := Lib.hid (by rw [HP.out]; exact hd.stp HMV.out.1 HMV.out.2.1 HMV.out.2.2)
        clear hd
        go_wp2
        go_ret
        exact ⟨rfl, HF.out⟩
  · subst hk
    go_upto_region 14 with fail
    go_region_held3 (fun w' => w'.cell? ⟨pw, 0, none⟩ = some (.pointer (some ⟨ps, 0, none⟩)) ∧ w'.cell? ⟨q, 1, none⟩ = some (.int .i64 n))
      (first | exact ⟨o0, q1⟩)
      (first | (go_at_call 19; refine HWH.out.mono ?_; rintro e w2 ⟨R, X, S1, rfl, hk2, HX⟩; replace o0 := (hk2.cell (i := 0) (by exact HLT.out.1) HLT.out.2.2.1).trans o0; replace q1 := (hk2.cell (i := 1) (by exact HLT.out.2.1) HLT.out.2.2.2).trans q1))
    all_goals
      have hk12 : Kept (fun k => some m = some k) V w2 := (Kept.of_below (fun k => some m = some k) (bl_drew (Below.refl _ V))).trans hk2 (fun _ _ h => h)
      have HWW := Lib.hid (HW.out.book hk12 HX.out.1 HX.out.2.1)
      have HG2 := Lib.hid (blkKept HG.out hk12 HLT.out.2.2.2)
      have HMV : Hid (Moves w w2 pw ps m v v vl vl ∧ Ext S S1 ∧ S1.length ≤ S.length + 3000020) := Lib.hid ⟨(Moves.of_below HB.out).trans (Moves.of_book hk12), HX.out.2.1, by have := HX.out.2.2.1; omega⟩
      have HXC := Lib.hid HX.out.2.2.2
      have q0 := HG2.out.cell (i := 0) rfl
      have q1 := HG2.out.cell (i := 1) rfl
      have q2 := HG2.out.cell (i := 2) rfl
      have o0 := HWW.out.ob.cell (i := 0) rfl
      have HBE := Lib.hid (best_q w2.drew ps p m v S1 l im (HWW.out.sw.below (bl_drew (Below.refl _ w2))) (by have := HMV.out.2.2; omega) n mm wn wm s hss)
      have HL2 : Hid (pw < w2.heap.size ∧ q < w2.heap.size) := Lib.hid ⟨HWW.out.ob.lt, HG2.out.lt⟩
      have HS1 : Hid (S1.length ≤ S.length + 1) := Lib.hid HX.out.2.2.1
      clear hk12 hk2 HWH
      go_upto_region 16 with fail
      go_region_held3 (fun w' => w'.cell? ⟨pw, 0, none⟩ = some (.pointer (some ⟨ps, 0, none⟩)) ∧ w'.cell? ⟨q, 1, none⟩ = some (.int .i64 n) ∧ w'.cell? ⟨q, 2, none⟩ = some (.int .i64 mm))
        (first | exact ⟨o0, q1, q2⟩)
        (first | (go_at_call 20; refine HBE.out.mono ?_; rintro e w3 ⟨R2, X2, S2, rfl, hk3, HX2⟩; replace o0 := (hk3.cell (i := 0) (by exact HL2.out.1) HLT.out.2.2.1).trans o0; replace q1 := (hk3.cell (i := 1) (by exact HL2.out.2) HLT.out.2.2.2).trans q1; replace q2 := (hk3.cell (i := 2) (by exact HL2.out.2) HLT.out.2.2.2).trans q2))
      all_goals
        have hk23 : Kept (fun k => some m = some k) w2 w3 := (Kept.of_below (fun k => some m = some k) (bl_drew (Below.refl _ w2))).trans hk3 (fun _ _ h => h)
        have HWX := HWW
        have HMX := HMV
        clear HWW HMV HXC q1 q2
        have HWW := Lib.hid (HWX.out.book hk23 HX2.out.1 HX2.out.2.1)
        have HG3 := Lib.hid (blkKept HG2.out hk23 HLT.out.2.2.2)
        have HMV : Hid (Moves w w3 pw ps m v v vl vl ∧ Ext S S2 ∧ S2.length ≤ S.length + 3000020) := Lib.hid ⟨HMX.out.1.trans (Moves.of_book hk23), HMX.out.2.1.trans HX2.out.2.1, by have := HX2.out.2.2.1; have := HS1.out; omega⟩
        have HXC := Lib.hid HX2.out.2.2.2
        have q1 := HG3.out.cell (i := 1) rfl
        clear hk23 hk3 o0 HBE
        rcases HXC.out with ⟨hno, rfl, rfl⟩ | ⟨hok, rfl, hrec⟩
        · have HF : Hid (P w3) := Lib.hid (by
            rw [HP.out]
            exact ⟨v, vl, S2, l, im, HWW.out, HMV.out.1, HMV.out.2.1, HMV.out.2.2, Nat.le_succ _⟩)
          by_cases h0 : n < 0
          · have d0 : decide (n < 0) = true := decide_eq_true h0
            clear h0 hno
            go_wp2
            go_ret
            exact ⟨rfl, HF.out⟩
          · have d0 : decide (n < 0) = false := decide_eq_false h0
            have d1 : decide (4611686018427387903 < n) = true := decide_eq_true (Classical.byContradiction fun h2 => hno ⟨by omega, by omega⟩)
            clear h0 hno
            go_wp2
            go_ret
            exact ⟨rfl, HF.out⟩
        · have d0 : decide (n < 0) = false := decide_eq_false (by have := hok.1; omega)
          have d1 : decide (4611686018427387903 < n) = false := decide_eq_false (by have := hok.2; omega)
          have HDO := Lib.hid (wDo_rec w3 pw ps p m v vl S2 l im HWW.out (by have := HMV.out.2.2; omega) (by omega) R2 n s hrec)
          clear hok hrec
          go_wp2_with fail
          refine HDO.out.mono ?_
          rintro e wz ⟨rfl, x, hd⟩
          have HF : Hid (P wz) := Lib.hid (by rw [HP.out]; exact hd.stp HMV.out.1 HMV.out.2.1 HMV.out.2.2)
          clear hd
          go_wp2
          go_ret
          exact ⟨rfl, HF.out⟩
end Go.Proofs.YtgkcnocfijckoaaGreat
