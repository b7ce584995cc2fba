/- (*sign.Table).Match and Tail at a table. Conditions: as named in each theorem. -/
import Derived.Test.YtfcfgkhdlpgbdaaTabFind
import Derived.Deep.RegionHeld3
namespace Go.Proofs.Ytfcfgkhdlpgbdaa
open Go.RowKit
set_option linter.unusedVariables false

/-- does the mark of the block i say MK? -/
def eqM (T : List ByteArray) (MK : ByteArray) (i : Int) : Bool := decide ((T.getD i.toNat ByteArray.empty).data.toList = MK.data.toList)
def matchGo (T : List ByteArray) (MK : ByteArray) (wanted : Int) : List Int → Int → Int
  | [], found => found
  | i :: l, found => if eqM T MK i = true then (if i = wanted then i else matchGo T MK wanted l (if found < 0 then i else found)) else matchGo T MK wanted l found
theorem below_grown' {w w' : World} (h : Below w.heap.size w w') (ro : Option Nat) : w.grownBy w' ro := below_grown h ro
theorem Tab.grownO {B : Nat} {w w' : World} {pt : Nat} {b z : Int} {vI vS kv pv : Value} {W : List Int} {T : List ByteArray} {L : List Int} (h : Tab B w pt b z vI vS kv pv W T L) {ro : Option Nat} (hg : w.grownBy w' ro) (hm : ∀ m, ro = some m → m < B) : Tab B w' pt b z vI vS kv pv W T L := by
  have h0 := h.b0
  have far : ∀ {v : Value} {e : TypeId} {n : Nat} {xs : List Value}, w.ownsRow B e 1 v n xs → w'.ownsRow B e 1 v n xs := by
    intro v e n xs hv
    refine World.ownsRow.kept hv hg ?_
    cases hvo : v.ownBlock with
    | none => exact .inl rfl
    | some j => exact .inr fun e => by have := (World.ownsRow.lt hv j hvo).1; have := hm j e.symm; omega
  exact ⟨h.t.grown hg (fun e => by have := hm pt e.symm; omega), far h.i, far h.s, far h.k, far h.p, h0⟩

/-- the book at p: before (K) and after (K') it has marked the text s -/
structure MarkC (w : World) (p : Nat) (ro : Option Nat) (s MK : ByteArray) (K K' : World → Prop) : Prop where
  k0 : K w
  next : ∀ a b, K a → Below a.heap.size a b → K b
  next' : ∀ a b, K' a → Below a.heap.size a b → K' b
  mark : ∀ a, K a → w.grownBy a ro → Calls Try.prog 45 #[.pointer (some ⟨p, 0, none⟩), .string s] a fun e b => e = .returned (.string MK) ∧ K' b ∧ a.grownBy b ro

/-- what Match answers: the number; the book has marked the text or not -/
def MatchR (w : World) (ro : Option Nat) (K K' : World → Prop) (R : Int) (e : Ending) (w' : World) : Prop := e = .returned (.int .i64 R) ∧ (K w' ∨ K' w') ∧ w.grownBy w' ro

set_option maxRecDepth 100000 in
set_option maxHeartbeats 4000000 in
theorem tabMatch_any (w : World) (B pt p : Nat) (ro : Option Nat) (b z : Nat) (vI vS kv pv : Value) (W : List Int) (T : List ByteArray) (N : Nat) (f : Nat → Int) (weak wanted : Int) (s MK : ByteArray) (K K' : World → Prop)
    (h : Tab B w pt b z vI vS kv pv W T (plc N f)) (hS : Srt (wtOf W) f 0 N) (hI : InB f 0 N) (hN : N ≤ 1000000) (hNT : N ≤ T.length) (hs : s.size ≤ 1000000000) (hb : b ≤ 1024) (hro : ∀ m, ro = some m → m < B) (hM : MarkC w p ro s MK K K') :
    Calls Try.prog 30 #[.pointer (some ⟨pt, 0, none⟩), .pointer (some ⟨p, 0, none⟩), .int .i64 weak, .string s, .int .i64 wanted] w (MatchR w ro K K' (if s.size = b then matchGo T MK wanted (findL W N weak) (-1) else -1)) := by
  have HFD := Lib.hid (tabFind_any w B pt b z vI vS kv pv W T N f weak h hS hI hN)
  have HTB := Lib.hid h
  have HM := Lib.hid hM
  have hfl := findL_len W N weak
  obtain ⟨R, hR⟩ : ∃ R, R = (if s.size = b then matchGo T MK wanted (findL W N weak) (-1) else -1) := ⟨_, rfl⟩
  rw [← hR]
  have HR := Lib.hid hR
  have HNT := Lib.hid hNT
  clear h hS hI hM hR hNT
  go_enter Try.func30, Try.ntmps30
  go_wp2_with fail
  refine HFD.out.mono ?_
  rintro e w2 ⟨v, rfl, hF, hB2⟩
  obtain ⟨l, hl⟩ : ∃ l, l = (findL W N weak).length := ⟨_, rfl⟩
  obtain ⟨aF, kF, rfl⟩ := slice_ofI hF
  rw [← hl] at hF hfl ⊢
  have hT2 := HTB.out.next hB2
  have hK2 := HM.out.next w w2 HM.out.k0 hB2
  have hG2 : w.grownBy w2 ro := below_grown hB2 ro
  have c0 := hT2.t.cell (i := 0) rfl
  have HF := Lib.hid hF
  have HT2 := Lib.hid hT2
  have HK2 := Lib.hid (And.intro hK2 hG2)
  have HL := Lib.hid hl
  clear hF hT2 hK2 hG2 hB2 hl
  by_cases h0 : l = 0
  · subst h0
    have hRe : R = -1 := by
      rw [HR.out, List.eq_nil_of_length_eq_zero HL.out.symm]
      split <;> rfl
    have HRE := Lib.hid hRe
    clear hRe
    go_wp2
    go_ret
    exact ⟨by rw [HRE.out]; rfl, .inl HK2.out.1, HK2.out.2⟩
  · have e0 : ((l : Int) == 0) = false := by simp; omega
    by_cases hsz : s.size = b
    · have e1 : ((s.size : Int) != (b : Int)) = false := by simp [hsz]
      have hRe : R = matchGo T MK wanted (findL W N weak) (-1) := by rw [HR.out, if_pos hsz]
      have HRE := Lib.hid hRe
      clear hRe HR hsz
      go_wp2_with fail
      refine (HM.out.mark w2 HK2.out.1 HK2.out.2).mono ?_
      rintro e w3 ⟨rfl, hK3, hG3⟩
      have hT3 := HT2.out.grownO hG3 hro
      have HT3 := Lib.hid hT3
      have hBw : B ≤ w.heap.size := by have h1 := HTB.out.b0; have h2 := HTB.out.t.lt; omega
      have hF3 : RowI w3 w.heap.size (.slice aF l kF) (findL W N weak) := by
        refine World.ownsRow.kept HF.out hG3 ?_
        cases aF with
        | none => exact .inl rfl
        | some j => exact .inr fun e => by have h1 := (World.ownsRow.lt HF.out j.block rfl).1; have h2 := hro j.block e.symm; omega
      have HF3 := Lib.hid (RowI.rs hF3 HL.out.symm)
      have HK3 := Lib.hid (And.intro hK3 (grown_trans HK2.out.2 hG3))
      have s3 := HT3.out.t.cell (i := 3) rfl
      obtain ⟨aS, kS, hvS⟩ := owns_slice HT3.out.s
      rw [hvS] at s3
      have HTS := Lib.hid (RowS.rs (by have := HT3.out.s; rw [hvS] at this; exact this) rfl : Rs w3 aS T.length kS 1 T _)
      clear c0 hT3 hF3 hK3 hG3 hvS
      go_wp2_with fail
      go_loopw [13, 15, 41] (fun x _ y wr => ∃ (j : Nat) (fd : Int), y = .int .i64 j ∧ j ≤ l ∧ x = .int .i64 fd ∧ -1 ≤ fd ∧ fd ≤ 1000000 ∧ matchGo T MK wanted ((findL W N weak).drop j) fd = R ∧ wr = w3) (fun _ _ y _ => l - (intOf y).toNat)
      case atStart => exact ⟨0, -1, rfl, by omega, rfl, by omega, by omega, by rw [List.drop_zero]; exact HRE.out.symm, rfl⟩
      case round =>
        obtain ⟨j, fd, rfl, hj, rfl, hf1, hf2, hGo, rfl⟩ := hrel
        by_cases hlt : (j : Int) < (l : Int)
        · obtain ⟨bF, oF, x, rfl, hx, cx⟩ := HF3.out.one (k := j) (by omega)
          have hxm := List.mem_of_getElem? hx
          obtain ⟨v, hv, rfl, hwv⟩ := findL_mem.1 hxm
          have hdr : (findL W N weak).drop j = (v : Int) :: (findL W N weak).drop (j + 1) := by
            obtain ⟨hjl, hge⟩ := List.getElem?_eq_some_iff.1 hx
            rw [List.drop_eq_getElem_cons hjl, hge]
          rw [hdr] at hGo
          obtain ⟨bS, oS, t, rfl, ht, ct⟩ := HTS.out.one (k := v) (by have := HNT.out; omega)
          have hvT : (v : Int) < (T.length : Int) := by have := HNT.out; omega
          have htv : T.getD (v : Int).toNat ByteArray.empty = t := by
            simp only [Int.toNat_natCast]; rw [List.getD_eq_getElem?_getD, ht]; rfl
          simp only [matchGo] at hGo
          by_cases q : t.data.toList = MK.data.toList
          · have hq : eqM T MK (v : Int) = true := by unfold eqM; rw [htv]; exact decide_eq_true q
            rw [if_pos hq] at hGo
            have b1 : (t.toList == MK.toList) = true := beqS_t q
            by_cases hwn : (v : Int) = wanted
            · rw [if_pos hwn] at hGo
              have b2 : ((v : Int) == wanted) = true := by simpa using hwn
              have HGO := Lib.hid hGo
              clear hGo hx hxm hwv hdr ht htv hq q hwn
              go_wp2
              go_ret
              exact ⟨by rw [← HGO.out]; rfl, .inr HK3.out.1, HK3.out.2⟩
            · rw [if_neg hwn] at hGo
              have b2 : ((v : Int) == wanted) = false := by simpa using hwn
              by_cases hfd : fd < 0
              · rw [if_pos hfd] at hGo
                have HGO := Lib.hid hGo
                clear hGo hx hxm hwv hdr ht htv hq q hwn
                go_wp2
                go_roundw
                case rel => exact ⟨j + 1, (v : Int), by go_num, by omega, rfl, by omega, by omega, HGO.out, trivial⟩
                case measure => simp [intOf]; omega
              · rw [if_neg hfd] at hGo
                have HGO := Lib.hid hGo
                clear hGo hx hxm hwv hdr ht htv hq q hwn
                go_wp2
                go_roundw
                case rel => exact ⟨j + 1, fd, by go_num, by omega, rfl, by omega, by omega, HGO.out, trivial⟩
                case measure => simp [intOf]; omega
          · have hq : ¬ eqM T MK (v : Int) = true := by unfold eqM; rw [htv]; simpa using q
            rw [if_neg hq] at hGo
            have b1 : (t.toList == MK.toList) = false := beqS_f q
            have HGO := Lib.hid hGo
            clear hGo hx hxm hwv hdr ht htv hq q
            go_wp2
            go_roundw
            case rel => exact ⟨j + 1, fd, by go_num, by omega, rfl, by omega, by omega, HGO.out, trivial⟩
            case measure => simp [intOf]; omega
        · have hjl : j = l := by omega
          have hnil : (findL W N weak).drop j = [] := List.drop_of_length_le (by rw [hjl, HL.out]; exact Nat.le_refl _)
          rw [hnil] at hGo
          simp only [matchGo] at hGo
          have HGO := Lib.hid hGo
          clear hGo hnil
          go_wp2
          go_ret
          exact ⟨by rw [← HGO.out]; rfl, .inr HK3.out.1, HK3.out.2⟩
    · have e1 : ((s.size : Int) != (b : Int)) = true := by simp; omega
      have hRe : R = -1 := by rw [HR.out, if_neg hsz]
      have HRE := Lib.hid hRe
      clear hRe HR
      go_wp2
      go_ret
      exact ⟨by rw [HRE.out]; rfl, .inl HK2.out.1, HK2.out.2⟩
end Go.Proofs.Ytfcfgkhdlpgbdaa
