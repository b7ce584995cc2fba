/- (*sign.Table).Tail at a table. Conditions: as named in each theorem. -/
import Derived.Test.YtgkcnocfijckoaaGreatSgTabWalk
import Derived.Deep.RegionHeld3
namespace Go.Proofs.YtgkcnocfijckoaaGreat.Sg
open Go.RowKit
set_option linter.unusedVariables false
set_option linter.unusedSimpArgs false
theorem bsearch_any (w : World) (ao : Option Addr) (n cap : Nat) (K : List Int) (x : Int) (hK : Rs w ao n cap 1 K (fun x => [.int .i64 x])) (hn : n ≤ 1000000) (hs : K.Pairwise (· ≤ ·)) :
    Calls Tryz.prog 135 #[.slice ao n cap, .int .i64 x] w fun e w' => (∃ r, e = .returned (.tuple #[.int .i64 (K.countP (· < x) : Nat), .bool r])) ∧ ∃ q, w' = w.drewN q := by
  have hl := hK.2.2.1
  rcases Nat.eq_zero_or_pos n with h | h
  · subst h
    have hK0 : K = [] := List.eq_nil_of_length_eq_zero hl
    subst hK0
    refine (Any.slices_BinarySearch_int_empty shFind ao cap x w).mono ?_
    rintro e w' ⟨rfl, rfl⟩
    exact ⟨⟨_, rfl⟩, 0, rfl⟩
  · obtain ⟨b, off, rfl, hbl, hc⟩ := hK.cell1 h
    refine (Any.slices_BinarySearch_int shFind b off n cap K x w (by omega) (by omega) (fun j hj => ?_) (by rw [List.take_of_length_le (by omega)]; exact hs)).mono ?_
    · rw [List.getD_eq_getElem?_getD, List.getElem?_eq_getElem hj]
      exact hc j hj _ rfl
    · rintro e w' ⟨rfl, hq⟩
      rw [List.take_of_length_le (by omega)]
      exact ⟨⟨_, rfl⟩, hq⟩
set_option maxRecDepth 100000 in
set_option maxHeartbeats 4000000 in
theorem tabFind_any (w : World) (B pt : Nat) (b z : Int) (vI vS kv pv : Value) (W : List Int) (T : List ByteArray) (N : Nat) (f : Nat → Int) (weak : Int) (h : Tab B w pt b z vI vS kv pv W T (plc N f)) (hS : Srt (wtOf W) f 0 N) (hI : InB f 0 N) (hN : N ≤ 1000000) :
    Calls Tryz.prog 127 #[.pointer (some ⟨pt, 0, none⟩), .int .i64 weak] w fun e w' => ∃ v, e = .returned v ∧ RowI w' w.heap.size v (findL W N weak) ∧ Below w.heap.size w w' := by
  obtain ⟨i0, hi, hz0, hz1, hz2⟩ := info_parts infoIntS
  have hk := h.k
  have hp := h.p
  obtain ⟨ak, ck, hkv⟩ := slice_ofI hk
  obtain ⟨ap, cp, hpv⟩ := slice_ofI hp
  have lk : ((plc N f).map (wtOf W)).length = N := by rw [List.length_map, plc_len]
  rw [lk] at hkv
  rw [plc_len] at hpv
  subst hkv hpv
  have hkr := hk.rs lk
  have hpr := hp.rs (plc_len N f)
  have hpw : ((plc N f).map (wtOf W)).Pairwise (· ≤ ·) := by
    rw [List.pairwise_iff_getElem]
    intro i j hi hj hij
    rw [lk] at hi hj
    simp only [plc, List.getElem_map, List.getElem_range]
    exact srt_mono hS i j hij hj
  have hcs := cnt_split (fun i => wtOf W (f i)) weak N (srt_mono hS)
  have hke : (plc N f).map (wtOf W) = (List.range N).map (fun i => wtOf W (f i)) := by simp [plc, Function.comp_def]
  have hBS := bsearch_any w ak N ck _ weak hkr hN hpw
  rw [hke] at hBS
  obtain ⟨c, hc⟩ : ∃ c, c = ((List.range N).map (fun i => wtOf W (f i))).countP (· < weak) := ⟨_, rfl⟩
  rw [← hc] at hBS hcs
  have HBS := Lib.hid hBS
  have HCS := Lib.hid hcs
  have hcN : c ≤ N := hcs.1
  have HKR := Lib.hid hkr
  have HPR := Lib.hid hpr
  have HT := Lib.hid h.t
  have HSI := Lib.hid (And.intro hS hI)
  have c1 := h.t.cell (i := 4) rfl
  clear hk hp lk hkr hpr hpw hcs hke hBS hc h hS hI
  go_enter Tryz.func127, Tryz.ntmps127
  go_wp2_with fail
  refine HBS.out.mono ?_
  rintro e w2 ⟨⟨r, rfl⟩, q, hw2⟩
  have hB2 : Below w.heap.size w w2 := by rw [hw2]; exact below_drewN' (Below.refl _ _) q
  have HB2 := Lib.hid hB2
  clear hw2 hB2
  go_wp2_with fail
  go_loopw [5, 7] (fun x y wr => ∃ (a : Nat) (ao : Option Addr) (co : Nat), x = .int .i64 a ∧ c ≤ a ∧ a ≤ N ∧ y = .slice ao (a - c) co ∧ RowI wr w.heap.size (.slice ao (a - c) co) (plc (a - c) (fun i => f (c + i))) ∧ (∀ i, c ≤ i → i < a → wtOf W (f i) = weak) ∧ Below w.heap.size w wr) (fun x _ _ => N - (intOf x).toNat)
  case atStart => exact ⟨c, none, 0, rfl, by omega, hcN, by rw [Nat.sub_self], by rw [Nat.sub_self]; exact World.ownsRow_nil _ _ _ _, fun i h1 h2 => by omega, HB2.out⟩
  case round =>
    clear HB2 c1
    obtain ⟨a, ao, co, rfl, hca, haN, rfl, hR, hin, hB⟩ := hrel
    have HR := Lib.hid hR
    have HIN := Lib.hid hin
    have HB := Lib.hid hB
    have hTr := HT.out.below hB HT.out.lt
    have t4 := hTr.cell (i := 4) rfl
    have t5 := hTr.cell (i := 5) rfl
    have HKR2 := Lib.hid (HKR.out.next hB)
    have HPR2 := Lib.hid (HPR.out.next hB)
    clear hR hin hB hTr
    by_cases hlt : (a : Int) < (N : Int)
    · obtain ⟨bk, ok, y, rfl, hy, cy⟩ := HKR2.out.one (k := a) (by omega)
      rw [List.getElem?_map, plc_get f (by omega)] at hy
      injection hy with hy
      have HY := Lib.hid hy
      clear hy
      by_cases he : y = weak
      · have e1 : (y == weak) = true := by simpa using he
        have HE := Lib.hid he
        clear he
        obtain ⟨bp, op, x, rfl, hx, cx⟩ := HPR2.out.one (k := a) (by omega)
        rw [plc_get f (by omega)] at hx
        injection hx with hx
        have HX := Lib.hid hx
        have hIa : Hid (wr.ownsRow w.heap.size 3 1 (.slice ao (a - c) co) (a - c) ((plc (a - c) (fun i => f (c + i))).map (Value.int .i64))) := Lib.hid (by have := HR.out; unfold RowI at this; rw [plc_len] at this; exact this)
        have hws : w.heap.size ≤ wr.heap.size := HB.out.size
        clear hx
        go_wp2_with (at_builtin; refine wpList_append_own_at _ rfl _ _ 49 rfl w.heap.size 3 i0 (.int .i64 0) 1 8 Tryz.underlying49 hi hz0 hz1 hz2 rfl (by decide) _ (a - c) ((plc (a - c) (fun i => f (c + i))).map (Value.int .i64)) rfl (World.ownsRow.alloc hIa.out _) ⟨wr.heap.size, 0, none⟩ 1 1 [.int .i64 x] rfl rfl (cell1_new _ _ _) (one1 _ rfl) (by unfold maxLen; omega) (by omega) (by simp; omega) ?_)
        intro v5 w5 hO5 hg5 _ hrb
        obtain ⟨ao5, cap5, rfl⟩ := slice_of5 hO5
        have hB5 : Below w.heap.size w w5 := (bl_alloc' HB.out (.cells #[.int .i64 x] 3)).grown hg5 (bl_alloc' HB.out (.cells #[.int .i64 x] 3)).size (fun j e => (World.ownsRow.lt hIa.out j e).1)
        have hR5 : RowI w5 w.heap.size (.slice ao5 (a - c + 1) cap5) (plc (a - c + 1) (fun i => f (c + i))) := by
          rw [plc_succ]
          refine RowI.snoc ?_
          rw [plc_len, show f (c + (a - c)) = x by rw [show c + (a - c) = a by omega]; exact HX.out]
          exact hO5
        have HR5 := Lib.hid (And.intro hR5 hB5)
        clear hR5 hB5 hO5 hg5 hrb hIa cx cy t4 t5
        have hac : a - c + 1 = a + 1 - c := by omega
        rw [hac] at HR5
        rw [hac]
        clear hac
        go_wp2
        go_roundw
        case rel =>
          refine ⟨a + 1, _, _, by go_num, by omega, by omega, rfl, HR5.out.1, fun i i1 i2 => ?_, HR5.out.2⟩
          by_cases q : i = a
          · rw [q, HY.out, HE.out]
          · exact HIN.out i i1 (by omega)
        case measure => simp [intOf]; omega
      · have e1 : (y == weak) = false := by simpa using he
        have HE := Lib.hid he
        clear he
        go_wp2
        go_ret
        refine ⟨_, rfl, ?_, HB.out⟩
        have hF := find_end HSI.out.1 HSI.out.2 HCS.out.2.1 HCS.out.2.2 hca haN HIN.out (fun _ => by rw [HY.out]; exact HE.out)
        rw [← hF]
        exact HR.out
    · go_wp2
      go_ret
      refine ⟨_, rfl, ?_, HB.out⟩
      have hF := find_end HSI.out.1 HSI.out.2 HCS.out.2.1 HCS.out.2.2 hca haN HIN.out (fun _ => by omega)
      rw [← hF]
      exact HR.out
theorem tabSize_any (w : World) (pt : Nat) (b z : Int) (v2 v3 v4 v5 : Value) (h : Blk w pt [.int .i64 b, .int .i64 z, v2, v3, v4, v5] 181) :
    Calls Tryz.prog 129 #[.pointer (some ⟨pt, 0, none⟩)] w fun e w' => e = .returned (.int .i64 z) ∧ w = w' := by
  have c1 := h.cell (i := 1) rfl
  clear h
  go_enter Tryz.func129, Tryz.ntmps129
  go_wp2
  go_ret
  exact ⟨rfl, rfl⟩
theorem tabBlock_any (w : World) (pt : Nat) (b z : Int) (v2 v3 v4 v5 : Value) (h : Blk w pt [.int .i64 b, .int .i64 z, v2, v3, v4, v5] 181) :
    Calls Tryz.prog 108 #[.pointer (some ⟨pt, 0, none⟩)] w fun e w' => e = .returned (.int .i64 b) ∧ w = w' := by
  have c1 := h.cell (i := 0) rfl
  clear h
  go_enter Tryz.func108, Tryz.ntmps108
  go_wp2
  go_ret
  exact ⟨rfl, rfl⟩
end Go.Proofs.YtgkcnocfijckoaaGreat.Sg
namespace Go.Proofs.YtgkcnocfijckoaaGreat.Sg
open Go.RowKit
set_option linter.unusedVariables false
set_option linter.unusedSimpArgs false
/-- does the mark of the block i say MK? -/
def eqM (T : List ByteArray) (MK : ByteArray) (i : Int) : Bool := decide ((T.getD i.toNat ByteArray.empty).data.toList = MK.data.toList)
def matchGo (T : List ByteArray) (MK : ByteArray) (wanted : Int) : List Int → Int → Int
  | [], found => found
  | i :: l, found => if eqM T MK i = true then (if i = wanted then i else matchGo T MK wanted l (if found < 0 then i else found)) else matchGo T MK wanted l found
theorem below_grown' {w w' : World} (h : Below w.heap.size w w') (ro : Option Nat) : w.grownBy w' ro := below_grown h ro
theorem Tab.grownO {B : Nat} {w w' : World} {pt : Nat} {b z : Int} {vI vS kv pv : Value} {W : List Int} {T : List ByteArray} {L : List Int} (h : Tab B w pt b z vI vS kv pv W T L) {ro : Option Nat} (hg : w.grownBy w' ro) (hm : ∀ m, ro = some m → m < B) : Tab B w' pt b z vI vS kv pv W T L := by
  have h0 := h.b0
  have far : ∀ {v : Value} {e : TypeId} {n : Nat} {xs : List Value}, w.ownsRow B e 1 v n xs → w'.ownsRow B e 1 v n xs := by
    intro v e n xs hv
    refine World.ownsRow.kept hv hg ?_
    cases hvo : v.ownBlock with
    | none => exact .inl rfl
    | some j => exact .inr fun e => by have := (World.ownsRow.lt hv j hvo).1; have := hm j e.symm; omega
  exact ⟨h.t.grown hg (fun e => by have := hm pt e.symm; omega), far h.i, far h.s, far h.k, far h.p, h0⟩
/-- the book at p: before (K) and after (K') it has marked the text s -/
structure MarkC (w : World) (p : Nat) (ro : Option Nat) (s MK : ByteArray) (K K' : World → Prop) : Prop where
  k0 : K w
  next : ∀ a b, K a → Below a.heap.size a b → K b
  next' : ∀ a b, K' a → Below a.heap.size a b → K' b
  mark : ∀ a, K a → w.grownBy a ro → Calls Tryz.prog 46 #[.pointer (some ⟨p, 0, none⟩), .string s] a fun e b => e = .returned (.string MK) ∧ K' b ∧ a.grownBy b ro
/-- what Match answers: the number; the book has marked the text or not -/
def MatchR (w : World) (ro : Option Nat) (K K' : World → Prop) (R : Int) (e : Ending) (w' : World) : Prop := e = .returned (.int .i64 R) ∧ (K w' ∨ K' w') ∧ w.grownBy w' ro
set_option maxRecDepth 100000 in
set_option maxHeartbeats 4000000 in
theorem tabMatch_any (w : World) (B pt p : Nat) (ro : Option Nat) (b z : Nat) (vI vS kv pv : Value) (W : List Int) (T : List ByteArray) (N : Nat) (f : Nat → Int) (weak wanted : Int) (s MK : ByteArray) (K K' : World → Prop)
    (h : Tab B w pt b z vI vS kv pv W T (plc N f)) (hS : Srt (wtOf W) f 0 N) (hI : InB f 0 N) (hN : N ≤ 1000000) (hNT : N ≤ T.length) (hs : s.size ≤ 1000000000) (hb : b ≤ 1024) (hro : ∀ m, ro = some m → m < B) (hM : MarkC w p ro s MK K K') :
    Calls Tryz.prog 109 #[.pointer (some ⟨pt, 0, none⟩), .pointer (some ⟨p, 0, none⟩), .int .i64 weak, .string s, .int .i64 wanted] w (MatchR w ro K K' (if s.size = b then matchGo T MK wanted (findL W N weak) (-1) else -1)) := by
  have HFD := Lib.hid (tabFind_any w B pt b z vI vS kv pv W T N f weak h hS hI hN)
  have HTB := Lib.hid h
  have HM := Lib.hid hM
  have hfl := findL_len W N weak
  obtain ⟨R, hR⟩ : ∃ R, R = (if s.size = b then matchGo T MK wanted (findL W N weak) (-1) else -1) := ⟨_, rfl⟩
  rw [← hR]
  have HR := Lib.hid hR
  have HNT := Lib.hid hNT
  clear h hS hI hM hR hNT
  go_enter Tryz.func109, Tryz.ntmps109
  go_wp2_with fail
  refine HFD.out.mono ?_
  rintro e w2 ⟨v, rfl, hF, hB2⟩
  obtain ⟨l, hl⟩ : ∃ l, l = (findL W N weak).length := ⟨_, rfl⟩
  obtain ⟨aF, kF, rfl⟩ := slice_ofI hF
  rw [← hl] at hF hfl ⊢
  have hT2 := HTB.out.next hB2
  have hK2 := HM.out.next w w2 HM.out.k0 hB2
  have hG2 : w.grownBy w2 ro := below_grown hB2 ro
  have c0 := hT2.t.cell (i := 0) rfl
  have HF := Lib.hid hF
  have HT2 := Lib.hid hT2
  have HK2 := Lib.hid (And.intro hK2 hG2)
  have HL := Lib.hid hl
  clear hF hT2 hK2 hG2 hB2 hl
  by_cases h0 : l = 0
  · subst h0
    have hRe : R = -1 := by
      rw [HR.out, List.eq_nil_of_length_eq_zero HL.out.symm]
      split <;> rfl
    have HRE := Lib.hid hRe
    clear hRe
    go_wp2
    go_ret
    exact ⟨by rw [HRE.out]; rfl, .inl HK2.out.1, HK2.out.2⟩
  · have e0 : ((l : Int) == 0) = false := by simp; omega
    by_cases hsz : s.size = b
    · have e1 : ((s.size : Int) != (b : Int)) = false := by simp [hsz]
      have hRe : R = matchGo T MK wanted (findL W N weak) (-1) := by rw [HR.out, if_pos hsz]
      have HRE := Lib.hid hRe
      clear hRe HR hsz
      go_wp2_with fail
      refine (HM.out.mark w2 HK2.out.1 HK2.out.2).mono ?_
      rintro e w3 ⟨rfl, hK3, hG3⟩
      have hT3 := HT2.out.grownO hG3 hro
      have HT3 := Lib.hid hT3
      have hBw : B ≤ w.heap.size := by have h1 := HTB.out.b0; have h2 := HTB.out.t.lt; omega
      have hF3 : RowI w3 w.heap.size (.slice aF l kF) (findL W N weak) := by
        refine World.ownsRow.kept HF.out hG3 ?_
        cases aF with
        | none => exact .inl rfl
        | some j => exact .inr fun e => by have h1 := (World.ownsRow.lt HF.out j.block rfl).1; have h2 := hro j.block e.symm; omega
      have HF3 := Lib.hid (RowI.rs hF3 HL.out.symm)
      have HK3 := Lib.hid (And.intro hK3 (grown_trans HK2.out.2 hG3))
      have s3 := HT3.out.t.cell (i := 3) rfl
      obtain ⟨aS, kS, hvS⟩ := owns_slice HT3.out.s
      rw [hvS] at s3
      have HTS := Lib.hid (RowS.rs (by have := HT3.out.s; rw [hvS] at this; exact this) rfl : Rs w3 aS T.length kS 1 T _)
      clear c0 hT3 hF3 hK3 hG3 hvS
      go_wp2_with fail
      go_loopw [13, 15, 41] (fun x _ y wr => ∃ (j : Nat) (fd : Int), y = .int .i64 j ∧ j ≤ l ∧ x = .int .i64 fd ∧ -1 ≤ fd ∧ fd ≤ 1000000 ∧ matchGo T MK wanted ((findL W N weak).drop j) fd = R ∧ wr = w3) (fun _ _ y _ => l - (intOf y).toNat)
      case atStart => exact ⟨0, -1, rfl, by omega, rfl, by omega, by omega, by rw [List.drop_zero]; exact HRE.out.symm, rfl⟩
      case round =>
        obtain ⟨j, fd, rfl, hj, rfl, hf1, hf2, hGo, rfl⟩ := hrel
        by_cases hlt : (j : Int) < (l : Int)
        · obtain ⟨bF, oF, x, rfl, hx, cx⟩ := HF3.out.one (k := j) (by omega)
          have hxm := List.mem_of_getElem? hx
          obtain ⟨v, hv, rfl, hwv⟩ := findL_mem.1 hxm
          have hdr : (findL W N weak).drop j = (v : Int) :: (findL W N weak).drop (j + 1) := by
            obtain ⟨hjl, hge⟩ := List.getElem?_eq_some_iff.1 hx
            rw [List.drop_eq_getElem_cons hjl, hge]
          rw [hdr] at hGo
          obtain ⟨bS, oS, t, rfl, ht, ct⟩ := HTS.out.one (k := v) (by have := HNT.out; omega)
          have hvT : (v : Int) < (T.length : Int) := by have := HNT.out; omega
          have htv : T.getD (v : Int).toNat ByteArray.empty = t := by
            simp only [Int.toNat_natCast]; rw [List.getD_eq_getElem?_getD, ht]; rfl
          simp only [matchGo] at hGo
          by_cases q : t.data.toList = MK.data.toList
          · have hq : eqM T MK (v : Int) = true := by unfold eqM; rw [htv]; exact decide_eq_true q
            rw [if_pos hq] at hGo
            have b1 : (t.toList == MK.toList) = true := beqS_t q
            by_cases hwn : (v : Int) = wanted
            · rw [if_pos hwn] at hGo
              have b2 : ((v : Int) == wanted) = true := by simpa using hwn
              have HGO := Lib.hid hGo
              clear hGo hx hxm hwv hdr ht htv hq q hwn
              go_wp2
              go_ret
              exact ⟨by rw [← HGO.out]; rfl, .inr HK3.out.1, HK3.out.2⟩
            · rw [if_neg hwn] at hGo
              have b2 : ((v : Int) == wanted) = false := by simpa using hwn
              by_cases hfd : fd < 0
              · rw [if_pos hfd] at hGo
                have HGO := Lib.hid hGo
                clear hGo hx hxm hwv hdr ht htv hq q hwn
                go_wp2
                go_roundw
                case rel => exact ⟨j + 1, (v : Int), by go_num, by omega, rfl, by omega, by omega, HGO.out, trivial⟩
                case measure => simp [intOf]; omega
              · rw [if_neg hfd] at hGo
                have HGO := Lib.hid hGo
                clear hGo hx hxm hwv hdr ht htv hq q hwn
                go_wp2
                go_roundw
                case rel => exact ⟨j + 1, fd, by go_num, by omega, rfl, by omega, by omega, HGO.out, trivial⟩
                case measure => simp [intOf]; omega
          · have hq : ¬ eqM T MK (v : Int) = true := by unfold eqM; rw [htv]; simpa using q
            rw [if_neg hq] at hGo
            have b1 : (t.toList == MK.toList) = false := beqS_f q
            have HGO := Lib.hid hGo
            clear hGo hx hxm hwv hdr ht htv hq q
            go_wp2
            go_roundw
            case rel => exact ⟨j + 1, fd, by go_num, by omega, rfl, by omega, by omega, HGO.out, trivial⟩
            case measure => simp [intOf]; omega
        · have hjl : j = l := by omega
          have hnil : (findL W N weak).drop j = [] := List.drop_of_length_le (by rw [hjl, HL.out]; exact Nat.le_refl _)
          rw [hnil] at hGo
          simp only [matchGo] at hGo
          have HGO := Lib.hid hGo
          clear hGo hnil
          go_wp2
          go_ret
          exact ⟨by rw [← HGO.out]; rfl, .inr HK3.out.1, HK3.out.2⟩
    · have e1 : ((s.size : Int) != (b : Int)) = true := by simp; omega
      have hRe : R = -1 := by rw [HR.out, if_neg hsz]
      have HRE := Lib.hid hRe
      clear hRe HR
      go_wp2
      go_ret
      exact ⟨by rw [HRE.out]; rfl, .inl HK2.out.1, HK2.out.2⟩
end Go.Proofs.YtgkcnocfijckoaaGreat.Sg
namespace Go.Proofs.YtgkcnocfijckoaaGreat.Sg
open Go.RowKit
set_option linter.unusedVariables false
set_option linter.unusedSimpArgs false
theorem tail_cells {B : Nat} {w : World} {pt n kI kS : Nat} {b z : Int} {bW oW bS oS : Nat} {kv pv : Value} {W : List Int} {T : List ByteArray} {L : List Int} {la : Nat} {y : Int} {t : ByteArray}
    (h : Tab B w pt b z (.slice (some ⟨bW, oW, none⟩) n kI) (.slice (some ⟨bS, oS, none⟩) n kS) kv pv W T L) (hn : n = W.length) (hT : T.length = n) (hla : la < n) (hy : W[la]? = some y) (ht : T[la]? = some t) :
    w.cell? ⟨pt, 2, none⟩ = some (.slice (some ⟨bW, oW, none⟩) n kI) ∧ w.cell? ⟨pt, 3, none⟩ = some (.slice (some ⟨bS, oS, none⟩) n kS) ∧ w.cell? ⟨bW, oW + la, none⟩ = some (.int .i64 y) ∧ w.cell? ⟨bS, oS + la, none⟩ = some (.string t) := by
  obtain ⟨b1, o1, x1, e1, g1, c1⟩ := (RowI.rs h.i hn.symm).one hla
  obtain ⟨b2, o2, x2, e2, g2, c2⟩ := (RowS.rs h.s hT).one hla
  injection e1 with e1
  injection e1 with e1 f1
  injection e2 with e2
  injection e2 with e2 f2
  subst e1 f1 e2 f2
  rw [hy] at g1
  rw [ht] at g2
  injection g1 with g1
  injection g2 with g2
  subst g1 g2
  exact ⟨h.t.cell (i := 2) rfl, h.t.cell (i := 3) rfl, c1, c2⟩
/-- what Tail answers: is the text the last block, and that is not whole? -/
def tailB (b z : Nat) (W : List Int) (T : List ByteArray) (s MK : ByteArray) : Bool := decide (0 < z % b ∧ s.size = z % b ∧ weakI s = W.getD (W.length - 1) 0 ∧ (T.getD (W.length - 1) ByteArray.empty).data.toList = MK.data.toList)
def TailR (w : World) (ro : Option Nat) (K K' : World → Prop) (R : Bool) (e : Ending) (w' : World) : Prop := e = .returned (.bool R) ∧ (K w' ∨ K' w') ∧ w.grownBy w' ro
set_option maxRecDepth 100000 in
set_option maxHeartbeats 4000000 in
theorem tabTail_any (w : World) (B pt p : Nat) (ro : Option Nat) (b z : Nat) (vI vS kv pv : Value) (W : List Int) (T : List ByteArray) (L : List Int) (s MK : ByteArray) (K K' : World → Prop)
    (h : Tab B w pt b z vI vS kv pv W T L) (hWn : W.length ≤ 1000000) (hTW : T.length = W.length) (hb0 : 0 < b) (hb : b ≤ 1024) (hz : z ≤ 524288) (hpos : 0 < z % b → 0 < W.length) (hs : s.size ≤ 1000000) (hro : ∀ m, ro = some m → m < B) (hM : MarkC w p ro s MK K K') :
    Calls Tryz.prog 130 #[.pointer (some ⟨pt, 0, none⟩), .pointer (some ⟨p, 0, none⟩), .string s] w (TailR w ro K K' (tailB b z W T s MK)) := by
  obtain ⟨R, hR⟩ : ∃ R, R = tailB b z W T s MK := ⟨_, rfl⟩
  rw [← hR]
  unfold tailB at hR
  obtain ⟨r, hr⟩ : ∃ r, r = z % b := ⟨_, rfl⟩
  rw [← hr] at hR hpos
  have hrb : r < b := by rw [hr]; exact Nat.mod_lt _ hb0
  have hmod : Int.tmod (z : Int) (b : Int) = (r : Int) := by rw [hr]; rfl
  have hmod2 : (z : Int) % (b : Int) = (r : Int) := by rw [hr]; rfl
  obtain ⟨aI, kI, hvI⟩ := slice_ofI h.i
  obtain ⟨aS, kS, hvS⟩ := owns_slice h.s
  have hTB := h
  rw [hvI, hvS] at hTB
  have c0 := hTB.t.cell (i := 0) rfl
  have c1 := hTB.t.cell (i := 1) rfl
  have c2 := hTB.t.cell (i := 2) rfl
  have c3 := hTB.t.cell (i := 3) rfl
  have HWS := Lib.hid (RowI.rs hTB.i rfl : Rs w aI W.length kI 1 W _)
  have HTS := Lib.hid (RowS.rs hTB.s rfl : Rs w aS T.length kS 1 T _)
  have HM := Lib.hid hM
  have HR := Lib.hid hR
  obtain ⟨n, hn⟩ : ∃ n, n = W.length := ⟨_, rfl⟩
  rw [← hn] at HWS HR hpos hWn hTW c2
  rw [hTW] at HTS c3
  have HTB : Hid (Tab B w pt b z (.slice aI n kI) (.slice aS n kS) kv pv W T L) := Lib.hid (by rw [← hn, hTW] at hTB; exact hTB)
  have hrz : ((z : Int) % (b : Int)) = r := hmod2
  have HNW := Lib.hid hn
  have HTW := Lib.hid hTW
  clear h hTB hR hM hvI hvS hr hn hTW
  by_cases r0 : r = 0
  · subst r0
    have hRe : R = false := by rw [HR.out]; exact decide_eq_false (by omega)
    have HRE := Lib.hid hRe
    have d0 : decide ((0 : Int) < ((0 : Nat) : Int)) = false := by decide
    have d0' : decide (0 < (0 : Nat)) = false := by decide
    clear hRe hpos
    go_enter Tryz.func130, Tryz.ntmps130
    go_wp2_with fail
    go_quiet (fail)
    go_wp2_with fail
    go_quiet (fail)
    go_wp2
    go_ret
    exact ⟨by rw [HRE.out]; rfl, .inl (HM.out.next _ _ HM.out.k0 (below_drewN' (below_drewN' (Below.refl _ _) _) _)), below_grown (below_drewN' (below_drewN' (Below.refl _ _) _) _) _⟩
  · have hn0 := hpos (by omega)
    have dr : decide ((0 : Int) < (r : Int)) = true := by simp; omega
    have dr' : decide (0 < r) = true := by simp; omega
    obtain ⟨la, hla⟩ : ∃ la : Nat, (n : Int) - 1 = la := ⟨n - 1, by omega⟩
    have hlan : la < n := by omega
    have hla2 : n - 1 = la := by omega
    rw [hla2] at HR
    have HLA := Lib.hid hla2
    clear hla2 hpos
    by_cases hsz : s.size = r
    · have d1 : ((s.size : Int) == (r : Int)) = true := by simp [hsz]
      obtain ⟨bW, oW, y, rfl, hy, cy⟩ := HWS.out.one (k := la) hlan
      have hWy : W.getD la 0 = y := by rw [List.getD_eq_getElem?_getD, hy]; rfl
      rw [hWy] at HR
      obtain ⟨WV, hWV⟩ : ∃ W : Int, W = weakI s := ⟨_, rfl⟩
      have hwe : ((weak s.data.toList : Nat) : Int) = WV := hWV.symm
      rw [← hWV] at HR
      have HSUM : Hid (∀ a, Calls Tryz.prog 105 #[.string s] a fun e w' => e = .returned (.int .i64 WV) ∧ a = w') := Lib.hid (fun a => by rw [← hwe]; exact rollSum_any s a (by omega))
      have HY := Lib.hid hy
      clear hy hWV hwe hWy
      by_cases hq : WV = y
      · have d2 : (WV == y) = true := by simpa using hq
        obtain ⟨bS, oS, t, rfl, ht, ct⟩ := HTS.out.one (k := la) hlan
        have htv : T.getD la ByteArray.empty = t := by rw [List.getD_eq_getElem?_getD, ht]; rfl
        rw [htv] at HR
        have HQ := Lib.hid hq
        have HSZ := Lib.hid hsz
        have HYT := Lib.hid (And.intro HY.out ht)
        clear hq ht htv hsz
        by_cases q : MK.data.toList = t.data.toList
        · have hRe : R = true := by rw [HR.out]; exact decide_eq_true ⟨by omega, HSZ.out, HQ.out, q.symm⟩
          have HRE := Lib.hid hRe
          have b1 : (MK.toList == t.toList) = true := beqS_t q
          clear hRe q
          go_enter Tryz.func130, Tryz.ntmps130
          go_wp2_with fail
          go_quiet (fail)
          have hBV : Below w.heap.size w (w.drewN nq) := below_drewN' (Below.refl _ _) nq
          have c2V : (w.drewN nq).cell? ⟨pt, 2, none⟩ = some (.slice (some ⟨bW, oW, none⟩) n kI) := c2
          have c3V : (w.drewN nq).cell? ⟨pt, 3, none⟩ = some (.slice (some ⟨bS, oS, none⟩) n kS) := c3
          have cyV : (w.drewN nq).cell? ⟨bW, oW + la, none⟩ = some (.int .i64 y) := cy
          have ctV : (w.drewN nq).cell? ⟨bS, oS + la, none⟩ = some (.string t) := ct
          obtain ⟨V, hV⟩ : ∃ V, V = w.drewN nq := ⟨_, rfl⟩
          rw [← hV] at hBV c2V c3V cyV ctV ⊢
          have HKV := Lib.hid (And.intro (HM.out.next _ _ HM.out.k0 (bl_drew hBV)) (below_grown (bl_drew hBV) ro))
          have TV := HTB.out.next (bl_drew hBV)
          have HCELL : ∀ w7, V.drew.grownBy w7 ro → w7.cell? ⟨pt, 2, none⟩ = some (.slice (some ⟨bW, oW, none⟩) n kI) ∧ w7.cell? ⟨pt, 3, none⟩ = some (.slice (some ⟨bS, oS, none⟩) n kS) ∧ w7.cell? ⟨bW, oW + la, none⟩ = some (.int .i64 y) ∧ w7.cell? ⟨bS, oS + la, none⟩ = some (.string t) := fun w7 hG7 => tail_cells (TV.grownO hG7 hro) HNW.out HTW.out hlan HYT.out.1 HYT.out.2
          have HCELL := Lib.hid HCELL
          clear TV
          clear hV c0 c1 c2 c3 cy ct
          go_wp2_with fail
          go_region_held3 (fun w' => w'.cell? ⟨pt, 2, none⟩ = some (.slice (some ⟨bW, oW, none⟩) n kI) ∧ w'.cell? ⟨pt, 3, none⟩ = some (.slice (some ⟨bS, oS, none⟩) n kS) ∧ w'.cell? ⟨bW, oW + la, none⟩ = some (.int .i64 y) ∧ w'.cell? ⟨bS, oS + la, none⟩ = some (.string t))
            (first | exact HH | exact ⟨c2V, c3V, cyV, ctV⟩)
            (first
              | (go_at_call 105; refine (HSUM.out _).mono ?_; rintro e w6 ⟨rfl, rfl⟩; have HH := ‹World.cell? _ _ = _ ∧ World.cell? _ _ = _ ∧ World.cell? _ _ = _ ∧ World.cell? _ _ = _›)
              | (go_at_call 46; refine (HM.out.mark _ HKV.out.1 HKV.out.2).mono ?_; rintro e w7 ⟨rfl, hK7, hG7⟩; have HH := HCELL.out w7 hG7))
          all_goals (
            have HE := Lib.hid (And.intro hK7 (grown_trans HKV.out.2 hG7))
            go_wp2
            go_ret
            exact ⟨by rw [HRE.out]; rfl, .inr HE.out.1, HE.out.2⟩)
        · have hRe : R = false := by rw [HR.out]; exact decide_eq_false (fun k => q k.2.2.2.symm)
          have HRE := Lib.hid hRe
          have b1 : (MK.toList == t.toList) = false := beqS_f q
          clear hRe q
          go_enter Tryz.func130, Tryz.ntmps130
          go_wp2_with fail
          go_quiet (fail)
          have hBV : Below w.heap.size w (w.drewN nq) := below_drewN' (Below.refl _ _) nq
          have c2V : (w.drewN nq).cell? ⟨pt, 2, none⟩ = some (.slice (some ⟨bW, oW, none⟩) n kI) := c2
          have c3V : (w.drewN nq).cell? ⟨pt, 3, none⟩ = some (.slice (some ⟨bS, oS, none⟩) n kS) := c3
          have cyV : (w.drewN nq).cell? ⟨bW, oW + la, none⟩ = some (.int .i64 y) := cy
          have ctV : (w.drewN nq).cell? ⟨bS, oS + la, none⟩ = some (.string t) := ct
          obtain ⟨V, hV⟩ : ∃ V, V = w.drewN nq := ⟨_, rfl⟩
          rw [← hV] at hBV c2V c3V cyV ctV ⊢
          have HKV := Lib.hid (And.intro (HM.out.next _ _ HM.out.k0 (bl_drew hBV)) (below_grown (bl_drew hBV) ro))
          have TV := HTB.out.next (bl_drew hBV)
          have HCELL : ∀ w7, V.drew.grownBy w7 ro → w7.cell? ⟨pt, 2, none⟩ = some (.slice (some ⟨bW, oW, none⟩) n kI) ∧ w7.cell? ⟨pt, 3, none⟩ = some (.slice (some ⟨bS, oS, none⟩) n kS) ∧ w7.cell? ⟨bW, oW + la, none⟩ = some (.int .i64 y) ∧ w7.cell? ⟨bS, oS + la, none⟩ = some (.string t) := fun w7 hG7 => tail_cells (TV.grownO hG7 hro) HNW.out HTW.out hlan HYT.out.1 HYT.out.2
          have HCELL := Lib.hid HCELL
          clear TV
          clear hV c0 c1 c2 c3 cy ct
          go_wp2_with fail
          go_region_held3 (fun w' => w'.cell? ⟨pt, 2, none⟩ = some (.slice (some ⟨bW, oW, none⟩) n kI) ∧ w'.cell? ⟨pt, 3, none⟩ = some (.slice (some ⟨bS, oS, none⟩) n kS) ∧ w'.cell? ⟨bW, oW + la, none⟩ = some (.int .i64 y) ∧ w'.cell? ⟨bS, oS + la, none⟩ = some (.string t))
            (first | exact HH | exact ⟨c2V, c3V, cyV, ctV⟩)
            (first
              | (go_at_call 105; refine (HSUM.out _).mono ?_; rintro e w6 ⟨rfl, rfl⟩; have HH := ‹World.cell? _ _ = _ ∧ World.cell? _ _ = _ ∧ World.cell? _ _ = _ ∧ World.cell? _ _ = _›)
              | (go_at_call 46; refine (HM.out.mark _ HKV.out.1 HKV.out.2).mono ?_; rintro e w7 ⟨rfl, hK7, hG7⟩; have HH := HCELL.out w7 hG7))
          all_goals (
            have HE := Lib.hid (And.intro hK7 (grown_trans HKV.out.2 hG7))
            go_wp2
            go_ret
            exact ⟨by rw [HRE.out]; rfl, .inr HE.out.1, HE.out.2⟩)
      · have hRe : R = false := by rw [HR.out]; exact decide_eq_false (fun k => hq k.2.2.1)
        have HRE := Lib.hid hRe
        have d2 : (WV == y) = false := by simpa using hq
        clear hRe hq
        go_enter Tryz.func130, Tryz.ntmps130
        go_wp2_with fail
        go_quiet (fail)
        have hBV : Below w.heap.size w (w.drewN nq) := below_drewN' (Below.refl _ _) nq
        have c2V : (w.drewN nq).cell? ⟨pt, 2, none⟩ = some (.slice (some ⟨bW, oW, none⟩) n kI) := c2
        have cyV : (w.drewN nq).cell? ⟨bW, oW + la, none⟩ = some (.int .i64 y) := cy
        obtain ⟨V, hV⟩ : ∃ V, V = w.drewN nq := ⟨_, rfl⟩
        rw [← hV] at hBV c2V cyV ⊢
        clear hV c0 c1 c2 c3 cy
        go_wp2_with fail
        go_quiet ((go_at_call 105; exact quiet_eq (HSUM.out _)))
        go_wp2
        go_ret
        exact ⟨by rw [HRE.out]; rfl, .inl (HM.out.next _ _ HM.out.k0 (below_drewN' hBV _)), below_grown (below_drewN' hBV _) _⟩
    · have hRe : R = false := by rw [HR.out]; exact decide_eq_false (fun k => hsz k.2.1)
      have HRE := Lib.hid hRe
      have d1 : ((s.size : Int) == (r : Int)) = false := by simp; omega
      clear hRe hsz
      go_enter Tryz.func130, Tryz.ntmps130
      go_wp2_with fail
      go_quiet (fail)
      go_wp2_with fail
      go_quiet (fail)
      go_wp2
      go_ret
      exact ⟨by rw [HRE.out]; rfl, .inl (HM.out.next _ _ HM.out.k0 (below_drewN' (below_drewN' (Below.refl _ _) _) _)), below_grown (below_drewN' (below_drewN' (Below.refl _ _) _) _) _⟩
end Go.Proofs.YtgkcnocfijckoaaGreat.Sg
namespace Go.Proofs.YtgkcnocfijckoaaGreat.Sg
open Go.RowKit
set_option linter.unusedVariables false
set_option linter.unusedSimpArgs false
theorem matchGo_eq (T : List ByteArray) (MK : ByteArray) (wanted : Int) : ∀ (l : List Int) (fd : Int), (∀ x ∈ l, 0 ≤ x) → matchGo T MK wanted l fd = if wanted ∈ l.filter (eqM T MK) then wanted else if fd < 0 then (l.filter (eqM T MK)).head?.getD fd else fd := by
  intro l
  induction l with
  | nil => intro fd _; simp [matchGo]
  | cons i l ih =>
    intro fd h
    have hi := h i (by simp)
    have ih' := fun fd => ih fd (fun x hx => h x (List.mem_cons_of_mem _ hx))
    rw [matchGo]
    by_cases e : eqM T MK i = true
    · rw [if_pos e, List.filter_cons_of_pos e]
      by_cases w : i = wanted
      · rw [if_pos w, if_pos (by rw [w]; simp)]; exact w
      · have hnm : wanted ∈ i :: l.filter (eqM T MK) ↔ wanted ∈ l.filter (eqM T MK) := by
          rw [List.mem_cons]
          exact ⟨fun q => q.elim (fun q => absurd q.symm w) id, .inr⟩
        rw [if_neg w, ih']
        by_cases m : wanted ∈ l.filter (eqM T MK)
        · rw [if_pos m, if_pos (hnm.2 m)]
        · rw [if_neg m, if_neg (fun q => m (hnm.1 q))]
          by_cases f : fd < 0
          · simp only [if_pos f]
            rw [if_neg (by omega)]; rfl
          · simp only [if_neg f]
    · rw [if_neg e, List.filter_cons_of_neg e, ih']
theorem bytes_len (t : ByteArray) : (bytesOf t).length = t.size := by unfold bytesOf; exact Array.length_toList
theorem piece_sizeB (s : ByteArray) (B k : Nat) (hB : 0 < B) : (piece s B k).size = B ↔ k < s.size / B := by
  unfold piece
  rw [ByteArray.size_extract, show (k < s.size / B ↔ k + 1 ≤ s.size / B) from Iff.rfl, Nat.le_div_iff_mul_le hB, Nat.add_mul, Nat.one_mul]
  omega
theorem pieces_get (s : ByteArray) (B n k : Nat) (h : k < n) : (pieces s B n)[k]? = some (piece s B k) := by
  unfold pieces; rw [List.getElem?_map, List.getElem?_range h]; rfl
theorem div_le_cnt (s : ByteArray) (B : Nat) (hB : 0 < B) : s.size / B ≤ cnt s.size B := by
  unfold cnt; exact Nat.div_le_div_right (by omega)
/-- is the block k the text? -/
def okAt (s : ByteArray) (B : Nat) (t : ByteArray) (weak : Int) (k : Nat) : Bool := decide ((piece s B k).size = B ∧ bytesOf (piece s B k) = bytesOf t ∧ weakI t = weak)
def upFrom (s : ByteArray) (B : Nat) (t : ByteArray) (weak : Int) (n j : Nat) : List Nat := (List.range' j (n - j)).filter (okAt s B t weak)
theorem upFrom_end (s : ByteArray) (B : Nat) (t : ByteArray) (weak : Int) (n : Nat) : upFrom s B t weak n n = [] := by simp [upFrom]
theorem upFrom_step (s : ByteArray) (B : Nat) (t : ByteArray) (weak : Int) {n j : Nat} (h : j < n) : upFrom s B t weak n j = if okAt s B t weak j = true then j :: upFrom s B t weak n (j + 1) else upFrom s B t weak n (j + 1) := by
  unfold upFrom
  rw [show n - j = (n - (j + 1)) + 1 by omega, List.range'_succ]
  by_cases e : okAt s B t weak j = true
  · rw [if_pos e, List.filter_cons_of_pos e]
  · rw [if_neg e, List.filter_cons_of_neg e]
theorem mem_upFrom {s : ByteArray} {B : Nat} {t : ByteArray} {weak : Int} {n k : Nat} : k ∈ upFrom s B t weak n 0 ↔ k < n ∧ okAt s B t weak k = true := by
  unfold upFrom
  rw [List.mem_filter, List.mem_range'_1]
  constructor
  · rintro ⟨⟨_, h⟩, ho⟩; exact ⟨by omega, ho⟩
  · rintro ⟨h, ho⟩; exact ⟨⟨by omega, by omega⟩, ho⟩
/-- what the law's loop holds, from the block j on -/
def lawM (s : ByteArray) (B : Nat) (t : ByteArray) (weak : Int) (n j : Nat) : Int := ((upFrom s B t weak n j).head?.map (fun k : Nat => (k : Int))).getD (-1)
def lawIs (s : ByteArray) (B : Nat) (t : ByteArray) (weak wanted : Int) (n j : Nat) : Bool := (upFrom s B t weak n j).any (fun k => decide ((k : Int) = wanted))
theorem lawM_end (s : ByteArray) (B : Nat) (t : ByteArray) (weak : Int) (n : Nat) : lawM s B t weak n n = -1 := by simp [lawM, upFrom_end]
theorem lawIs_end (s : ByteArray) (B : Nat) (t : ByteArray) (weak wanted : Int) (n : Nat) : lawIs s B t weak wanted n n = false := by simp [lawIs, upFrom_end]
theorem law_yes {s : ByteArray} {B : Nat} {t : ByteArray} {weak wanted : Int} {n j : Nat} (h : j < n) (ho : okAt s B t weak j = true) : lawM s B t weak n j = j ∧ lawIs s B t weak wanted n j = (decide ((j : Int) = wanted) || lawIs s B t weak wanted n (j + 1)) := by
  unfold lawM lawIs
  rw [upFrom_step s B t weak h, if_pos ho]
  exact ⟨rfl, by rw [List.any_cons]⟩
theorem law_no {s : ByteArray} {B : Nat} {t : ByteArray} {weak wanted : Int} {n j : Nat} (h : j < n) (ho : ¬ okAt s B t weak j = true) : lawM s B t weak n j = lawM s B t weak n (j + 1) ∧ lawIs s B t weak wanted n j = lawIs s B t weak wanted n (j + 1) := by
  unfold lawM lawIs
  rw [upFrom_step s B t weak h, if_neg ho]
  exact ⟨rfl, rfl⟩
theorem eqM_iff {s : ByteArray} {B n k : Nat} {t : ByteArray} {SN : Bk} {T : List ByteArray} (hT : (SN, T) = marksOf [] (pieces s B n)) (hn : n ≤ 1000000) (hk : k < n) : eqM T (numS (SN.idxOf (bytesOf t) + 1)) (k : Int) = true ↔ bytesOf (piece s B k) = bytesOf t := by
  have h1 : SN = (marksOf [] (pieces s B n)).1 := by rw [← hT]
  have h2 : T = (marksOf [] (pieces s B n)).2 := by rw [← hT]
  have hl : T.length = n := by rw [h2, marksOf_len, pieces_len]
  have hSl : SN.length ≤ n := by
    have := fold_addS_len ((pieces s B n).map bytesOf) []
    rw [← marksOf_seen, List.length_map, pieces_len] at this
    rw [h1]; simpa using this
  obtain ⟨mk, hmk⟩ : ∃ mk, T[k]? = some mk := ⟨_, List.getElem?_eq_getElem (by omega)⟩
  have := marks_take [] (pieces s B n) k (piece s B k) mk (pieces_get s B n k hk) (by rw [← h2]; exact hmk)
  rw [← h1] at this
  obtain ⟨hm, he⟩ := this
  have hg : T.getD (k : Int).toNat ByteArray.empty = mk := by simp only [Int.toNat_natCast]; rw [List.getD_eq_getElem?_getD, hmk]; rfl
  unfold eqM
  rw [hg, decide_eq_true_eq, he]
  constructor
  · intro h
    have a1 : SN.idxOf (bytesOf (piece s B k)) ≤ SN.length := List.idxOf_le_length
    have a2 : SN.idxOf (bytesOf t) ≤ SN.length := List.idxOf_le_length
    have a3 := numS_inj _ _ (by omega) (by omega) h
    have a4 := List.idxOf_lt_length_of_mem hm
    have a5 : bytesOf t ∈ SN := List.idxOf_lt_length_iff.1 (by omega)
    exact idx_inj hm a5 (by omega)
  · intro h; rw [h]
/-- the program's answer is the law's -/
theorem match_law {s : ByteArray} {B n : Nat} {t : ByteArray} {weak wanted : Int} {SN : Bk} {T : List ByteArray} (hB : 0 < B) (hn : n = cnt s.size B) (hn2 : n ≤ 1000000) (hT : (SN, T) = marksOf [] (pieces s B n)) :
    (if t.size = B then matchGo T (numS (SN.idxOf (bytesOf t) + 1)) wanted (findL ((pieces s B n).map weakI) (s.size / B) weak) (-1) else -1) = if lawIs s B t weak wanted n 0 = true then wanted else lawM s B t weak n 0 := by
  have hw : ∀ v : Nat, v < n → wtOf ((pieces s B n).map weakI) (v : Int) = weakI (piece s B v) := by
    intro v hv
    simp only [wtOf, Int.toNat_natCast]
    rw [List.getD_eq_getElem?_getD, List.getElem?_map, pieces_get s B n v hv]; rfl
  have hNn : s.size / B ≤ n := by rw [hn]; exact div_le_cnt s B hB
  by_cases hs : t.size = B
  · rw [if_pos hs, matchGo_eq _ _ _ _ _ (fun x hx => by obtain ⟨v, _, rfl, _⟩ := findL_mem.1 hx; omega)]
    have hFE : (findL ((pieces s B n).map weakI) (s.size / B) weak).filter (eqM T (numS (SN.idxOf (bytesOf t) + 1))) = (upFrom s B t weak n 0).map (fun k : Nat => (k : Int)) := by
      refine incr_ext _ _ ((findL_inc _ _ _).sublist List.filter_sublist) ?_ fun x => ?_
      · rw [List.pairwise_map]
        refine List.Pairwise.imp (fun h => by omega) (List.Pairwise.sublist List.filter_sublist (List.pairwise_lt_range' (s := 0) (n := n - 0) 1 (by omega)))
      · rw [List.mem_filter, findL_mem, List.mem_map]
        constructor
        · rintro ⟨⟨v, hv, rfl, hwv⟩, he⟩
          have hvn : v < n := by omega
          have he2 := (eqM_iff (t := t) hT hn2 hvn).1 he
          refine ⟨v, mem_upFrom.2 ⟨hvn, ?_⟩, rfl⟩
          unfold okAt
          rw [decide_eq_true_eq]
          refine ⟨(piece_sizeB s B v hB).2 hv, he2, ?_⟩
          rw [hw v hvn] at hwv
          rw [← hwv]; unfold weakI; rw [he2]
        · rintro ⟨v, hv, rfl⟩
          obtain ⟨hvn, ho⟩ := mem_upFrom.1 hv
          unfold okAt at ho
          rw [decide_eq_true_eq] at ho
          refine ⟨⟨v, (piece_sizeB s B v hB).1 ho.1, rfl, ?_⟩, (eqM_iff (t := t) hT hn2 hvn).2 ho.2.1⟩
          rw [hw v hvn, ← ho.2.2]; unfold weakI; rw [ho.2.1]
    rw [hFE]
    have hmem : (wanted ∈ (upFrom s B t weak n 0).map (fun k : Nat => (k : Int))) ↔ lawIs s B t weak wanted n 0 = true := by
      unfold lawIs
      rw [List.any_eq_true, List.mem_map]
      simp only [decide_eq_true_eq]
    by_cases hm : lawIs s B t weak wanted n 0 = true
    · rw [if_pos (hmem.2 hm), if_pos hm]
    · rw [if_neg (fun h => hm (hmem.1 h)), if_neg hm, if_pos (by omega)]
      unfold lawM
      rw [List.head?_map]
  · rw [if_neg hs]
    have hnil : upFrom s B t weak n 0 = [] := by
      apply List.eq_nil_iff_forall_not_mem.2
      intro k hk
      obtain ⟨_, ho⟩ := mem_upFrom.1 hk
      unfold okAt at ho
      rw [decide_eq_true_eq] at ho
      have := congrArg List.length ho.2.1
      have e : (bytesOf (piece s B k)).length = (piece s B k).size := bytes_len _
      have e2 : (bytesOf t).length = t.size := bytes_len _
      omega
    unfold lawIs lawM
    rw [hnil]
    simp
/-- the last block, where it is not whole -/
theorem piece_last (s : ByteArray) (B : Nat) (hB : 0 < B) (hr : 0 < s.size % B) : cnt s.size B - 1 = s.size / B ∧ 0 < cnt s.size B ∧ bytesOf (piece s B (s.size / B)) = bytesOf (s.extract (s.size - s.size % B) s.size) := by
  have hd := Nat.div_add_mod s.size B
  have hm := Nat.mod_lt s.size hB
  have hc : cnt s.size B = s.size / B + 1 := by
    unfold cnt
    have h1 : s.size + B - 1 = (s.size % B - 1) + B * (s.size / B + 1) := by
      have h2 : B * (s.size / B + 1) = B * (s.size / B) + B := by rw [Nat.mul_add, Nat.mul_one]
      rw [h2]
      generalize B * (s.size / B) = P at hd ⊢
      generalize s.size % B = r at hd hr hm ⊢
      omega
    rw [h1, Nat.add_mul_div_left _ _ hB, Nat.div_eq_of_lt (by omega)]
    omega
  refine ⟨by rw [hc]; exact Nat.add_sub_cancel _ _, by rw [hc]; exact Nat.succ_pos _, ?_⟩
  have e1 : s.size / B * B = s.size - s.size % B := by rw [Nat.mul_comm]; omega
  have e2 : s.size ≤ (s.size / B + 1) * B := by rw [Nat.add_mul, e1]; omega
  unfold bytesOf piece
  rw [e1]
  apply congrArg
  apply congrArg
  apply ByteArray.ext
  rw [ByteArray.data_extract, ByteArray.data_extract]
  have : s.data.size = s.size := rfl
  apply Array.ext
  · simp only [Array.size_extract]; omega
  · intro k h1 h2; simp
/-- the program's Tail is the law's -/
theorem tail_law {s : ByteArray} {B n : Nat} {t : ByteArray} {SN : Bk} {T : List ByteArray} (hB : 0 < B) (hn : n = cnt s.size B) (hn2 : n ≤ 1000000) (hT : (SN, T) = marksOf [] (pieces s B n)) :
    tailB B s.size ((pieces s B n).map weakI) T t (numS (SN.idxOf (bytesOf t) + 1)) = decide (0 < s.size % B ∧ bytesOf t = bytesOf (s.extract (s.size - s.size % B) s.size)) := by
  unfold tailB
  by_cases hr : 0 < s.size % B
  · obtain ⟨h1, h2, h3⟩ := piece_last s B hB hr
    rw [List.length_map, pieces_len]
    rw [← hn] at h1 h2
    have hk : n - 1 < n := by omega
    have hq := eqM_iff (t := t) hT hn2 hk
    unfold eqM at hq
    rw [decide_eq_true_eq] at hq
    simp only [Int.toNat_natCast] at hq
    rw [← h3, ← h1]
    have hg : ((pieces s B n).map weakI).getD (n - 1) 0 = weakI (piece s B (n - 1)) := by
      rw [List.getD_eq_getElem?_getD, List.getElem?_map, pieces_get s B n _ hk]; rfl
    rw [hg, decide_eq_decide]
    constructor
    · rintro ⟨a, b, c, d⟩; exact ⟨a, (hq.1 d).symm⟩
    · rintro ⟨a, b⟩
      refine ⟨a, ?_, by unfold weakI; rw [b], hq.2 b.symm⟩
      have e2 : (bytesOf t).length = t.size := bytes_len _
      rw [← e2, b, h1, h3]
      simp only [bytesOf, Array.length_toList]
      show (s.extract (s.size - s.size % B) s.size).size = s.size % B
      rw [ByteArray.size_extract]
      have := Nat.mod_le s.size B
      omega
  · rw [decide_eq_false (fun h => hr h.1), decide_eq_false (fun h => hr h.1)]
end Go.Proofs.YtgkcnocfijckoaaGreat.Sg
