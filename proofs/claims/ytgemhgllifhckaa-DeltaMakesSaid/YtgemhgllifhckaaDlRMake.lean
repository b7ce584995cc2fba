/- The document's Make, by what its book says of a text's mark. Conditions: as named in each theorem. -/
import Derived.Test.YtgemhgllifhckaaDlRTail
import Derived.Test.YtgemhgllifhckaaDlRTexts
namespace Go.Proofs.Ytgemhgllifhckaa
open Go.RowKit Sg
set_option linter.unusedVariables false
set_option linter.unusedSimpArgs false

def mfR (b z : Nat) (Wk : List Int) (em : ByteArray → Int → Bool) (t : ByteArray) (wn : Int) : Int := if t.size = b then matchF (em t) wn (findL Wk (z / b) (weakI t)) else -1
theorem matchF_lt {f : Int → Bool} {wn : Int} {l : List Int} {N : Nat} (h : ∀ x ∈ l, x < (N : Int)) : matchF f wn l < (N : Int) := by
  unfold matchF
  by_cases hw : wn ∈ l.filter f
  · rw [if_pos hw]; exact h _ (List.mem_filter.1 hw).1
  · rw [if_neg hw]
    cases hh : (l.filter f).head? with
    | none => show (-1 : Int) < N; omega
    | some x => exact h x (List.mem_filter.1 (List.mem_of_mem_head? hh)).1
theorem mfR_lt (b z : Nat) (Wk : List Int) (em : ByteArray → Int → Bool) (t : ByteArray) (wn : Int) : mfR b z Wk em t wn < ((z / b : Nat) : Int) := by
  unfold mfR
  split
  · refine matchF_lt fun x hx => ?_
    obtain ⟨v, hv, rfl, _⟩ := findL_mem.1 hx
    exact Int.ofNat_lt.2 hv
  · have : (0 : Int) ≤ ((z / b : Nat) : Int) := Int.natCast_nonneg _
    omega
theorem tailF_pos {b z : Nat} {Wk : List Int} {em : ByteArray → Int → Bool} {s : ByteArray} (h : tailF b z Wk em s = true) : 0 < z % b := (of_decide_eq_true h).1
theorem bd_of_sh {L : List St} (h : ShL L) : Bd L := fun x hx => by
  rcases h x hx with ⟨_, _, h2, _⟩ | ⟨_, h2, h3, h4⟩ <;> omega

/-- the document's maker between two steps -/
structure RS (q : Nat) (B : Nat) (V wr : World) (KS : Nat → (Nat → Prop) → World → Prop) (F : Nat → Prop) (sv : Value) (L : List St) (c : Nat) (F' : Nat → Prop) : Prop where
  o : Own wr B sv L
  k : KS c F' wr
  g : Kept F V wr
  f : ∀ k, F' k → F k ∨ B ≤ k
  d : ∀ k, sv.ownBlock = some k → ¬ F' k
  v : B = V.heap.size
section
variable {q B : Nat} {V wr w2 : World} {KS : Nat → (Nat → Prop) → World → Prop} {F F' : Nat → Prop} {sv sv2 : Value} {L L2 : List St} {c d : Nat} {T : List ByteArray} {em : ByteArray → Int → Bool}
theorem RS.ask (h : RS q B V wr KS F sv L c F') (hA : AskS KS c d F' wr.heap.size wr w2) : ∃ c2 F2, c2 ≤ c + d ∧ RS q B V w2 KS F sv L c2 F2 := by
  obtain ⟨c2, F2, h1, h2, h3, h4⟩ := hA
  have hB : B ≤ wr.heap.size := by rw [h.v]; exact h.g.size
  refine ⟨c2, F2, h1, ⟨?_, h2, h.g.trans h3 (fun i hi hF => (h.f i hF).elim id (fun h5 => by rw [h.v] at h5; omega)), fun k hk => ?_, fun k hk h5 => ?_, h.v⟩⟩
  · exact owns_block h.o (fun k hk => h3.block k (owns_lt h.o hk) (h.d k hk))
  · rcases h4 k hk with h5 | h5
    · exact h.f k h5
    · exact .inr (Nat.le_trans hB h5)
  · rcases h4 k h5 with h6 | h6
    · exact h.d k hk h6
    · have := owns_lt h.o hk; omega
theorem RS.write (hC : RBk q T KS em) (h : RS q B V wr KS F sv L c F') (ho : Own w2 B sv2 L2) (hk : Kept (fun k => sv.ownBlock = some k) wr w2) (hf : ∀ k, sv2.ownBlock = some k → sv.ownBlock = some k ∨ wr.heap.size ≤ k) : RS q B V w2 KS F sv2 L2 c F' := by
  refine ⟨ho, hC.kept c F' _ wr w2 h.k hk (fun k h1 h2 => h.d k h2 h1), h.g.trans hk (fun i hi h1 => by have := (World.ownsRow.lt h.o i h1).1; rw [h.v] at this; omega), h.f, fun k h1 h2 => ?_, h.v⟩
  rcases hf k h1 with h3 | h3
  · exact h.d k h3 h2
  · have := hC.lt _ _ _ h.k k h2; omega
theorem RS.drewN (hC : RBk q T KS em) (h : RS q B V wr KS F sv L c F') (n : Nat) : RS q B V (wr.drewN n) KS F sv L c F' :=
  ⟨h.o, hC.kept c F' (fun _ => False) wr _ h.k ⟨rfl, rfl, rfl, Nat.le_refl _, fun _ _ _ => rfl⟩ (fun _ _ h => h), ⟨h.g.os, h.g.tape, h.g.output, h.g.size, h.g.block⟩, h.f, h.d, h.v⟩
end
def RMakeP (w : World) (KS : Nat → (Nat → Prop) → World → Prop) (F : Nat → Prop) (L : List St) (e : Ending) (w' : World) : Prop :=
  ∃ sv c' F', e = .returned (.tuple #[sv, .int .i64 0]) ∧ Own w' w.heap.size sv L ∧ KS c' F' w' ∧ Kept F w w' ∧ (∀ k, F' k → F k ∨ w.heap.size ≤ k) ∧ c' ≤ 5000000 ∧ (∀ k, sv.ownBlock = some k → ¬ F' k)
theorem toS_app (t : List UInt8) (a : ByteArray) : toS t ++ a = toS (t ++ a.data.toList) := by
  apply ByteArray.ext; apply Array.ext'
  rw [ByteArray.data_append, Array.toList_append]
  simp [toS]
theorem ext_take (s : ByteArray) (a k : Nat) : (s.extract a (a + k)).data.toList = (s.data.toList.drop a).take k := by simp [List.extract_eq_take_drop]
theorem ext_take2 (s : ByteArray) (a e : Nat) (h : a ≤ e) : (s.extract a e).data.toList = (s.data.toList.drop a).take (e - a) := by
  rw [← ext_take s a (e - a), show a + (e - a) = e by omega]
theorem ext_drop (s : ByteArray) (a : Nat) : (s.extract a s.size).data.toList = s.data.toList.drop a := by
  simp only [ByteArray.data_extract, Array.toList_extract, List.extract_eq_take_drop]
  exact List.take_of_length_le (by rw [List.length_drop, Array.length_toList]; exact Nat.le_refl _)

set_option maxRecDepth 100000 in
set_option maxHeartbeats 4000000 in
theorem rmake_any (w : World) (q b z : Nat) (ao : Option Addr) (n cap : Nat) (bo : Option Addr) (cap2 : Nat) (Wk : List Int) (T : List ByteArray) (s : ByteArray) (KS : Nat → (Nat → Prop) → World → Prop) (em : ByteArray → Int → Bool) (F : Nat → Prop)
    (hC : RBk q T KS em) (hK : KS 0 F w) (hW : Rs w ao n cap 1 Wk (fun x => [.int .i64 x])) (hT : Rs w bo n cap2 1 T (fun x => [.string x])) (hw : ∀ x ∈ Wk, (Lit.int .i64 x).wf = true) (htm : ∀ t ∈ T, t.size ≤ maxLen) (hTF : 0 < n → ∀ k off, bo = some ⟨k, off, none⟩ → ¬ F k) (hWF : 0 < n → ∀ k off, ao = some ⟨k, off, none⟩ → ¬ F k)
    (hn : n ≤ 1000) (hok : sigOk b z Wk T) (hs : s.size ≤ 1500) :
    Calls Try.prog 32 #[.pointer (some ⟨q, 0, none⟩), .agg #[.int .i64 b, .int .i64 z, .slice ao n cap, .slice bo n cap2], .string s] w (RMakeP w KS F (stepsM (mfR b z Wk em) (tailF b z Wk em) s z b)) := by
  have hb1 : 16 ≤ b := by have := hok.1; omega
  have hb2 : b ≤ 1024 := by have := hok.2.1; omega
  have hzz : z ≤ 524288 := by have := hok.2.2.2.1; omega
  have hlW : Wk.length = n := hW.2.2.1
  have hcn : n = cnt z b := by have := hok.2.2.2.2.1; simp only [Int.toNat_natCast] at this; omega
  have hNn : z / b ≤ n := by
    rw [hcn]; unfold cnt
    exact Nat.div_le_div_right (by omega)
  have hpos : 0 < z % b → 0 < n := fun h => by
    rw [hcn]; unfold cnt
    exact Nat.div_pos (by have := Nat.mod_le z b; omega) (by omega)
  obtain ⟨V, hV⟩ : ∃ V, V = w.alloc (Obj.cells #[.int .i64 b, .int .i64 z, .slice ao n cap, .slice bo n cap2] 52) := ⟨_, rfl⟩
  obtain ⟨p1, hp1⟩ : ∃ p, p = w.heap.size := ⟨_, rfl⟩
  have hG1 : Blk V p1 [.int .i64 b, .int .i64 z, .slice ao n cap, .slice bo n cap2] 52 := by rw [hV, hp1]; exact Blk.new _ _ _
  have hB1 : Below w.heap.size w V := by rw [hV]; exact below_alloc _ _
  have hFw := hC.lt 0 F w hK
  have hFp : ¬ F p1 := fun h => by have := hFw p1 h; omega
  have HRI := Lib.hid (Sg.refRight_any V b z ao n cap bo n cap2 Wk T (wfI _ (by omega) (by omega)) (wfI _ (by omega) (by omega)) (hW.next hB1) (hT.next hB1) hw htm (by omega) (by omega))
  have c0 := hG1.cell (i := 0) rfl
  have c1 := hG1.cell (i := 1) rfl
  have c2 := hG1.cell (i := 2) rfl
  have c3 := hG1.cell (i := 3) rfl
  obtain ⟨mf, hmf⟩ : ∃ mf, mf = mfR b z Wk em := ⟨_, rfl⟩
  obtain ⟨tf, htf⟩ : ∃ tf, tf = tailF b z Wk em := ⟨_, rfl⟩
  rw [← hmf, ← htf]
  have hmfl : ∀ t wn, mf t wn < ((z / b : Nat) : Int) := fun t wn => by rw [hmf]; exact mfR_lt b z Wk em t wn
  have HC := Lib.hid hC
  have HOK := Lib.hid hok
  have HV := Lib.hid hV
  have HP1 := Lib.hid hp1
  have HF := Lib.hid (And.intro hmf htf)
  have HML := Lib.hid hmfl
  have HN := Lib.hid (And.intro hNn hpos)
  have HROW := Lib.hid (And.intro (hW.next hB1) (And.intro (hT.next hB1) (And.intro hTF hWF)))
  have HG := Lib.hid (And.intro hG1 (And.intro hFp hB1))
  have HK := Lib.hid (hC.next hK hB1)
  clear hV hp1 hG1 hB1 hFw hFp hmf htf hmfl hC hok hK hW hT hTF hWF hw htm hNn hpos hcn hlW
  go_enter Try.func32, Try.ntmps32
  go_upto_region 1 with fail
  rw [← HP1.out, ← HV.out]
  go_wp2_with fail
  refine HRI.out.mono ?_
  rintro e w2 ⟨⟨r, rfl, hr⟩, hb2'⟩
  have hr1 : r = true := hr.2 HOK.out
  subst hr1
  obtain ⟨B, hB⟩ : ∃ B, B = w2.heap.size := ⟨_, rfl⟩
  have HG2 := Lib.hid (And.intro (HG.out.1.below hb2' HG.out.1.lt) (And.intro HG.out.2.1 (bl_nx HG.out.2.2 hb2')))
  have HROW2 := Lib.hid (And.intro (HROW.out.1.next hb2') (And.intro (HROW.out.2.1.next hb2') HROW.out.2.2))
  have HS0 : Hid (RS q B w2 w2 KS F (.slice none 0 0) [] 0 F) := Lib.hid ⟨World.ownsRow_nil _ _ _ _, HC.out.next HK.out hb2', Kept.refl _ _, fun k h => .inl h, (fun k h => by simp [Value.ownBlock] at h), hB⟩
  have HBB := Lib.hid hB
  have hp1B : p1 < B := by rw [hB]; exact HG2.out.1.lt
  have HPB := Lib.hid hp1B
  have hwB : w.heap.size ≤ B := by rw [hB]; exact HG2.out.2.2.size
  have HWB := Lib.hid hwB
  have d3 : ¬ (524288 : Int) < (s.size : Int) := by omega
  clear hr hb2' HRI HROW HG HK c0 c1 c2 c3 hB hp1B hwB
  /- what stands at any moment -/
  have HAT : Hid (∀ wr sv L c F', RS q B w2 wr KS F sv L c F' → Blk wr p1 [.int .i64 b, .int .i64 z, .slice ao n cap, .slice bo n cap2] 52 ∧ Rs wr ao n cap 1 Wk (fun x => [.int .i64 x]) ∧ Rs wr bo n cap2 1 T (fun x => [.string x]) ∧ ¬ F' p1 ∧ (0 < n → ∀ k off, bo = some ⟨k, off, none⟩ → ¬ F' k) ∧ (0 < n → ∀ k off, ao = some ⟨k, off, none⟩ → ¬ F' k)) := Lib.hid (fun wr sv L c F' h => by
    have hlt : ∀ k, k < B → ¬ F k → ¬ F' k := fun k h1 h2 h3 => (h.f k h3).elim h2 (fun h4 => by omega)
    have hz : ∀ {α : Type} {xo : Option Addr} {m2 : Nat} {rs : List α} {g : α → List Value}, Rs w2 xo n m2 1 rs g → (0 < n → ∀ k off, xo = some ⟨k, off, none⟩ → ¬ F k) → 0 < n → ∀ k off, xo = some ⟨k, off, none⟩ → ¬ F' k := fun hR hF h0 k off e => by
      obtain ⟨bb, off', e2, hbb, _⟩ := hR.2.2.2 h0
      rw [e] at e2
      injection e2 with e2
      injection e2 with e2
      subst e2
      exact hlt k (by rw [HBB.out]; exact hbb) (hF h0 k off e)
    have hy : ∀ {α : Type} {xo : Option Addr} {m2 : Nat} {rs : List α} {g : α → List Value}, Rs w2 xo n m2 1 rs g → (0 < n → ∀ k off, xo = some ⟨k, off, none⟩ → ¬ F k) → Rs wr xo n m2 1 rs g := fun hR hF => by
      refine ⟨hR.1, hR.2.1, hR.2.2.1, fun h0 => ?_⟩
      obtain ⟨bb, off', e2, hbb, hc⟩ := hR.2.2.2 h0
      exact ⟨bb, off', e2, Nat.lt_of_lt_of_le hbb h.g.size, fun i hi j v hj => (h.g.cell hbb (hF h0 bb off' e2)).trans (hc i hi j v hj)⟩
    refine ⟨?_, hy HROW2.out.1 HROW2.out.2.2.2, hy HROW2.out.2.1 HROW2.out.2.2.1, hlt p1 HPB.out HG2.out.2.1, hz HROW2.out.2.1 HROW2.out.2.2.1, hz HROW2.out.1 HROW2.out.2.2.2⟩
    have h1 := HG2.out.1
    unfold Blk at h1 ⊢
    rw [h.g.block p1 (by rw [← HBB.out]; exact HPB.out) HG2.out.2.1]; exact h1)
  have HSUM := Lib.hid (fun (t : ByteArray) (ht : t.size ≤ 524288) W => refSum_any t W ht)
  go_wp2_with fail
  go_loopw [8, 9, 10, 11] (fun lv hv wv av wr => ∃ (x : Ms) (c' : Nat) (F' : Nat → Prop), hv = .string (toS x.t) ∧ wv = .int .i64 x.wn ∧ av = .int .i64 x.at_ ∧ mkRun mf s b ms0 = mkRun mf s b x ∧ MsOk (z / b) z b s x x.at_ ∧ c' ≤ 1001 * x.at_ ∧ RS q B w2 wr KS F lv x.L c' F') (fun _ _ _ av _ => s.size - (intOf av).toNat)
  case atStart => exact ⟨ms0, 0, F, rfl, rfl, rfl, rfl, ⟨Nat.zero_le _, Nat.le_refl _, by simp [ms0], fun x h => (by cases h)⟩, by simp, by rw [← HBB.out] at *; exact HS0.out⟩
  case round =>
    clear HS0
    obtain ⟨⟨xL, xt, a, wn⟩, c', F', rfl, rfl, rfl, hrun, hM, hc', hR⟩ := hrel
    simp only at hrun hM hc' hR
    obtain ⟨hle, -, hlen, hsh⟩ := hM
    simp only at hle hlen hsh
    obtain ⟨hG, hWr, hTr, hFp', hTF', hWF'⟩ := HAT.out _ _ _ _ _ hR
    obtain ⟨H, hH⟩ : ∃ H, H = toS xt := ⟨_, rfl⟩
    have hHs : H.size ≤ 1500 := by rw [hH, toS_size]; omega
    rw [← hH]
    have HH := Lib.hid hH
    have c0 := hG.cell (i := 0) rfl
    have c1 := hG.cell (i := 1) rfl
    have c2 := hG.cell (i := 2) rfl
    have c3 := hG.cell (i := 3) rfl
    have HR := Lib.hid hR
    have HRN := Lib.hid hrun
    have HSH := Lib.hid hsh
    have w1 : IntKind.i64.wrap ((s.size : Int) - (a : Int)) = (s.size : Int) - (a : Int) := IntWalk.i64_in _ (by omega)
    by_cases hlt : a + b ≤ s.size
    case pos =>
      have hge : (b : Int) ≤ (s.size : Int) - (a : Int) := by omega
      have w2' : IntKind.i64.wrap ((a : Int) + (b : Int)) = (a : Int) + (b : Int) := IntWalk.i64_in _ (by omega)
      have j0 : (0 : Int) ≤ (a : Int) := by omega
      have j1 : (a : Int) ≤ (a : Int) + (b : Int) := by omega
      have j2 : (a : Int) + (b : Int) ≤ (s.size : Int) := by omega
      have j3 : ((a : Int) + (b : Int)).toNat = a + b := by omega
      obtain ⟨tt, htt⟩ : ∃ tt, tt = s.extract a (a + b) := ⟨_, rfl⟩
      have hts : tt.size = b := by rw [htt, ByteArray.size_extract]; omega
      have HTT := Lib.hid htt
      obtain ⟨R, hRr⟩ : ∃ R, R = mf tt wn := ⟨_, rfl⟩
      have HRR := Lib.hid hRr
      have hRl : R < ((z / b : Nat) : Int) := by rw [hRr]; exact HML.out tt wn
      have hRD : RS q B w2 wr.drew KS F u8 xL c' F' := hR.drewN HC.out 1
      have HMT : Hid (∀ W ws, W = wr.drew → ws = weakI tt → Calls Try.prog 65 #[.pointer (some ⟨q, 0, none⟩), .agg #[.int .i64 b, .int .i64 z, .slice ao n cap, .slice bo n cap2], .int .i64 ws, .string tt, .int .i64 wn] W fun e w' => e = .returned (.int .i64 R) ∧ ∃ c2 F2, c2 ≤ c' + 1000 ∧ RS q B w2 w' KS F u8 xL c2 F2) := Lib.hid (fun W ws hWd hws => by
        rw [hWd, hws]
        refine (refMatch_any wr.drew q b z (z / b) ao n cap bo n cap2 Wk T (weakI tt) wn tt KS em c' F' HC.out hRD.k (by omega) (hWr.next (bl_drew (Below.refl _ wr))) (hTr.next (bl_drew (Below.refl _ wr))) hTF' (by omega) hb1 hb2 hzz rfl HN.out.1 HN.out.1 (by have := HN.out.1; omega) (by omega)).mono ?_
        rintro e w' ⟨rfl, hA⟩
        refine ⟨?_, hRD.ask hA⟩
        rw [hRr, HF.out.1]
        rfl)
      have HSM := Lib.hid (fun W => HSUM.out tt (by omega) W)
      obtain ⟨ws, hws⟩ : ∃ ws : Int, ws = ((weak tt.data.toList : Nat) : Int) := ⟨_, rfl⟩
      rw [← hws] at HSM
      have HWS : Hid (ws = weakI tt) := Lib.hid hws
      have HSB := Lib.hid hlt
      clear htt hRr hws hrun hlt hG hWr hTr hFp' hTF' hWF' hR hRD hsh hH
      go_upto_region 11 with fail
      rw [← HTT.out]
      go_region_held3 (fun w' => w'.cell? ⟨p1, 0, none⟩ = some (.int .i64 b) ∧ w'.cell? ⟨p1, 1, none⟩ = some (.int .i64 z) ∧ w'.cell? ⟨p1, 2, none⟩ = some (.slice ao n cap) ∧ w'.cell? ⟨p1, 3, none⟩ = some (.slice bo n cap2))
        (first | exact ⟨c0, c1, c2, c3⟩ | exact d9)
        (first
          | (go_at_call 66; refine (HSM.out _).mono ?_; rintro e w4 ⟨rfl, rfl⟩)
          | (go_at_call 65; refine (HMT.out _ _ rfl HWS.out).mono ?_; rintro e w4 ⟨rfl, c9, F9, hc9, hR9⟩; have hG9 := (HAT.out _ _ _ _ _ hR9).1; have d9 : w4.cell? ⟨p1, 0, none⟩ = some (.int .i64 b) ∧ w4.cell? ⟨p1, 1, none⟩ = some (.int .i64 z) ∧ w4.cell? ⟨p1, 2, none⟩ = some (.slice ao n cap) ∧ w4.cell? ⟨p1, 3, none⟩ = some (.slice bo n cap2) := ⟨hG9.cell (i := 0) rfl, hG9.cell (i := 1) rfl, hG9.cell (i := 2) rfl, hG9.cell (i := 3) rfl⟩))
      all_goals
        obtain ⟨e0, e1, e2, e3⟩ := d9
        have HR9 := Lib.hid hR9
        clear HMT hG9 hR9 c0 c1 c2 c3 HSM HR
        by_cases hneg : R < 0
        case pos =>
          have hsm : (s.extract a (a + 1)).size = 1 := by rw [ByteArray.size_extract]; have := HSB.out; omega
          have hadd : H.size + (s.extract a (a + 1)).size ≤ 9223372036854775807 := by omega
          have w3 : IntKind.i64.wrap ((a : Int) + 1) = (a : Int) + 1 := IntWalk.i64_in _ (by omega)
          have k1 : (a : Int) ≤ (a : Int) + 1 := by omega
          have k2 : (a : Int) + 1 ≤ (s.size : Int) := by have := HSB.out; omega
          have k3 : ((a : Int) + 1).toNat = a + 1 := by omega
          have HNEG := Lib.hid hneg
          have HNX : Hid (H ++ s.extract a (a + 1) = toS (xt ++ (s.data.toList.drop a).take 1)) := Lib.hid (by rw [HH.out, toS_app, ext_take])
          have hrun2 : mkRun mf s b ms0 = mkRun mf s b ⟨xL, xt ++ (s.data.toList.drop a).take 1, a + 1, wn⟩ := by
            rw [HRN.out, mkRun_go (by omega) HSB.out]
            unfold mkStep
            simp only
            rw [← HTT.out, ← HRR.out, if_pos hneg]
          have HRN2 := Lib.hid hrun2
          have hln : (xt ++ (s.data.toList.drop a).take 1).length ≤ xt.length + 1 := by
            have := List.length_take_le 1 (s.data.toList.drop a)
            rw [List.length_append]; omega
          have HLN := Lib.hid hln
          clear hrun2 hln
          go_wp2
          go_roundw
          case rel => exact ⟨⟨xL, xt ++ (s.data.toList.drop a).take 1, a + 1, wn⟩, c9, F9, by rw [← HNX.out], rfl, by go_num, HRN2.out, ⟨by have := HSB.out; show a + 1 ≤ s.size; omega, Nat.le_refl _, by have := HLN.out; show xL.length + (xt ++ (s.data.toList.drop a).take 1).length ≤ a + 1; omega, HSH.out⟩, by show c9 ≤ 1001 * (a + 1); omega, HR9.out⟩
          case measure => (have := HSB.out; simp [intOf] <;> omega)
        case neg =>
          obtain ⟨i, hi⟩ : ∃ i : Nat, R = (i : Int) := ⟨R.toNat, by omega⟩
          subst hi
          have hin : i < z / b := by omega
          have hi9 : i < 1000000 := by have := HN.out.1; omega
          have hib : i * b + b ≤ z := by
            have h1 : (i + 1) * b ≤ z / b * b := Nat.mul_le_mul_right _ hin
            have h2 := Nat.div_mul_le_self z b
            rw [Nat.add_mul, Nat.one_mul] at h1
            omega
          obtain ⟨ib, hibe⟩ : ∃ ib, ib = i * b := ⟨_, rfl⟩
          have wm : IntKind.i64.wrap ((i : Int) * (b : Int)) = (ib : Int) := by
            rw [hibe, Int.natCast_mul]
            rw [← hibe] at hib
            refine IntWalk.i64_in _ ?_
            rw [← Int.natCast_mul, ← hibe]; omega
          have hmi : (i : Int) * (b : Int) = (ib : Int) := by rw [hibe, Int.natCast_mul]
          rw [← hibe] at hib
          have wi : IntKind.i64.wrap ((i : Int) + 1) = (i : Int) + 1 := IntWalk.i64_in _ (by omega)
          have hnn : ¬ (i : Int) < 0 := by omega
          have hwB4 : B ≤ w4.heap.size := by rw [HR9.out.v]; exact HR9.out.g.size
          have HTX := Lib.hid (refTextsK_any B w4 u8 xL H HR9.out.o hwB4 (by omega) (by omega))
          have HIB := Lib.hid (And.intro hibe (And.intro hib hmi))
          have hrun2 : mkRun mf s b ms0 = mkRun mf s b ⟨copyL (xL ++ texts (toS xt)) (ib : Int) (b : Int), [], a + b, (i : Int) + 1⟩ := by
            rw [HRN.out, mkRun_go (by omega) HSB.out]
            unfold mkStep
            simp only
            rw [← HTT.out, ← HRR.out, if_neg hnn, hmi]
          have HRN2 := Lib.hid hrun2
          clear hrun2 hin hibe hmi
          go_wp2_with fail
          refine HTX.out.mono ?_
          rintro e w5 ⟨v5, rfl, hO5, hb5, hk5, hf5⟩
          have hR5 := HR9.out.write HC.out hO5 hk5 hf5
          have hG5 := (HAT.out _ _ _ _ _ hR5).1
          have f0 := hG5.cell (i := 0) rfl
          have hshl : ShL (xL ++ texts H) := HSH.out.append (ShL.texts H)
          have hll : (xL ++ texts H).length ≤ 3100 := by
            have := texts_len H
            rw [List.length_append]; omega
          have hwB5 : B ≤ w5.heap.size := by rw [hR5.v]; exact hR5.g.size
          have HCP := Lib.hid (refCopyK_any B w5 v5 (xL ++ texts H) ib b hR5.o hwB5 (by omega) (bd_of_sh hshl) (by omega) (by omega))
          have HR5 := Lib.hid hR5
          have HSL := Lib.hid (And.intro hshl hll)
          clear hO5 hb5 hk5 hf5 hR5 hG5 hshl hll HTX e0 e1 e2 e3
          go_wp2_with fail
          refine HCP.out.mono ?_
          rintro e w6 ⟨v6, rfl, hO6, hb6, hk6, hf6⟩
          have hR6 := HR5.out.write HC.out hO6 hk6 hf6
          have hG6 := (HAT.out _ _ _ _ _ hR6).1
          have g0 := hG6.cell (i := 0) rfl
          have HR6 := Lib.hid hR6
          clear hO6 hb6 hk6 hf6 hR6 hG6 HCP f0
          go_wp2
          go_roundw
          case rel =>
            refine ⟨⟨copyL (xL ++ texts (toS xt)) (ib : Int) (b : Int), [], a + b, (i : Int) + 1⟩, c9, F9, rfl, by go_num, by go_num, HRN2.out, ⟨by show a + b ≤ s.size; exact HSB.out, Nat.le_refl _, ?_, ?_⟩, by show c9 ≤ 1001 * (a + b); omega, by rw [← HH.out]; exact HR6.out⟩
            · show (copyL _ _ _).length + 0 ≤ a + b
              have h1 := copyL_len (xL ++ texts (toS xt)) (ib : Int) (b : Int)
              have h2 := texts_len (toS xt)
              rw [List.length_append] at h1
              rw [toS_size] at h2
              omega
            · show ShL (copyL _ _ _)
              rw [← HH.out]
              exact HSL.out.1.copy (by omega) (by omega) (by have := HIB.out.2.1; omega)
          case measure => (have := HSB.out; simp [intOf] <;> omega)
    case neg =>
      have hge : ¬ (b : Int) ≤ (s.size : Int) - (a : Int) := by omega
      obtain ⟨r, hr⟩ : ∃ r, r = z % b := ⟨_, rfl⟩
      have hrI : (z : Int) % (b : Int) = (r : Int) := by rw [hr]; rfl
      have hrz : r ≤ z := by rw [hr]; exact Nat.mod_le _ _
      have hwB : B ≤ wr.heap.size := by rw [hR.v]; exact hR.g.size
      have hre : mkRun mf s b ms0 = ⟨xL, xt, a, wn⟩ := by rw [hrun, mkRun_end hlt]
      have hst : stepsM mf tf s z b = endL tf z b xL xt (s.extract a s.size) := by unfold stepsM; rw [hre]
      have hes : (s.extract a s.size).size = s.size - a := by rw [ByteArray.size_extract]; omega
      have j0 : (0 : Int) ≤ (a : Int) := by omega
      have j1 : (a : Int) ≤ (s.size : Int) := by omega
      have HST := Lib.hid hst
      have HRZ := Lib.hid hr
      have HES := Lib.hid hes
      have HWB2 := Lib.hid hwB
      clear hst hre hes hrun hG
      by_cases hfit : r ≤ s.size - a
      case pos =>
        have hfi : (r : Int) ≤ (s.size : Int) - (a : Int) := by omega
        obtain ⟨sr, hsr⟩ : ∃ sr, sr = s.size - r := ⟨_, rfl⟩
        have esr : (s.size : Int) - (r : Int) = (sr : Int) := by omega
        have wsr : IntKind.i64.wrap (sr : Int) = (sr : Int) := IntWalk.i64_in _ (by omega)
        have k1 : (0 : Int) ≤ (sr : Int) := by omega
        have k2 : (sr : Int) ≤ (s.size : Int) := by omega
        have k3 : (a : Int) ≤ (sr : Int) := by omega
        obtain ⟨TF, hTF⟩ : ∃ TF, TF = tf (s.extract sr s.size) := ⟨_, rfl⟩
        have hcc : (s.extract a s.size).extract ((s.extract a s.size).size - z % b) (s.extract a s.size).size = s.extract sr s.size := by
          rw [HES.out, cut_cut _ _ _ _ (by omega), ← hr]
          congr 1 <;> omega
        have hRD : RS q B w2 wr.drew KS F u8 xL c' F' := hR.drewN HC.out 1
        have HTL : Hid (∀ W, W = wr.drew → Calls Try.prog 69 #[.pointer (some ⟨q, 0, none⟩), .agg #[.int .i64 b, .int .i64 z, .slice ao n cap, .slice bo n cap2], .string (s.extract sr s.size)] W fun e w' => e = .returned (.bool TF) ∧ ∃ c2 F2, c2 ≤ c' + 1 ∧ RS q B w2 w' KS F u8 xL c2 F2) := Lib.hid (fun W hWd => by
          rw [hWd]
          refine (refTail_any wr.drew q b z ao n cap bo cap2 Wk T (s.extract sr s.size) KS em c' F' HC.out hRD.k (by omega) (hWr.next (bl_drew (Below.refl _ wr))) (hTr.next (bl_drew (Below.refl _ wr))) hTF' hWF' (by omega) hb1 hb2 hzz HN.out.2 (by rw [ByteArray.size_extract]; omega)).mono ?_
          rintro e w' ⟨rfl, hA⟩
          refine ⟨?_, hRD.ask hA⟩
          rw [hTF, HF.out.2])
        have HCC := Lib.hid (And.intro hcc (And.intro hTF hsr))
        clear hr hR hRD hWr hTr hFp' hTF' hWF' hsh hH hwB hcc hTF hsr
        go_upto_region 21 with fail
        go_region_held3 (fun w' => w'.cell? ⟨p1, 0, none⟩ = some (.int .i64 b) ∧ w'.cell? ⟨p1, 1, none⟩ = some (.int .i64 z) ∧ w'.cell? ⟨p1, 2, none⟩ = some (.slice ao n cap) ∧ w'.cell? ⟨p1, 3, none⟩ = some (.slice bo n cap2))
          (first | exact ⟨c0, c1, c2, c3⟩ | exact d9)
          ((go_at_call 69; refine (HTL.out _ rfl).mono ?_; rintro e w4 ⟨rfl, c9, F9, hc9, hR9⟩; have hG9 := (HAT.out _ _ _ _ _ hR9).1; have d9 : w4.cell? ⟨p1, 0, none⟩ = some (.int .i64 b) ∧ w4.cell? ⟨p1, 1, none⟩ = some (.int .i64 z) ∧ w4.cell? ⟨p1, 2, none⟩ = some (.slice ao n cap) ∧ w4.cell? ⟨p1, 3, none⟩ = some (.slice bo n cap2) := ⟨hG9.cell (i := 0) rfl, hG9.cell (i := 1) rfl, hG9.cell (i := 2) rfl, hG9.cell (i := 3) rfl⟩))
        all_goals
          clear d9 c0 c1 c2 c3 hG9 HTL HR
          have HR9 := Lib.hid hR9
          have HWB4 : Hid (B ≤ w4.heap.size) := Lib.hid (by rw [hR9.v]; exact hR9.g.size)
          clear hR9
          cases TF
          case false =>
            have hst2 : stepsM mf tf s z b = xL ++ texts (H ++ s.extract a s.size) := by
              rw [HST.out]
              unfold endL
              rw [HCC.out.1, ← HCC.out.2.1, if_neg (fun h => by cases h.2), HH.out, toS_app]
            have hHS2 : (H ++ s.extract a s.size).size ≤ 10000 := by rw [ByteArray.size_append]; have := HES.out; omega
            have hadd : H.size + (s.extract a s.size).size ≤ 9223372036854775807 := by have := HES.out; omega
            obtain ⟨HS, hHS⟩ : ∃ HS, HS = H ++ s.extract a s.size := ⟨_, rfl⟩
            rw [← hHS] at hst2 hHS2
            have HHS := Lib.hid hHS
            have HST2 := Lib.hid hst2
            have HTX := Lib.hid (refTextsK_any B w4 u8 xL HS HR9.out.o HWB4.out (by omega) (by omega))
            clear hst2 hHS
            go_wp2_with fail
            rw [← HHS.out]
            refine HTX.out.mono ?_
            rintro e w5 ⟨v5, rfl, hO5, hb5, hk5, hf5⟩
            have HR5 := Lib.hid (HR9.out.write HC.out hO5 hk5 hf5)
            clear hO5 hb5 hk5 hf5
            go_wp2
            go_ret2
            exact ⟨v5, c9, F9, rfl, by rw [HST2.out]; exact owns_mono HR5.out.o HWB.out, HR5.out.k, (Kept.of_below F HG2.out.2.2).trans HR5.out.g (fun _ _ h => h), fun k hk => (HR5.out.f k hk).imp id (fun h => Nat.le_trans HWB.out h), by omega, HR5.out.d⟩
          case true =>
            have hr0 : 0 < r := by
              have h1 := HCC.out.2.1
              rw [HF.out.2] at h1
              rw [HRZ.out]; exact tailF_pos h1.symm
            obtain ⟨zr, hzr⟩ : ∃ zr, zr = z - r := ⟨_, rfl⟩
            have ezr : (z : Int) - (r : Int) = (zr : Int) := by omega
            have wzr : IntKind.i64.wrap (zr : Int) = (zr : Int) := IntWalk.i64_in _ (by omega)
            have hst2 : stepsM mf tf s z b = copyL (xL ++ texts (H ++ s.extract a sr)) (zr : Int) (r : Int) := by
              rw [HST.out]
              unfold endL
              rw [HCC.out.1, ← HCC.out.2.1, if_pos ⟨by rw [HES.out, ← HRZ.out]; omega, rfl⟩, HES.out, ← HRZ.out, hzr, HH.out, toS_app, ext_drop, ext_take2 s a sr (by omega)]
              have : s.size - a - r = sr - a := by have := HCC.out.2.2; omega
              rw [this]
            have hes2 : (s.extract a sr).size = sr - a := by rw [ByteArray.size_extract]; omega
            have hHS2 : (H ++ s.extract a sr).size ≤ 10000 := by rw [ByteArray.size_append]; omega
            have hadd : H.size + (s.extract a sr).size ≤ 9223372036854775807 := by omega
            obtain ⟨HS, hHS⟩ : ∃ HS, HS = H ++ s.extract a sr := ⟨_, rfl⟩
            rw [← hHS] at hst2 hHS2
            have HHS := Lib.hid hHS
            have HST2 := Lib.hid hst2
            have HTX := Lib.hid (refTextsK_any B w4 u8 xL HS HR9.out.o HWB4.out (by omega) (by omega))
            have hshl : ShL (xL ++ texts HS) := HSH.out.append (ShL.texts HS)
            have hll : (xL ++ texts HS).length ≤ 20000 := by
              have := texts_len HS
              rw [List.length_append]; omega
            have HSL := Lib.hid (And.intro hshl hll)
            clear hst2 hHS hshl hll hzr
            go_wp2_with fail
            rw [← HHS.out]
            refine HTX.out.mono ?_
            rintro e w5 ⟨v5, rfl, hO5, hb5, hk5, hf5⟩
            have hR5 := HR9.out.write HC.out hO5 hk5 hf5
            have hG5 := (HAT.out _ _ _ _ _ hR5).1
            have f1 := hG5.cell (i := 1) rfl
            have hwB5 : B ≤ w5.heap.size := by rw [hR5.v]; exact hR5.g.size
            have HCP := Lib.hid (refCopyK_any B w5 v5 (xL ++ texts HS) zr r hR5.o hwB5 (by have := HSL.out.2; omega) (bd_of_sh HSL.out.1) (by omega) (by omega))
            have HR5 := Lib.hid hR5
            clear hO5 hb5 hk5 hf5 hR5 hG5 HTX
            go_wp2_with fail
            refine HCP.out.mono ?_
            rintro e w6 ⟨v6, rfl, hO6, hb6, hk6, hf6⟩
            have HR6 := Lib.hid (HR5.out.write HC.out hO6 hk6 hf6)
            clear hO6 hb6 hk6 hf6 HCP f1
            go_wp2
            go_ret2
            exact ⟨v6, c9, F9, rfl, by rw [HST2.out]; exact owns_mono HR6.out.o HWB.out, HR6.out.k, (Kept.of_below F HG2.out.2.2).trans HR6.out.g (fun _ _ h => h), fun k hk => (HR6.out.f k hk).imp id (fun h => Nat.le_trans HWB.out h), by omega, HR6.out.d⟩
      case neg =>
        have hfi : ¬ (r : Int) ≤ (s.size : Int) - (a : Int) := by omega
        have hst2 : stepsM mf tf s z b = xL ++ texts (H ++ s.extract a s.size) := by
          rw [HST.out]
          unfold endL
          rw [if_neg (fun h => hfit (by rw [HRZ.out, ← HES.out]; exact h.1)), HH.out, toS_app]
        have hHS2 : (H ++ s.extract a s.size).size ≤ 10000 := by rw [ByteArray.size_append]; have := HES.out; omega
        have hadd : H.size + (s.extract a s.size).size ≤ 9223372036854775807 := by have := HES.out; omega
        obtain ⟨HS, hHS⟩ : ∃ HS, HS = H ++ s.extract a s.size := ⟨_, rfl⟩
        rw [← hHS] at hst2 hHS2
        have HHS := Lib.hid hHS
        have HST2 := Lib.hid hst2
        have HTX := Lib.hid (fun nq => refTextsK_any B (wr.drewN nq) u8 xL HS (HR.out.drewN HC.out nq).o (by show B ≤ wr.heap.size; exact HWB2.out) (by omega) (by omega))
        clear hr hst2 hHS hR hWr hTr hFp' hTF' hWF' hsh hH hwB
        go_upto_region 21 with fail
        go_quiet (fail)
        go_wp2_with fail
        rw [← HHS.out]
        refine (HTX.out nq).mono ?_
        rintro e w5 ⟨v5, rfl, hO5, hb5, hk5, hf5⟩
        have hR5 := (HR.out.drewN HC.out nq).write HC.out hO5 hk5 hf5
        have HR5 := Lib.hid hR5
        clear hO5 hb5 hk5 hf5 hR5 c0 c1 c2 c3
        go_wp2
        go_ret2
        exact ⟨v5, c', F', rfl, by rw [HST2.out]; exact owns_mono HR5.out.o HWB.out, HR5.out.k, (Kept.of_below F HG2.out.2.2).trans HR5.out.g (fun _ _ h => h), fun k hk => (HR5.out.f k hk).imp id (fun h => Nat.le_trans HWB.out h), by omega, HR5.out.d⟩
end Go.Proofs.Ytgemhgllifhckaa
