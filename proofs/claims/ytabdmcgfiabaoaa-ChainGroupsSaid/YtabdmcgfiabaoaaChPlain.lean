/- Deltas one behind the other: the plain law. No conditions. -/
import Derived.Test.YtabdmcgfiabaoaaQF
import Derived.Test.YtabdmcgfiabaoaaDlMade
namespace Go.Proofs.Ytabdmcgfiabaoaa
open Go.RowKit Sg
set_option linter.unusedVariables false
set_option linter.unusedSimpArgs false
/-- all bytes of the basis that are named lie below z -/
def Inn (z : Nat) (bs : List By) : Prop := ∀ a, By.src a ∈ bs → 0 ≤ a ∧ a < z
theorem Inn.wf {z : Nat} {bs : List By} (h : Inn z bs) (hz : z ≤ 524288) : Wf bs := fun a ha => by
  have := h a ha
  exact WalkArith.wf_i64 (by omega)
theorem fold_sh {z : Nat} (hz : z ≤ 524288) (bs : List By) : Inn z bs → ∀ s : Sm, ShL s.1 → InL z s.1 → ShL (bs.foldl stepB s).1 ∧ InL z (bs.foldl stepB s).1 := by
  induction bs with
  | nil => intro _ s h1 h2; exact ⟨h1, h2⟩
  | cons b bs ih =>
    intro hb s h1 h2
    rw [List.foldl_cons]
    have hb2 : Inn z bs := fun a h => hb a (by simp [h])
    refine ih hb2 _ ?_ ?_
    · cases b with
      | told c => exact h1
      | src a =>
        have := hb a (by simp)
        exact (h1.append (ShL.texts s.2)).copy (by omega) (by omega) (by omega)
    · cases b with
      | told c => exact h2
      | src a =>
        have := hb a (by simp)
        obtain ⟨n, rfl⟩ : ∃ n : Nat, a = n := ⟨a.toNat, by omega⟩
        exact (h2.append (InL.texts z s.2)).copy (h1.append (ShL.texts s.2)) (n := 1) (by omega)
theorem stepsB_sh {z : Nat} (hz : z ≤ 524288) {bs : List By} (h : Inn z bs) : ShL (stepsB bs) ∧ InL z (stepsB bs) := by
  have := fold_sh hz bs h ([], ByteArray.empty) (fun x hx => by cases hx) (fun x hx => by cases hx)
  unfold stepsB finB
  exact ⟨this.1.append (ShL.texts _), this.2.append (InL.texts z _)⟩
theorem sh_right {L : List St} (h : ShL L) : ∀ x ∈ L, rightS x := fun x hx => okS_right (h x hx)
theorem inn_bytes {z : Nat} (hz : z ≤ 524288) {L : List St} (h : ShL L) (hi : InL z L) : Inn z (bytesL L) := by
  intro a ha
  unfold bytesL at ha
  rw [List.mem_flatMap] at ha
  obtain ⟨x, hx, hm⟩ := ha
  have ho := okS_nn (h x hx)
  have hb := hi x hx
  unfold bytes1 at hm
  split at hm
  · simp [toldL] at hm
  · simp only [srcL, List.mem_map, List.mem_range] at hm
    obtain ⟨k, hk, he⟩ := hm
    injection he with he
    rw [w64_in (WalkArith.wf_i64 (by omega))] at he
    omega
/-- what a byte is, of a basis -/
def ev (b : List UInt8) : By → UInt8
  | .told c => c
  | .src a => b.getD a.toNat 0
theorem cutL_range (b : ByteArray) (p n : Nat) (h : p + n ≤ b.size) : cutL b p n = (List.range n).map (fun k => b.data.toList.getD (p + k) 0) := by
  unfold cutL
  apply List.ext_getElem
  · have : b.data.toList.length = b.size := bs_len b
    simp; omega
  · intro i h1 h2
    have hl : b.data.toList.length = b.size := bs_len b
    have h3 : i < n := by simpa using h2
    simp only [List.getElem_take, List.getElem_drop, List.getElem_map, List.getElem_range]
    rw [List.getD_eq_getElem?_getD, List.getElem?_eq_getElem (by omega)]; rfl
theorem made1_ev {b : ByteArray} {x : St} (h : okS x) (hi : x.pos + x.len ≤ b.size) : made1 b x = (bytes1 x).map (ev b.data.toList) := by
  unfold made1 bytes1
  rcases h with ⟨h1, h2, h3, h4⟩ | ⟨h1, h2, h3, h4⟩
  · rw [if_pos h1, h2, h3]
    unfold toldL cutL
    simp [ev, Function.comp_def]
  · rw [if_neg (by omega)]
    have ht : x.text.data.toList = [] := by
      apply List.eq_nil_of_length_eq_zero; rw [bs_len]; exact h1
    rw [ht, List.append_nil, cutL_range b _ _ (by omega)]
    unfold srcL
    rw [List.map_map]
    apply List.map_congr_left
    intro k hk
    rw [List.mem_range] at hk
    show _ = ev b.data.toList (By.src (w64 (x.pos + (k : Nat))))
    rw [w64_in (WalkArith.wf_i64 (by omega))]
    show _ = b.data.toList.getD (x.pos + (k : Nat)).toNat 0
    congr 1; omega
theorem made_ev (b : ByteArray) {L : List St} (h : ShL L) (hi : InL b.size L) : made b L = (bytesL L).map (ev b.data.toList) := by
  induction L with
  | nil => rfl
  | cons x L ih =>
    rw [show x :: L = [x] ++ L from rfl, made_append, bytesL_append, made_one, List.map_append, ih (fun y hy => h y (by simp [hy])) (fun y hy => hi y (by simp [hy])), made1_ev (h x (by simp)) (hi x (by simp))]
    simp [bytesL]
/-- one byte for one byte -/
theorem sub_one {B : List By} {x : By} {Y : List By} (h : Inn B.length Y) (hx : x ∈ Y) : ∃ z, sub B x = [z] := by
  cases x with
  | told c => exact ⟨_, rfl⟩
  | src a =>
    have := h a hx
    exact ⟨B[a.toNat]'(by omega), by show (B[a.toNat]?).toList = _; rw [List.getElem?_eq_getElem (by omega)]; rfl⟩
theorem flat_get {α β : Type} (f : α → List β) : ∀ (Y : List α) (i : Nat), (∀ y ∈ Y, ∃ z, f y = [z]) → ((Y.flatMap f)[i]?).toList = (Y[i]?).toList.flatMap f := by
  intro Y
  induction Y with
  | nil => intro i _; simp
  | cons y Y ih =>
    intro i h
    obtain ⟨z, hz⟩ := h y (by simp)
    rw [List.flatMap_cons, hz]
    cases i with
    | zero => simp [hz]
    | succ i => simpa using ih i (fun y hy => h y (by simp [hy]))
theorem comp_inn {z : Nat} {X Y : List By} (h : Inn z X) : Inn z (Y.flatMap (sub X)) := by
  intro a ha
  rw [List.mem_flatMap] at ha
  obtain ⟨y, hy, hm⟩ := ha
  cases y with
  | told c => simp [sub] at hm
  | src g =>
    simp only [sub, Option.mem_toList] at hm
    exact h a (List.mem_of_getElem? hm)
theorem comp_assoc {X Y Z : List By} (h : Inn X.length Y) : Z.flatMap (sub (Y.flatMap (sub X))) = (Z.flatMap (sub Y)).flatMap (sub X) := by
  rw [List.flatMap_assoc]
  congr 1
  funext z
  cases z with
  | told c => simp [sub]
  | src i => exact flat_get (sub X) Y i.toNat (fun y hy => sub_one h hy)
theorem comp_ev {b : List UInt8} {X Y : List By} (h : Inn X.length Y) : (Y.flatMap (sub X)).map (ev b) = Y.map (ev (X.map (ev b))) := by
  induction Y with
  | nil => rfl
  | cons y Y ih =>
    rw [List.flatMap_cons, List.map_append, ih (fun a ha => h a (by simp [ha]))]
    cases y with
    | told c => rfl
    | src a =>
      have := h a (by simp)
      show List.map (ev b) (X[a.toNat]?).toList ++ _ = _
      rw [List.getElem?_eq_getElem (by omega)]
      simp only [Option.toList_some, List.map_cons, List.map_nil, List.cons_append, List.nil_append]
      congr 1
      show _ = (X.map (ev b)).getD a.toNat 0
      rw [List.getD_eq_getElem?_getD, List.getElem?_eq_getElem (by rw [List.length_map]; omega)]
      simp
/-- a delta makes a text of a basis -/
structure Mks (b s : ByteArray) (d : Dl) : Prop where
  right : RightP d
  sz : d.size = s.size
  sh : ShL d.steps
  inn : InL b.size d.steps
  made : made b d.steps = s.data.toList
theorem Mks.len {b s : ByteArray} {d : Dl} (h : Mks b s d) : (bytesL d.steps).length = s.size := by
  have h1 := bytes_len_right h.right.2.2.2.2.1
  have h2 := h.right.2.2.2.2.2
  have h3 := h.sz
  omega
theorem Mks.size {b s : ByteArray} {d : Dl} (h : Mks b s d) : s.size ≤ 524288 := by
  have h1 := h.right.2.2.2.1
  have h3 := h.sz
  omega
/-- tidy steps of bytes of a basis -/
theorem mk_of {b s : ByteArray} {x m : ByteArray} {bs : List By} (hx : x.size = 32) (hm : m.size = 32) (hb : b.size ≤ 524288) (hs : s.size ≤ 524288) (hi : Inn b.size bs) (he : bs.map (ev b.data.toList) = s.data.toList) : Mks b s ⟨x, m, s.size, stepsB bs⟩ := by
  have hl : bs.length = s.size := by
    have := congrArg List.length he
    rw [List.length_map, bs_len] at this; exact this
  obtain ⟨h1, h2⟩ := stepsB_sh hb hi
  have h3 := bytes_steps bs (hi.wf hb)
  have h4 := bytes_len_right (sh_right h1)
  rw [h3] at h4
  refine ⟨⟨hx, hm, by show (0 : Int) ≤ (s.size : Int); omega, by show (s.size : Int) ≤ 524288; omega, sh_right h1, ?_⟩, rfl, h1, h2, ?_⟩
  · show ((sum2 (stepsB bs) : Nat) : Int) = (s.size : Int)
    omega
  · show Go.Proofs.Ytabdmcgfiabaoaa.made b (stepsB bs) = _
    rw [made_ev b h1 h2, h3, he]
theorem Mks.tidy {b s : ByteArray} {d : Dl} (h : Mks b s d) (hb : b.size ≤ 524288) (hp : ∀ x ∈ d.steps, (Lit.int .i64 x.pos).wf = true) : Mks b s (tidyD d) ∧ (tidyD d).steps = stepsB (bytesL d.steps) := by
  have e : tidyL d.steps = stepsB (bytesL d.steps) := tidy_bytes d.steps hp
  have k := mk_of (x := d.basis) (m := d.mark) (s := s) h.right.1 h.right.2.1 hb h.size (inn_bytes hb h.sh h.inn) (by rw [← made_ev b h.sh h.inn, h.made])
  have e2 : tidyD d = ⟨d.basis, d.mark, s.size, stepsB (bytesL d.steps)⟩ := by unfold tidyD; rw [e, h.sz]
  rw [e2]; exact ⟨k, rfl⟩
theorem Mks.near {a b c : ByteArray} {d e : Dl} (h : Mks a b d) (k : Mks b c e) : ¬ Far d e := by
  rintro ⟨x, hx, _, hf⟩
  have := k.inn x hx
  have := h.sz
  omega
theorem Mks.comp {a b c : ByteArray} {d e : Dl} (h : Mks a b d) (k : Mks b c e) (hm : d.mark = e.basis) (ha : a.size ≤ 524288) :
    Mks a c ⟨d.basis, e.mark, e.size, stepsB (compB d.steps e.steps)⟩ ∧ CompR d e 0 ⟨d.basis, e.mark, e.size, stepsB (compB d.steps e.steps)⟩ := by
  refine ⟨?_, .inr (.inr (.inr ⟨h.right, k.right, hm, h.near k, rfl, rfl⟩))⟩
  have hI := inn_bytes ha h.sh h.inn
  have hJ : Inn (bytesL d.steps).length (bytesL e.steps) := by rw [h.len]; exact inn_bytes h.size k.sh k.inn
  have := mk_of (x := d.basis) (m := e.mark) (s := c) (bs := compB d.steps e.steps) h.right.1 k.right.2.1 ha k.size (comp_inn hI) (by
    unfold compB
    rw [comp_ev hJ, ← made_ev a h.sh h.inn, h.made, ← made_ev b k.sh k.inn, k.made])
  rw [k.sz]; exact this
theorem Mks.comp_one {a b c : ByteArray} {d e : Dl} (h : Mks a b d) (k : Mks b c e) (hm : d.mark = e.basis) (ha : a.size ≤ 524288) {E : Int} {D : Dl} (hc : CompR d e E D) : E = 0 ∧ D = ⟨d.basis, e.mark, e.size, stepsB (compB d.steps e.steps)⟩ :=
  hc.one (h.comp k hm ha).2
/-- it is the same how three are put together -/
theorem mk_assoc {a b c e : ByteArray} {d0 d1 d2 : Dl} (h0 : Mks a b d0) (h1 : Mks b c d1) (h2 : Mks c e d2) (ha : a.size ≤ 524288) :
    stepsB (compB (stepsB (compB d0.steps d1.steps)) d2.steps) = stepsB (compB d0.steps (stepsB (compB d1.steps d2.steps))) := by
  have e1 : bytesL (stepsB (compB d0.steps d1.steps)) = compB d0.steps d1.steps := bytes_steps _ (wf_compB _ _)
  have e2 : bytesL (stepsB (compB d1.steps d2.steps)) = compB d1.steps d2.steps := bytes_steps _ (wf_compB _ _)
  have hJ : Inn (bytesL d0.steps).length (bytesL d1.steps) := by rw [h0.len]; exact inn_bytes h0.size h1.sh h1.inn
  congr 1
  show (bytesL d2.steps).flatMap (sub (bytesL (stepsB (compB d0.steps d1.steps)))) = (bytesL (stepsB (compB d1.steps d2.steps))).flatMap (sub (bytesL d0.steps))
  rw [e1, e2]
  exact comp_assoc hJ
/-- the steps that leave a text as it is -/
def sameL (n : Nat) : List St := if n = 0 then [] else [⟨0, n, ByteArray.empty⟩]
theorem bytes_same (n : Nat) : bytesL (sameL n) = srcL 0 n := by
  unfold sameL
  split
  · rename_i h; subst h; rfl
  · simp [bytesL, bytes1]
theorem srcL_get (n k : Nat) (hk : k < n) (hn : n ≤ 524288) : (srcL 0 n)[k]? = some (By.src k) := by
  unfold srcL
  rw [List.getElem?_map, List.getElem?_range hk]
  show some (By.src (w64 (0 + (k : Nat)))) = _
  rw [w64_in (WalkArith.wf_i64 (by omega)), Int.zero_add]
theorem comp_same {z : Nat} (hz : z ≤ 524288) {Y : List By} (h : Inn z Y) : Y.flatMap (sub (srcL 0 z)) = Y := by
  induction Y with
  | nil => rfl
  | cons y Y ih =>
    rw [List.flatMap_cons, ih (fun a ha => h a (by simp [ha]))]
    cases y with
    | told c => rfl
    | src a =>
      have := h a (by simp)
      show ((srcL 0 z)[a.toNat]?).toList ++ Y = _
      rw [srcL_get z a.toNat (by omega) hz, Int.toNat_of_nonneg this.1]; rfl
theorem same_comp {X : List By} (hz : X.length ≤ 524288) : (srcL 0 X.length).flatMap (sub X) = X := by
  have := sub_src X 0 X.length (by omega) (by omega)
  rw [show ((0 : Nat) : Int) = 0 from rfl] at this
  rw [this]; simp
theorem sh_same (n : Nat) (hn : n ≤ 524288) : ShL (sameL n) := by
  unfold sameL
  split
  · intro x hx; cases hx
  · intro x hx
    obtain rfl := List.mem_singleton.1 hx
    exact .inr ⟨rfl, by simp only; omega, Int.le_refl _, by simp only; omega⟩
theorem in_same (n : Nat) : InL n (sameL n) := by
  unfold sameL
  split
  · intro x hx; cases hx
  · intro x hx
    obtain rfl := List.mem_singleton.1 hx
    simp only; omega
theorem mk_same (b m : ByteArray) (hm : m.size = 32) (hb : b.size ≤ 524288) : Mks b b ⟨m, m, b.size, sameL b.size⟩ := by
  have h1 := sh_same b.size hb
  have h2 := in_same b.size
  have h4 := bytes_len_right (sh_right h1)
  rw [bytes_same] at h4
  have h5 : (srcL 0 b.size).length = b.size := by simp [srcL]
  refine ⟨⟨hm, hm, by show (0 : Int) ≤ (b.size : Int); omega, by show (b.size : Int) ≤ 524288; omega, sh_right h1, ?_⟩, rfl, h1, h2, ?_⟩
  · show ((sum2 (sameL b.size) : Nat) : Int) = (b.size : Int)
    omega
  · show Go.Proofs.Ytabdmcgfiabaoaa.made b (sameL b.size) = _
    rw [made_ev b h1 h2, bytes_same]
    apply List.ext_getElem
    · rw [List.length_map, h5, bs_len]
    · intro i i1 i2
      have hi : i < b.size := by rw [← bs_len b]; exact i2
      have hg := srcL_get b.size i hi hb
      rw [List.getElem?_eq_getElem (by rw [h5]; exact hi)] at hg
      rw [List.getElem_map, Option.some.inj hg]
      show b.data.toList.getD ((i : Int)).toNat 0 = _
      rw [Int.toNat_natCast, List.getD_eq_getElem?_getD, List.getElem?_eq_getElem i2]; rfl
/-- Apply makes it -/
theorem Mks.run {b s : ByteArray} {d : Dl} (h : Mks b s d) : runS b d.steps ByteArray.empty = (s, 0) := by
  have hs := h.size
  rw [runS_made b _ _ h.sh h.inn (by rw [h.made, bs_len]; show 0 + s.size ≤ 524288; omega), h.made]
  simp
/-- a row of deltas between texts -/
def RowMk : ByteArray → List Dl → ByteArray → Prop
  | a, [], c => a = c
  | a, d :: l, c => ∃ b, Mks a b d ∧ (∀ e, l.head? = some e → d.mark = e.basis) ∧ RowMk b l c
/-- folded they make the last text of the first -/
theorem fold_mk : ∀ (l : List Dl) {a b c : ByteArray} {d : Dl}, Mks a b d → a.size ≤ 524288 → (∀ e, l.head? = some e → d.mark = e.basis) → RowMk b l c → ∀ {E : Int} {D : Dl}, FoldS d l E D → E = 0 ∧ Mks a c D ∧ D.basis = d.basis ∧ D.mark = (l.getLast?.getD d).mark := by
  intro l
  induction l with
  | nil => rintro a b c d h ha _ rfl E D ⟨rfl, rfl⟩; exact ⟨rfl, h, rfl, rfl⟩
  | cons x l ih =>
    rintro a b c d h ha hm ⟨b2, hx, hm2, hr⟩ E D ⟨E1, D1, hc, hf⟩
    have hm3 := hm x rfl
    obtain ⟨rfl, rfl⟩ := h.comp_one hx hm3 ha hc
    rcases hf with ⟨h0, _⟩ | ⟨_, hf⟩
    · exact absurd rfl h0
    · obtain ⟨e1, e2, e3, e4⟩ := ih (h.comp hx hm3 ha).1 ha hm2 hr hf
      refine ⟨e1, e2, e3, ?_⟩
      rw [e4]
      cases l with
      | nil => rfl
      | cons y l => simp [List.getLast?_cons]
end Go.Proofs.Ytabdmcgfiabaoaa
