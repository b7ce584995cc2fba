/- Messages, by plain data. No conditions. -/
import Derived.Test.YtlcpnpoleaanmaaCodeMath
namespace Go.Proofs.Ytlcpnpoleaanmaa
set_option linter.unusedVariables false

/-- an entry of a message's list -/
structure En where
  gen : Int
  ballot : Int
  mark : ByteArray
instance : Inhabited En := ⟨⟨0, 0, ByteArray.empty⟩⟩
/-- a message -/
structure Mg where
  kind : Int
  src : Int
  dst : Int
  ballot : Int
  gen : Int
  basis : Int
  floor : Int
  top : Int
  read : Int
  mark : ByteArray
  pat : Int
  pof : Int
  ptext : ByteArray
  list : List En
/-- the letters of a kind, in their order (capitals) -/
def flds (k : Int) : List UInt8 :=
  if k = 1 ∨ k = 3 then [66] else if k = 2 then [66, 70, 84, 76] else if k = 4 then [66, 71, 83, 77, 80] else if k = 5 then [66, 71, 84, 82, 77]
  else if k = 6 ∨ k = 7 ∨ k = 8 then [66, 71, 77] else if k = 9 then [71, 77] else if k = 10 then [70, 84] else if k = 11 then [66, 82] else if k = 12 then [66, 70, 84, 82]
  else if k = 13 ∨ k = 14 then [71, 77, 80] else if k = 15 then [66, 70] else if k = 16 then [66, 70, 84] else if k = 17 then [66, 71] else []
/-- the program's letters -/
def low (l : List UInt8) : List UInt8 := l.map (· + 32)
def nine : List UInt8 := [66, 71, 83, 70, 84, 82, 77, 80, 76]
def fldsOk (l : List UInt8) : Bool := decide (l.length ≤ 5 ∧ (∀ c ∈ l, c ∈ nine) ∧ l.Nodup)
theorem ite_ok {c : Prop} [Decidable c] {a b : List UInt8} (h1 : fldsOk a = true) (h2 : fldsOk b = true) : fldsOk (if c then a else b) = true := by
  split
  · exact h1
  · exact h2
theorem ite_no {c : Prop} [Decidable c] {a b : List UInt8} (h1 : ¬ c) (h2 : b = []) : (if c then a else b) = [] := by rw [if_neg h1, h2]
theorem flds_all (k : Int) : fldsOk (flds k) = true := by
  unfold flds
  repeat (refine ite_ok (by decide) ?_)
  decide
theorem flds_len (k : Int) : (flds k).length ≤ 5 := (of_decide_eq_true (flds_all k)).1
theorem flds_nine (k : Int) : ∀ c ∈ flds k, c ∈ nine := (of_decide_eq_true (flds_all k)).2.1
theorem flds_nodup (k : Int) : (flds k).Nodup := (of_decide_eq_true (flds_all k)).2.2
theorem flds_kind {k : Int} (h : flds k ≠ []) : 1 ≤ k ∧ k ≤ 17 := by
  by_cases hk : 1 ≤ k ∧ k ≤ 17
  · exact hk
  · exfalso; apply h
    unfold flds
    repeat (refine ite_no (by omega) ?_)
    rfl
theorem nine_cases {c : UInt8} (h : c ∈ nine) : c = 66 ∨ c = 71 ∨ c = 83 ∨ c = 70 ∨ c = 84 ∨ c = 82 ∨ c = 77 ∨ c = 80 ∨ c = 76 := by
  simpa [nine] using h

def numM (m : Mg) (c : UInt8) : Int := if c = 66 then m.ballot else if c = 71 then m.gen else if c = 83 then m.basis else if c = 70 then m.floor else if c = 84 then m.top else m.read
def setM (m : Mg) (c : UInt8) (n : Int) : Mg :=
  if c = 66 then { m with ballot := n } else if c = 71 then { m with gen := n } else if c = 83 then { m with basis := n } else if c = 70 then { m with floor := n } else if c = 84 then { m with top := n } else { m with read := n }
def hasF (k : Int) (c : UInt8) : Bool := decide (c ∈ flds k)
def inNum (n : Int) : Bool := decide (0 ≤ n ∧ n ≤ 4611686018427387903)
def okNum (k : Int) (c : UInt8) (n : Int) : Bool := if hasF k c then inNum n else decide (n = 0)
def okHead (m : Mg) : Prop := flds m.kind ≠ [] ∧ 0 ≤ m.src ∧ m.src ≤ 255 ∧ 0 ≤ m.dst ∧ m.dst ≤ 255
def okNums (m : Mg) : Prop := okNum m.kind 66 m.ballot = true ∧ okNum m.kind 71 m.gen = true ∧ okNum m.kind 83 m.basis = true ∧ okNum m.kind 70 m.floor = true ∧ okNum m.kind 84 m.top = true ∧ okNum m.kind 82 m.read = true
def okMark (m : Mg) : Prop := (hasF m.kind 77 = true → m.mark.size = 32) ∧ (hasF m.kind 77 = false → m.mark.size = 0)
def okPart (m : Mg) : Prop := (hasF m.kind 80 = true → 0 ≤ m.pat ∧ 0 ≤ m.pof ∧ m.pat ≤ 4096 ∧ m.pof ≤ 4096 ∧ m.ptext.size ≤ 1024) ∧ (hasF m.kind 80 = false → m.pat = 0 ∧ m.pof = 0 ∧ m.ptext.size = 0)
def enOk (x : En) : Prop := 0 ≤ x.gen ∧ x.gen ≤ 4611686018427387903 ∧ 0 ≤ x.ballot ∧ x.ballot ≤ 4611686018427387903 ∧ x.mark.size = 32
def enAt (l : List En) (i : Nat) : Prop := ∀ x, l[i]? = some x → enOk x ∧ (0 < i → ∀ y, l[i - 1]? = some y → y.gen < x.gen)
def okList (m : Mg) : Prop := (hasF m.kind 76 = true → m.list.length ≤ 64 ∧ ∀ i, i < m.list.length → enAt m.list i) ∧ (hasF m.kind 76 = false → m.list.length = 0)
def rightM (m : Mg) : Prop := okHead m ∧ okNums m ∧ okMark m ∧ okPart m ∧ okList m

/-! bytes -/
def enL (x : En) : List UInt8 := numL x.gen.toNat ++ numL x.ballot.toNat ++ x.mark.data.toList
def fldL (m : Mg) (c : UInt8) : List UInt8 :=
  if c = 77 then m.mark.data.toList else if c = 80 then numL m.pat.toNat ++ numL m.pof.toNat ++ numL m.ptext.size ++ m.ptext.data.toList
  else if c = 76 then numL m.list.length ++ m.list.flatMap enL else numL (numM m c).toNat
def headL (m : Mg) : List UInt8 := numL m.kind.toNat ++ numL m.src.toNat ++ numL m.dst.toNat
def bodyL (m : Mg) : List UInt8 := headL m ++ (flds m.kind).flatMap (fldL m)

/-! a message in parts -/
def mg0 (k s d : Int) : Mg := ⟨k, s, d, 0, 0, 0, 0, 0, 0, ByteArray.empty, 0, 0, ByteArray.empty, []⟩
def restr (m : Mg) (L : List UInt8) : Mg :=
  ⟨m.kind, m.src, m.dst, if 66 ∈ L then m.ballot else 0, if 71 ∈ L then m.gen else 0, if 83 ∈ L then m.basis else 0, if 70 ∈ L then m.floor else 0, if 84 ∈ L then m.top else 0, if 82 ∈ L then m.read else 0,
    if 77 ∈ L then m.mark else ByteArray.empty, if 80 ∈ L then m.pat else 0, if 80 ∈ L then m.pof else 0, if 80 ∈ L then m.ptext else ByteArray.empty, if 76 ∈ L then m.list else []⟩
def cpF (m : Mg) (c : UInt8) (o : Mg) : Mg :=
  if c = 77 then { o with mark := m.mark } else if c = 80 then { o with pat := m.pat, pof := m.pof, ptext := m.ptext } else if c = 76 then { o with list := m.list } else setM o c (numM m c)
def cleanM (m : Mg) : Mg := restr m (flds m.kind)
theorem restr_nil (m : Mg) : restr m [] = mg0 m.kind m.src m.dst := by simp [restr, mg0]
theorem restr_snoc (m : Mg) (L : List UInt8) (c : UInt8) (h : c ∈ nine) : cpF m c (restr m L) = restr m (L ++ [c]) := by
  rcases nine_cases h with rfl | rfl | rfl | rfl | rfl | rfl | rfl | rfl | rfl <;> simp [cpF, restr, setM, numM]
theorem clean_clean (m : Mg) : cleanM (cleanM m) = cleanM m := by
  have e : (cleanM m).kind = m.kind := rfl
  unfold cleanM at *
  rw [e]
  unfold restr
  simp only [Mg.mk.injEq, true_and]
  refine ⟨?_, ?_, ?_, ?_, ?_, ?_, ?_, ?_, ?_, ?_, ?_⟩ <;> split <;> rfl
theorem size0 {s : ByteArray} (h : s.size = 0) : s = ByteArray.empty := by
  have h2 : s.data.toList = [] := List.eq_nil_of_length_eq_zero (by rw [Array.length_toList]; exact h)
  have h3 : s.data = #[] := Array.toList_eq_nil_iff.1 h2
  cases s; exact congrArg ByteArray.mk h3
theorem okNum_no {k : Int} {c : UInt8} {n : Int} (h : okNum k c n = true) (hc : c ∉ flds k) : n = 0 := by
  unfold okNum hasF at h
  rw [if_neg (by simpa using hc)] at h
  exact of_decide_eq_true h
theorem okNum_yes {k : Int} {c : UInt8} {n : Int} (h : okNum k c n = true) (hc : c ∈ flds k) : 0 ≤ n ∧ n ≤ 4611686018427387903 := by
  unfold okNum hasF at h
  rw [if_pos (by simpa using hc)] at h
  exact of_decide_eq_true h
theorem right_clean {m : Mg} (h : rightM m) : cleanM m = m := by
  obtain ⟨h1, ⟨n1, n2, n3, n4, n5, n6⟩, h3, h4, h5⟩ := h
  obtain ⟨k, s, d, b, g, ba, f, t, r, mk, pa, po, pt, li⟩ := m
  simp only at *
  unfold cleanM restr
  simp only [Mg.mk.injEq, true_and]
  have e77 : 77 ∉ flds k → mk = ByteArray.empty := fun hc => size0 (h3.2 (by simpa [hasF] using hc))
  have e80 : 80 ∉ flds k → pa = 0 ∧ po = 0 ∧ pt = ByteArray.empty := fun hc => by
    obtain ⟨a, b, c⟩ := h4.2 (by simpa [hasF] using hc)
    exact ⟨a, b, size0 c⟩
  have e76 : 76 ∉ flds k → li = [] := fun hc => List.eq_nil_of_length_eq_zero (h5.2 (by simpa [hasF] using hc))
  refine ⟨?_, ?_, ?_, ?_, ?_, ?_, ?_, ?_, ?_, ?_, ?_⟩ <;> split <;> rename_i hc <;> first
    | rfl
    | exact (okNum_no n1 hc).symm
    | exact (okNum_no n2 hc).symm
    | exact (okNum_no n3 hc).symm
    | exact (okNum_no n4 hc).symm
    | exact (okNum_no n5 hc).symm
    | exact (okNum_no n6 hc).symm
    | exact (e77 hc).symm
    | exact (e80 hc).1.symm
    | exact (e80 hc).2.1.symm
    | exact (e80 hc).2.2.symm
    | exact (e76 hc).symm

/-! reading -/
def bA (l : List UInt8) : ByteArray := ⟨l.toArray⟩
theorem bA_list (s : ByteArray) : bA s.data.toList = s := rfl
def rdE (z : RSt) : En × RSt := (⟨((stNum z).1 : Nat), ((stNum (stNum z).2).1 : Nat), bA (stRaw 32 (stNum (stNum z).2).2).1⟩, (stRaw 32 (stNum (stNum z).2).2).2)
def rdEs : Nat → RSt → List En × RSt
  | 0, z => ([], z)
  | n + 1, z => ((rdEs n z).1 ++ [(rdE (rdEs n z).2).1], (rdE (rdEs n z).2).2)
def rdF (c : UInt8) (s : Mg × RSt) : Mg × RSt :=
  if c = 77 then ({ s.1 with mark := bA (stRaw 32 s.2).1 }, (stRaw 32 s.2).2)
  else if c = 80 then ({ s.1 with pat := ((stNum s.2).1 : Nat), pof := ((stNum (stNum s.2).2).1 : Nat), ptext := bA (stText 1024 (stNum (stNum s.2).2).2).1 }, (stText 1024 (stNum (stNum s.2).2).2).2)
  else if c = 76 then ({ s.1 with list := s.1.list ++ (rdEs (stCount 64 s.2).1 (stCount 64 s.2).2).1 }, (rdEs (stCount 64 s.2).1 (stCount 64 s.2).2).2)
  else (setM s.1 c ((stNum s.2).1 : Nat), (stNum s.2).2)
def rdH (z : RSt) : Mg × RSt := (mg0 ((stNum z).1 : Nat) ((stNum (stNum z).2).1 : Nat) ((stNum (stNum (stNum z).2).2).1 : Nat), (stNum (stNum (stNum z).2).2).2)
def rdAll (L : List UInt8) (s : Mg × RSt) : Mg × RSt := L.foldl (fun s c => rdF c s) s
def readM (z : RSt) : Mg × RSt := rdAll (flds (rdH z).1.kind) (rdH z)
theorem rdAll_snoc (L : List UInt8) (c : UInt8) (s : Mg × RSt) : rdAll (L ++ [c]) s = rdF c (rdAll L s) := by simp [rdAll]
theorem rdEs_len (n : Nat) (z : RSt) : (rdEs n z).1.length = n := by
  induction n with
  | zero => rfl
  | succ n ih => simp [rdEs, ih]
theorem bA_size (l : List UInt8) : (bA l).size = l.length := by simp [bA, ByteArray.size]

/-! an error stays -/
theorem rdE_err {z : RSt} (h : z.2 ≠ 0) : (rdE z).2 = z := by
  unfold rdE
  simp only [stNum_keep h, stRaw_keep h]
theorem rdEs_err {z : RSt} (h : z.2 ≠ 0) (n : Nat) : (rdEs n z).2 = z := by
  induction n with
  | zero => rfl
  | succ n ih => simp only [rdEs, ih]; exact rdE_err h
theorem rdEs_stop (z : RSt) (k n : Nat) (hk : k ≤ n) (h : (rdEs k z).2.2 ≠ 0) : (rdEs n z).2 = (rdEs k z).2 := by
  induction n with
  | zero => obtain rfl : k = 0 := by omega
            rfl
  | succ n ih =>
    by_cases e : k = n + 1
    · subst e; rfl
    · have := ih (by omega)
      show (rdE (rdEs n z).2).2 = _
      rw [this]
      exact rdE_err h
theorem stText_keep {most : Nat} {z : RSt} (h : z.2 ≠ 0) : (stText most z).2 = z := by
  unfold stText
  rw [stCount_keep h]
  exact stRaw_keep h
theorem rdF_err {c : UInt8} {s : Mg × RSt} (h : s.2.2 ≠ 0) : (rdF c s).2 = s.2 := by
  unfold rdF
  split
  · exact stRaw_keep h
  · split
    · simp only [stNum_keep h]; exact stText_keep h
    · split
      · simp only [stCount_keep h]; exact rdEs_err h 0
      · exact stNum_keep h
theorem rdF_st (c : UInt8) (a b : Mg) (z : RSt) : (rdF c (a, z)).2 = (rdF c (b, z)).2 := by
  unfold rdF
  split
  · rfl
  · split
    · rfl
    · split
      · rfl
      · rfl

/-! there and back -/
theorem rdEs_back (l : List En) (h : ∀ x ∈ l, enOk x) : ∀ (pre : List En) (r : List UInt8) (z : RSt) , (rdEs pre.length z) = (pre, (l.flatMap enL ++ r, 0)) → rdEs (pre.length + l.length) z = (pre ++ l, (r, 0)) := by
  induction l with
  | nil => intro pre r z hz; simpa using hz
  | cons x l ih =>
    intro pre r z hz
    have hx := h x (by simp)
    obtain ⟨h1, h2, h3, h4, h5⟩ := hx
    have e1 : rdEs (pre ++ [x]).length z = (pre ++ [x], (l.flatMap enL ++ r, 0)) := by
      rw [List.length_append]
      show rdEs (pre.length + 1) z = _
      rw [rdEs, hz]
      have ex : rdE ((x :: l).flatMap enL ++ r, 0) = (x, (l.flatMap enL ++ r, 0)) := by
        unfold rdE
        rw [List.flatMap_cons]
        unfold enL
        simp only [List.append_assoc]
        rw [stNum_back _ _ (by omega)]
        simp only
        rw [stNum_back _ _ (by omega)]
        simp only
        rw [stRaw_back 32 x.mark.data.toList _ (by rw [Array.length_toList]; exact h5)]
        obtain ⟨g, b, mk⟩ := x
        simp only [Prod.mk.injEq, En.mk.injEq, and_true]
        simp only at h1 h2 h3 h4
        exact ⟨by omega, by omega, rfl⟩
      rw [ex]
    have := ih (fun y hy => h y (by simp [hy])) (pre ++ [x]) r z e1
    rw [List.length_append] at this
    simp only [List.length_cons, List.length_nil, Nat.zero_add, List.append_assoc, List.singleton_append] at this ⊢
    rw [show pre.length + (l.length + 1) = pre.length + 1 + l.length by omega]
    exact this
theorem okList_mem {m : Mg} (h : okList m) (hc : 76 ∈ flds m.kind) : m.list.length ≤ 64 ∧ ∀ x ∈ m.list, enOk x := by
  obtain ⟨h1, h2⟩ := h.1 (by simpa [hasF] using hc)
  refine ⟨h1, fun x hx => ?_⟩
  obtain ⟨i, hi, rfl⟩ := List.getElem_of_mem hx
  exact (h2 i hi _ (List.getElem?_eq_getElem hi)).1
theorem rdF_back {m : Mg} (h : rightM m) (L : List UInt8) (c : UInt8) (r : List UInt8) (hc : c ∈ flds m.kind) (hn : c ∉ L) : rdF c (restr m L, (fldL m c ++ r, 0)) = (cpF m c (restr m L), (r, 0)) := by
  obtain ⟨h1, ⟨n1, n2, n3, n4, n5, n6⟩, h3, h4, h5⟩ := h
  have hnum : ∀ (c : UInt8) (n : Int), okNum m.kind c n = true → c ∈ flds m.kind → stNum (numL n.toNat ++ r, 0) = (n.toNat, (r, 0)) ∧ ((n.toNat : Nat) : Int) = n := fun c n a b => by
    have := okNum_yes a b
    exact ⟨stNum_back _ _ (by omega), by omega⟩
  rcases nine_cases (flds_nine m.kind c hc) with rfl | rfl | rfl | rfl | rfl | rfl | rfl | rfl | rfl
  · obtain ⟨a, b⟩ := hnum _ _ n1 hc; simp [rdF, fldL, numM, cpF, setM, a, b]
  · obtain ⟨a, b⟩ := hnum _ _ n2 hc; simp [rdF, fldL, numM, cpF, setM, a, b]
  · obtain ⟨a, b⟩ := hnum _ _ n3 hc; simp [rdF, fldL, numM, cpF, setM, a, b]
  · obtain ⟨a, b⟩ := hnum _ _ n4 hc; simp [rdF, fldL, numM, cpF, setM, a, b]
  · obtain ⟨a, b⟩ := hnum _ _ n5 hc; simp [rdF, fldL, numM, cpF, setM, a, b]
  · obtain ⟨a, b⟩ := hnum _ _ n6 hc; simp [rdF, fldL, numM, cpF, setM, a, b]
  · have hs := h3.1 (by simpa [hasF] using hc)
    have e := stRaw_back 32 m.mark.data.toList r (by rw [Array.length_toList]; exact hs)
    have e1 : fldL m 77 = m.mark.data.toList := rfl
    rw [e1]
    show (({ restr m L with mark := bA (stRaw 32 (m.mark.data.toList ++ r, 0)).1 } : Mg), (stRaw 32 (m.mark.data.toList ++ r, 0)).2) = _
    rw [e]
    rfl
  · obtain ⟨p1, p2, p3, p4, p5⟩ := h4.1 (by simpa [hasF] using hc)
    have e1 : fldL m 80 ++ r = numL m.pat.toNat ++ (numL m.pof.toNat ++ (numL m.ptext.size ++ (m.ptext.data.toList ++ r))) := by
      show (numL m.pat.toNat ++ numL m.pof.toNat ++ numL m.ptext.size ++ m.ptext.data.toList) ++ r = _
      simp only [List.append_assoc]
    have a1 := stNum_back m.pat.toNat (numL m.pof.toNat ++ (numL m.ptext.size ++ (m.ptext.data.toList ++ r))) (by omega)
    have a2 := stNum_back m.pof.toNat (numL m.ptext.size ++ (m.ptext.data.toList ++ r)) (by omega)
    have a3 : stText 1024 (numL m.ptext.size ++ (m.ptext.data.toList ++ r), 0) = (m.ptext.data.toList, (r, 0)) := by
      unfold stText
      rw [stCount_back 1024 m.ptext.size _ (by omega) p5]
      exact stRaw_back _ _ _ (by rw [Array.length_toList]; rfl)
    rw [e1]
    show (({ restr m L with pat := ((stNum _).1 : Nat), pof := ((stNum (stNum _).2).1 : Nat), ptext := bA (stText 1024 (stNum (stNum _).2).2).1 } : Mg), (stText 1024 (stNum (stNum _).2).2).2) = _
    rw [a1]
    simp only
    rw [a2]
    simp only
    rw [a3]
    show (({ restr m L with pat := ((m.pat.toNat : Nat) : Int), pof := ((m.pof.toNat : Nat) : Int), ptext := m.ptext } : Mg), (r, 0)) = ({ restr m L with pat := m.pat, pof := m.pof, ptext := m.ptext }, (r, 0))
    rw [show ((m.pat.toNat : Nat) : Int) = m.pat by omega, show ((m.pof.toNat : Nat) : Int) = m.pof by omega]
  · obtain ⟨p1, p2⟩ := okList_mem h5 hc
    have e1 : fldL m 76 ++ r = numL m.list.length ++ (m.list.flatMap enL ++ r) := by
      show (numL m.list.length ++ m.list.flatMap enL) ++ r = _
      rw [List.append_assoc]
    have a1 := stCount_back 64 m.list.length (m.list.flatMap enL ++ r) (by omega) p1
    have a2 := rdEs_back m.list p2 [] r (m.list.flatMap enL ++ r, 0) rfl
    simp only [List.length_nil, Nat.zero_add, List.nil_append] at a2
    have e2 : (restr m L).list = [] := by simp [restr, hn]
    rw [e1]
    show (({ restr m L with list := (restr m L).list ++ (rdEs (stCount 64 _).1 (stCount 64 _).2).1 } : Mg), (rdEs (stCount 64 _).1 (stCount 64 _).2).2) = _
    rw [a1]
    simp only
    rw [a2, e2]
    rfl
theorem rdAll_back {m : Mg} (h : rightM m) : ∀ (L pre : List UInt8) (r : List UInt8), pre ++ L = flds m.kind → rdAll L (restr m pre, (L.flatMap (fldL m) ++ r, 0)) = (restr m (pre ++ L), (r, 0)) := by
  intro L
  induction L with
  | nil => intro pre r hp; simp [rdAll]
  | cons c L ih =>
    intro pre r hp
    have hnd := flds_nodup m.kind
    rw [← hp] at hnd
    have hn : c ∉ pre := by
      intro hc
      have := List.nodup_append.1 hnd
      exact this.2.2 c hc c (by simp) rfl
    have hc : c ∈ flds m.kind := by rw [← hp]; simp
    have e := rdF_back h pre c (L.flatMap (fldL m) ++ r) hc hn
    rw [List.flatMap_cons, List.append_assoc]
    show rdAll L (rdF c _) = _
    rw [e, restr_snoc m pre c (flds_nine _ c hc), ih (pre ++ [c]) r (by simpa using hp)]
    simp
theorem read_back {m : Mg} (h : rightM m) : readM (bodyL m, 0) = (m, ([], 0)) := by
  have h1 := h.1
  have hk := flds_kind h1.1
  obtain ⟨-, s1, s2, d1, d2⟩ := h1
  have e : rdH (bodyL m, 0) = (mg0 m.kind m.src m.dst, ((flds m.kind).flatMap (fldL m), 0)) := by
    unfold rdH bodyL headL
    simp only [List.append_assoc]
    rw [stNum_back _ _ (by omega)]
    simp only
    rw [stNum_back _ _ (by omega)]
    simp only
    rw [stNum_back _ _ (by omega)]
    simp only
    rw [show ((m.kind.toNat : Nat) : Int) = m.kind by omega, show ((m.src.toNat : Nat) : Int) = m.src by omega, show ((m.dst.toNat : Nat) : Int) = m.dst by omega]
  unfold readM
  rw [e]
  have := rdAll_back h (flds m.kind) [] [] rfl
  rw [restr_nil, List.append_nil, List.nil_append] at this
  have e2 : (mg0 m.kind m.src m.dst).kind = m.kind := rfl
  simp only [e2]
  rw [this]
  exact congrArg (·, (([], 0) : RSt)) (right_clean h)
theorem body_inj {m n : Mg} (h : rightM m) (k : rightM n) (e : bodyL m = bodyL n) : m = n := by
  have a := read_back h
  rw [e, read_back k] at a
  exact (congrArg Prod.fst a).symm
end Go.Proofs.Ytlcpnpoleaanmaa
