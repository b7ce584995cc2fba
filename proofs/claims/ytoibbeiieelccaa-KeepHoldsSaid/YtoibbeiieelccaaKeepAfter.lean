/- slices.Index, After. Conditions: as named in each theorem. -/
import Derived.Test.YtoibbeiieelccaaKeepCost
namespace Go.Proofs.Ytoibbeiieelccaa
open Go.RowKit Go.Maps
set_option linter.unusedVariables false

theorem index_any (w : World) (ao : Option Addr) (len cap : Nat) (ws : List Int) (g z : Int) (hW : Rs w ao len cap 1 ws intC) (hn : len ≤ 1000000) (hz : z = atZ ws g) :
    Calls Try.prog 33 #[.slice ao len cap, .int .i64 g] w fun e w' => e = .returned (.int .i64 z) ∧ w = w' := by
  have HL := Lib.hid hW.2.2.1
  have HZ := Lib.hid hz
  clear hz
  go_enter Try.func33, Try.ntmps33
  go_wp2
  go_loopw [8] (fun i wr => ∃ k : Nat, k ≤ len ∧ i = .int .i64 k ∧ g ∉ ws.take k ∧ w = wr) (fun i _ => len - (intOf i).toNat)
  case atStart => exact ⟨0, by omega, rfl, by simp, rfl⟩
  case round =>
    obtain ⟨k, hk, rfl, hni, rfl⟩ := hrel
    have HNI := Lib.hid hni
    clear hni
    by_cases hlt : k < len
    · obtain ⟨b, off, rfl, hbw, hc⟩ := hW.cell1 (by omega)
      have hks : k < ws.length := by rw [HL.out]; exact hlt
      have c0 := hc k hks _ rfl
      have htk := List.take_succ_eq_append_getElem hks
      have hfd := fun h => atZ_found (g := g) hks h HNI.out
      obtain ⟨x, hx⟩ : ∃ x, x = ws[k] := ⟨_, rfl⟩
      rw [← hx] at c0 htk hfd
      have HT := Lib.hid htk
      have HFD := Lib.hid hfd
      clear hx hc hW htk hks hfd
      by_cases he : x = g
      · have hzk : z = k := HZ.out.trans (HFD.out he)
        subst hzk
        subst he
        go_wp2
        go_ret
        exact ⟨rfl, rfl⟩
      · have HE := Lib.hid he
        have hne : (g == x) = false := by simp; exact fun e => he e.symm
        go_wp2
        go_roundw
        case rel => exact ⟨k + 1, by omega, by go_num, by rw [HT.out]; simp only [List.mem_append, List.mem_singleton, not_or]; exact ⟨HNI.out, fun e => HE.out e.symm⟩, by simp⟩
        case measure => simp [intOf]; omega
    · have hkk : ws.take k = ws := List.take_of_length_le (by rw [HL.out]; omega)
      have h2 := HNI.out
      rw [hkk] at h2
      have hz1 : z = -1 := by rw [HZ.out]; exact atZ_none h2
      subst hz1
      clear hkk h2
      go_wp2
      go_ret
      exact ⟨rfl, rfl⟩

def afterX (need whole : List Int) (x : G) : G := if x.gen ∈ need then ⟨x.gen, x.gen, whole.getD (need.idxOf x.gen) 0, x.mark⟩ else x
def afterG (gs : List G) (ws need whole : List Int) : List G := (gs.filter fun x => decide (x.gen ∈ ws)).map (afterX need whole)
def afterE (gs : List G) (ws whole : List Int) : Int := if needE gs ws ≠ 0 then needE gs ws else if whole.length ≠ (needG gs ws).length then 1 else 0
def afterR (gs : List G) (ws whole : List Int) : List G := if afterE gs ws whole = 0 then afterG gs ws (needG gs ws) whole else []
theorem afterG_succ (gs : List G) (ws need whole : List Int) (k : Nat) (hk : k < gs.length) : afterG (gs.take (k + 1)) ws need whole = if gs[k].gen ∈ ws then afterG (gs.take k) ws need whole ++ [afterX need whole gs[k]] else afterG (gs.take k) ws need whole := by
  unfold afterG
  rw [List.take_succ_eq_append_getElem hk, List.filter_append, List.map_append]
  by_cases h : gs[k].gen ∈ ws
  · rw [if_pos h]; simp [h]
  · rw [if_neg h]; simp [h]
theorem afterG_len (gs : List G) (ws need whole : List Int) : (afterG gs ws need whole).length ≤ gs.length := by
  unfold afterG; rw [List.length_map]; exact List.length_filter_le _ _

theorem infoGen : (Try.prog.info? 40).map (fun i => (i.zero, i.size, i.bytes)) = some (some (.agg #[.int .i64 0, .int .i64 0, .int .i64 0, .string ByteArray.empty]), 4, 40) := by kernel_rfl
theorem cells_new (w : World) (l : List Value) (e : TypeId) : ∀ j u, l[j]? = some u → (w.alloc (.cells l.toArray e)).cell? ((⟨w.heap.size, 0, none⟩ : Addr).add j) = some u := by
  intro j u hj
  have := (Blk.new w l e).cell hj
  have hadd : (⟨w.heap.size, 0, none⟩ : Addr).add j = ⟨w.heap.size, j, none⟩ := by unfold Addr.add; split <;> simp_all
  rw [hadd]; exact this
theorem gc_one (g : G) : ∀ u ∈ g.c, u.oneCell' = true := by
  intro u hu
  simp only [G.c, List.mem_cons, List.not_mem_nil, or_false] at hu
  rcases hu with rfl | rfl | rfl | rfl <;> rfl
theorem flat_snoc (gs : List G) (g : G) : (gs ++ [g]).flatMap G.c = gs.flatMap G.c ++ g.c := by simp
end Go.Proofs.Ytoibbeiieelccaa
