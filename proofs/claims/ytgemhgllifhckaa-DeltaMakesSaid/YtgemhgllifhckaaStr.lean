/- Bytes and strings: a row of bytes as a string. No conditions. -/
import Derived.Test.YtgemhgllifhckaaHeap
import Derived.Laws.BytesString
namespace Go.Proofs.Ytgemhgllifhckaa
open Go.RowKit

theorem foldl_push (l : List UInt8) : ∀ s : ByteArray, (l.map fun c : UInt8 => ((c.toNat : Nat) : Int)).foldl (fun r n => r.push (UInt8.ofNat n.toNat)) s = ⟨(s.data.toList ++ l).toArray⟩ := by
  induction l with
  | nil => intro s; simp
  | cons c l ih =>
    intro s
    simp only [List.map_cons, List.foldl_cons]
    rw [ih]
    congr 1
    simp [ByteArray.push]

theorem add_off' (b off j : Nat) : (⟨b, off, none⟩ : Addr).add j = ⟨b, off + j, none⟩ := by unfold Addr.add; split <;> simp_all

theorem run_bytes_str {P : Program} {w : World} {src dst e : TypeId} {b off len cap : Nat} (l : List UInt8)
    (hs : P.underlying src = some (.slice e)) (he : P.underlying e = some (.int .u8)) (hd : P.underlying dst = some .string)
    (hl : l.length = len) (h : ∀ j c, l[j]? = some c → w.cell? ⟨b, off + j, none⟩ = some (.int .u8 (c.toNat : Nat))) :
    (convert src dst (.slice (some ⟨b, off, none⟩) len cap)).run P w = .ok (.string ⟨l.toArray⟩) w := by
  rw [run_convert_bytes_string w src dst e _ _ _ hs he hd]
  rw [run_bytesToString w ⟨b, off, none⟩ len cap (l.map fun c : UInt8 => ((c.toNat : Nat) : Int))]
  · rw [foldl_push]; rfl
  · have hx := run_loadCells_list (P := P) (w := w) ⟨b, off, none⟩ ((l.map fun c : UInt8 => ((c.toNat : Nat) : Int)).map (Value.int .u8)) (fun j v hj => by
      simp only [List.map_map, List.getElem?_map, Option.map_eq_some_iff] at hj
      obtain ⟨c, hc, rfl⟩ := hj
      rw [add_off']
      exact h j c hc)
    simpa [hl] using hx
end Go.Proofs.Ytgemhgllifhckaa
