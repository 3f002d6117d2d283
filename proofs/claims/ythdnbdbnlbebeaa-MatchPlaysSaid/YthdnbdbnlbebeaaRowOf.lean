/- A slice of ints that came in, as the seat's words have it. -/
import Derived.Test.YthdnbdbnlbebeaaMem
namespace Go.Proofs.Ythdnbdbnlbebeaa
open Go Go.RowKit

theorem spot_of_cell {w : World} {x : Addr} {v : Value} (h : w.cell? x = some v) : x.spot = none ∧ ∃ c T fr, w.heap[x.block]? = some (.cells c T fr) ∧ c[x.off]? = some v := by
  unfold World.cell? at h
  split at h
  · rename_i c T fr hb
    split at h
    · simp at h
    · rename_i hs
      refine ⟨by simpa using hs, c, T, fr, hb, h⟩
  · simp at h
theorem row_of_cells {k : IntKind} {w : World} {x : Addr} {len cap : Nat} {zs : List Int} (hl : len ≤ cap) (hm : cap ≤ maxLen) (hz : zs.length = cap) (hc : ∀ i, i < zs.length → w.cell? (x.add i) = some (.int k (zs.getD i 0))) :
    SliceAt w None 1 (.slice (some x) len cap) len ((zs.take len).map (.int k)) := by
  refine ⟨by simp; omega, Nat.le_trans hl hm, .inr ⟨x, cap, rfl, hl, hm, fun h0 => ?_⟩⟩
  have h1 := hc 0 (by omega)
  rw [Addr.add_zero'] at h1
  obtain ⟨hs, c, T, fr, hb, _⟩ := spot_of_cell h1
  refine ⟨hs, fun h => h, c, T, fr, hb, fun j u hu => ?_⟩
  simp only [List.getElem?_map, List.getElem?_take, Option.map_eq_some_iff] at hu
  obtain ⟨z, hz1, rfl⟩ := hu
  split at hz1
  · rename_i hj
    have h2 := hc j (by omega)
    obtain ⟨b, o, sp⟩ := x
    simp only at hs hb
    subst hs
    rw [Addr.add_lit] at h2
    simp only [World.cell?, hb] at h2
    simp only [Option.isSome_none, Bool.false_eq_true, if_false] at h2
    rw [h2]
    simp [List.getD, hz1]
  · simp at hz1
end Go.Proofs.Ythdnbdbnlbebeaa
