/- Reading an own row of float64s. -/
import Derived.Test.YtkpnjehgbehhcaaAppF
import Derived.Laws.OwnMore
namespace Go.Proofs.Ytkpnjehgbehhcaa
open Go.RowKit

theorem OwnF.read {w : World} {base : Nat} {v : Value} {xs : List Nat} (h : OwnF w base v xs) (h0 : xs ≠ []) :
    ∃ g cap, v = .slice (some ⟨g, 0, none⟩) xs.length cap ∧ base ≤ g ∧ g < w.heap.size ∧ ∀ j (hj : j < xs.length), w.cell? ⟨g, j, none⟩ = some (.float .f64 xs[j]) := by
  have hlt := World.ownsRow.lt h
  have h' := h
  rcases h.2 with ⟨_, hn⟩ | ⟨g, cap, cur, rfl, _⟩
  · exact absurd (List.length_eq_zero_iff.1 hn) h0
  · obtain ⟨h1, h2⟩ := hlt g rfl
    refine ⟨g, cap, rfl, h1, h2, fun j hj => ?_⟩
    rw [World.ownsRow.cellAt h' j (by rw [Nat.mul_one]; exact hj), List.getElem?_map, List.getElem?_eq_getElem hj]; rfl
end Go.Proofs.Ytkpnjehgbehhcaa
