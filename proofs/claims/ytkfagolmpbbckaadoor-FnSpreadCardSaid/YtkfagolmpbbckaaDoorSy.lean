/- A text of a slice of texts, read. -/
import Derived.Test.YtkfagolmpbbckaaDoorSx
namespace Go.Proofs.YtkfagolmpbbckaaDoor
open Go Go.RowKit Go.Sw
theorem TextsAt.cell {w : World} {B : Nat} {a : Option Addr} {xs : List ByteArray} (h : TextsAt w B a xs) {j : Nat} (hj : j < xs.length) : ∃ g, a = some ⟨g, 0, none⟩ ∧ w.cell? ⟨g, j, none⟩ = some (.string xs[j]) := by
  obtain ⟨g, cur, t, h1, _, h3, _, h5⟩ := h.at' (by omega)
  exact ⟨g, h1, by rw [cell_of_row w _ _ _ _ _ h3]; exact h5 j hj⟩
end Go.Proofs.YtkfagolmpbbckaaDoor
