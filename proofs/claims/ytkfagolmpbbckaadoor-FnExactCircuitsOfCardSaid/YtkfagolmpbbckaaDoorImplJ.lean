/- The program's questions about circuits. -/
import Derived.Test.YtkfagolmpbbckaaDoorImplI
namespace Go.Proofs.YtkfagolmpbbckaaDoor
open Go Go.RowKit Go.Sw
set_option maxRecDepth 100000
set_option linter.unusedVariables false

theorem CircsAt.slice {w : World} {N : Net} {v : Value} {cs : List (List Nat)} (h : CircsAt w N v cs) : ∃ a c, v = .slice a cs.length c := by
  obtain ⟨base, xs, ho, _⟩ := h
  rcases ho.2 with ⟨rfl, hz⟩ | ⟨g, cap, cur, rfl, _⟩
  · exact ⟨none, 0, by rw [hz]⟩
  · exact ⟨_, cap, rfl⟩

end Go.Proofs.YtkfagolmpbbckaaDoor
