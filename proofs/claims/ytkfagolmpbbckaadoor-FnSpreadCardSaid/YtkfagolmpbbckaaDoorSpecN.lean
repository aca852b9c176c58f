/- The statement's traps, the least and the greatest of them. -/
import Derived.Test.YtkfagolmpbbckaaDoorSpecM
import Derived.Test.YtkfagolmpbbckaaDoorTo
import Derived.Test.YtkfagolmpbbckaaDoorImplP
namespace Go.Proofs.YtkfagolmpbbckaaDoor
open Go Go.RowKit Go.Sw
set_option maxRecDepth 100000
set_option linter.unusedVariables false

theorem TxR.same {w w' : World} {g o : Nat} {xs : List ByteArray} (h : TxR w (some ⟨g, o, none⟩) xs) (hb : w'.heap[g]? = w.heap[g]?) : TxR w' (some ⟨g, o, none⟩) xs := ⟨fun h0 => by
  obtain ⟨g', o', e, h1, h2⟩ := h.at' h0
  cases e
  refine ⟨g, o, rfl, ?_, fun j hj => ?_⟩
  · rw [Array.getElem?_eq_getElem h1] at hb
    exact (Array.getElem?_eq_some_iff.1 hb).1
  · rw [World.cell?_of_block (w := w) (a := ⟨g, o + j, none⟩) hb]; exact h2 j hj⟩
end Go.Proofs.YtkfagolmpbbckaaDoor
