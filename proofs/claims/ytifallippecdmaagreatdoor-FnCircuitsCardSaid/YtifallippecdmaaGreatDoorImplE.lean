/- The program's terms: which texts are, their states, traps, the least term of some states. -/
import Derived.Test.YtifallippecdmaaGreatDoorImplA
import Derived.Test.YtifallippecdmaaGreatDoorP1
import Derived.Test.YtifallippecdmaaGreatDoorSl
import Derived.Deep.QuietTactic
import Derived.BigQuiet
import Derived.Laws.BytesArg
import Derived.OwnWalk
namespace Go.Proofs.YtifallippecdmaaGreatDoor
open Go Go.RowKit Go.Sw
set_option maxRecDepth 100000
set_option linter.unusedVariables false

theorem letter_no (v : UInt8) (h : isLetter v = false) : ((v.toNat : Int) != 48) = true ∧ ((v.toNat : Int) != 49) = true ∧ ((v.toNat : Int) != 42) = true := by
  simp only [isLetter, Bool.or_eq_false_iff, beq_eq_false_iff_ne, ne_eq, ← UInt8.toNat_inj] at h
  simp only [bne_iff_ne, ne_eq]
  have h48 : (48 : UInt8).toNat = 48 := rfl
  have h49 : (49 : UInt8).toNat = 49 := rfl
  have h42 : (42 : UInt8).toNat = 42 := rfl
  exact ⟨fun e => h.2.1 (by omega), fun e => h.2.2 (by omega), fun e => h.1 (by omega)⟩
theorem letter_yes (v : UInt8) (h : isLetter v = true) : ((v.toNat : Int) != 48) = false ∨ (((v.toNat : Int) != 48) = true ∧ ((v.toNat : Int) != 49) = false) ∨ (((v.toNat : Int) != 48) = true ∧ ((v.toNat : Int) != 49) = true ∧ ((v.toNat : Int) != 42) = false) := by
  simp only [isLetter, Bool.or_eq_true, beq_iff_eq] at h
  rcases h with rfl | rfl | rfl
  · exact .inr (.inr ⟨rfl, rfl, rfl⟩)
  · exact .inl rfl
  · exact .inr (.inl ⟨rfl, rfl⟩)
theorem termB_bad {t : ByteArray} {n j : Nat} (h : j < t.size) (hb : isLetter t[j] = false) : termB t n = false := by
  unfold termB
  rw [Bool.and_eq_false_iff]
  refine .inr (List.all_eq_false.2 ⟨_, List.getElem_mem (by simpa using h), ?_⟩)
  rw [Sw.byte_at t j h, hb]; decide
theorem termB_good {t : ByteArray} {n : Nat} (hn : t.size = n) (h : ∀ j (hj : j < t.size), isLetter t[j] = true) : termB t n = true := by
  unfold termB
  rw [decide_eq_true hn, Bool.true_and, List.all_eq_true]
  intro v hv
  obtain ⟨j, hj, rfl⟩ := List.getElem_of_mem hv
  have hj' : j < t.size := by simpa using hj
  rw [Sw.byte_at t j hj']; exact h j hj'



/-- numbers as Go's -/
def natI (l : List Nat) : List Int := l.map Int.ofNat
theorem natI_length (l : List Nat) : (natI l).length = l.length := by simp [natI]
theorem natI_snoc (l : List Nat) (s : Nat) : natI (l ++ [s]) = natI l ++ [(s : Int)] := by simp [natI]
theorem natI_get (l : List Nat) (j : Nat) (h : j < l.length) : (natI l)[j]'(by rw [natI_length]; exact h) = ((l[j] : Nat) : Int) := by simp [natI]

end Go.Proofs.YtifallippecdmaaGreatDoor
