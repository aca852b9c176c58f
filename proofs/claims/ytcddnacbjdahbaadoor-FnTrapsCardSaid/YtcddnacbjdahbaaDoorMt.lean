/- Plain words: what two terms have in common. -/
import Derived.Test.YtcddnacbjdahbaaDoorTe
namespace Go.Sw
open Go

/-- what two terms have in common -/
def meetT (p q : Trm) : Trm := fun j => match p j with | none => q j | some b => some b
def meetTo (p q : Trm) (k : Nat) : Trm := fun j => if j < k then meetT p q j else p j
def okT (p q : Trm) : Nat → Bool
  | 0 => true
  | k + 1 => okT p q k && ((p k).isNone || ((q k).isNone || p k == q k))
theorem okT_iff (p q : Trm) (k : Nat) : okT p q k = true ↔ ∀ i, i < k → p i = none ∨ q i = none ∨ p i = q i := by
  induction k with
  | zero => simp [okT]
  | succ k ih =>
    rw [okT, Bool.and_eq_true, ih, Bool.or_eq_true, Bool.or_eq_true, Option.isNone_iff_eq_none, Option.isNone_iff_eq_none, beq_iff_eq]
    constructor
    · rintro ⟨h1, h2⟩ i hi
      by_cases e : i = k
      · subst e; exact h2
      · exact h1 i (by omega)
    · intro h; exact ⟨fun i hi => h i (by omega), h k (by omega)⟩
end Go.Sw
