/- The program's questions about circuits: is there one of a sign? -/
import Derived.Test.YtifallippecdmaaGreatDoorCk
namespace Go.Proofs.YtifallippecdmaaGreatDoor
open Go Go.RowKit Go.Sw
set_option maxRecDepth 100000
set_option linter.unusedVariables false

theorem beq_ba (a b : ByteArray) : (a == b) = (a.data == b.data) := by cases a; cases b; rfl
theorem beq_texts (a b : ByteArray) : (a.toList == b.toList) = (b == a) := by
  rw [ByteArray.toList_eq, ByteArray.toList_eq, beq_ba, Bool.eq_iff_iff, beq_iff_eq, beq_iff_eq]
  exact ⟨fun h => (Array.toList_inj.1 h).symm, fun h => by rw [h]⟩
theorem isC_run (c : Nat) (sign : ByteArray) (h : 1 ≤ c ∧ c ≤ 3) : ((((signT c).toNat : Nat) : Int) == 42 || ((Utf8.encode (wrap32 ((signT c).toNat : Nat))).toList == sign.toList)) = isC c sign := by
  have e : ∀ b : UInt8, (b = 43 ∨ b = 45 ∨ b = 42) → Utf8.encode (wrap32 (b.toNat : Nat)) = bs [b] := by
    rintro b (rfl | rfl | rfl) <;> (apply ba_ext; decide +kernel)
  have : c = 1 ∨ c = 2 ∨ c = 3 := by omega
  unfold isC
  rw [e (signT c) (by rcases this with rfl | rfl | rfl <;> decide), beq_texts]
  rcases this with rfl | rfl | rfl <;> rfl

/-- the first place of a kind, or -1 -/
def findC (p : List Nat → Bool) (cs : List (List Nat)) : Int := match cs.findIdx? p with | some k => (k : Int) | none => -1
theorem findC_some {p : List Nat → Bool} {cs : List (List Nat)} {k : Nat} (hk : k < cs.length) (h : p cs[k] = true) (hb : ∀ j (hj : j < k), p (cs[j]'(by omega)) = false) : findC p cs = (k : Int) := by
  unfold findC
  rw [List.findIdx?_eq_some_iff_getElem.2 ⟨hk, h, fun j hj => by rw [hb j hj]; decide⟩]
theorem findC_none {p : List Nat → Bool} {cs : List (List Nat)} (hb : ∀ j (hj : j < cs.length), p cs[j] = false) : findC p cs = -1 := by
  unfold findC
  rw [List.findIdx?_eq_none_iff.2 fun x hx => by
    obtain ⟨j, hj, rfl⟩ := List.getElem_of_mem hx
    exact hb j hj]
theorem findC_any (p : List Nat → Bool) (cs : List (List Nat)) : decide (0 ≤ findC p cs) = cs.any p := by
  unfold findC
  cases h : cs.findIdx? p with
  | none =>
    rw [List.findIdx?_eq_none_iff] at h
    have : cs.any p = false := by
      rw [List.any_eq_false]
      intro x hx
      rw [h x hx]; decide
    rw [this]; decide
  | some k =>
    obtain ⟨hk, hp, _⟩ := List.findIdx?_eq_some_iff_getElem.1 h
    have : cs.any p = true := List.any_eq_true.2 ⟨_, List.getElem_mem hk, hp⟩
    rw [this, decide_eq_true_eq]
    exact Int.natCast_nonneg k
theorem hasB_no {w sign : ByteArray} (h : netOk w = false) : hasB w sign = false := by rw [hasB, h]; rfl
theorem plusB_eq (sign : ByteArray) : plusB sign = (sign.toList == [43] || sign.toList == [45]) := by
  unfold plusB
  rw [ByteArray.toList_eq, beq_ba, beq_ba, ← Array.beq_toList, ← Array.beq_toList]
end Go.Proofs.YtifallippecdmaaGreatDoor
