/- The program's least and greatest traps: what is struck from a list. -/
import Derived.Test.YtkfagolmpbbckaaDoorImplO
namespace Go.Proofs.YtkfagolmpbbckaaDoor
open Go Go.RowKit Go.Sw
set_option maxRecDepth 100000
set_option linter.unusedVariables false

theorem heap_setCells_row {b : Nat} {t : TypeId} : ∀ (vs : List Value) (o : Nat) (w : World) (cur : Array Value), w.heap[b]? = some (.cells cur t (0, 0)) →
    ∃ cur', (w.setCells b o vs).heap[b]? = some (.cells cur' t (0, 0)) ∧ cur'.size = cur.size ∧ ∀ j, j < o → cur'[j]? = cur[j]?
  | [], o, w, cur, h => ⟨cur, h, rfl, fun _ _ => rfl⟩
  | v :: r, o, w, cur, h => by
    obtain ⟨cur', h1, h2, h3⟩ := heap_setCells_row r (o + 1) (w.setCell ⟨b, o, none⟩ v) (cur.setIfInBounds o v) (heap_setCell_same _ _ _ _ _ _ h)
    refine ⟨cur', h1, by rw [h2, Array.size_setIfInBounds], fun j hj => ?_⟩
    rw [h3 j (by omega), Array.getElem?_setIfInBounds_ne (by omega)]
theorem below_setCells' {B b : Nat} (hb : B ≤ b) : ∀ (vs : List Value) (o : Nat) (a w : World), Below B a w → Below B a (w.setCells b o vs)
  | [], _, _, _, h => h
  | v :: r, o, a, w, h => below_setCells' hb r (o + 1) a _ (h.setCell hb v)
/-- what is kept of the first j texts lies at the front; the others are where they were -/
structure KeptS (w : World) (g : Nat) (t : TypeId) (p : ByteArray → Bool) (xs : List ByteArray) (i j : Nat) : Prop where
  len : i = ((xs.take j).filter fun x => !p x).length
  row : ∃ cur, w.heap[g]? = some (.cells cur t (0, 0)) ∧ xs.length ≤ cur.size ∧ (∀ k, k < i → cur[k]? = (((xs.take j).filter fun x => !p x)[k]?).map Value.string) ∧ ∀ k (h : k < xs.length), j ≤ k → cur[k]? = some (.string xs[k])
theorem kept_le {p : ByteArray → Bool} {xs : List ByteArray} {j : Nat} : ((xs.take j).filter fun x => !p x).length ≤ j := by
  have := List.length_filter_le (fun x => !p x) (xs.take j)
  rw [List.length_take] at this; omega
theorem kept_succ {p : ByteArray → Bool} {xs : List ByteArray} {j : Nat} (h : j < xs.length) : (xs.take (j + 1)).filter (fun x => !p x) = if p xs[j] then (xs.take j).filter (fun x => !p x) else (xs.take j).filter (fun x => !p x) ++ [xs[j]] := by
  rw [List.take_succ_eq_append_getElem h, List.filter_append]
  cases hp : p xs[j]
  · rw [List.filter_cons_of_pos (by rw [hp]; rfl)]; simp
  · rw [List.filter_cons_of_neg (by rw [hp]; decide)]; simp
theorem KeptS.skip {w : World} {g : Nat} {t : TypeId} {p : ByteArray → Bool} {xs : List ByteArray} {i j : Nat} (h : KeptS w g t p xs i j) (hj : j < xs.length) (hp : p xs[j] = true) : KeptS w g t p xs i (j + 1) := by
  have e : (xs.take (j + 1)).filter (fun x => !p x) = (xs.take j).filter (fun x => !p x) := by rw [kept_succ hj, hp, if_pos rfl]
  obtain ⟨h1, cur, h2, h3, h4, h5⟩ := h
  exact ⟨by rw [e]; exact h1, cur, h2, h3, fun k hk => by rw [h4 k hk, e], fun k hk hjk => h5 k hk (by omega)⟩
theorem KeptS.keep {w : World} {g : Nat} {t : TypeId} {p : ByteArray → Bool} {xs : List ByteArray} {i j : Nat} (h : KeptS w g t p xs i j) (hj : j < xs.length) (hp : p xs[j] = false) : KeptS (w.setCell ⟨g, i, none⟩ (.string xs[j])) g t p xs (i + 1) (j + 1) := by
  have e : (xs.take (j + 1)).filter (fun x => !p x) = (xs.take j).filter (fun x => !p x) ++ [xs[j]] := by rw [kept_succ hj, hp]; rfl
  obtain ⟨h1, cur, h2, h3, h4, h5⟩ := h
  have hij : i ≤ j := by rw [h1]; exact kept_le
  refine ⟨by rw [e, List.length_append, ← h1]; rfl, cur.setIfInBounds i (.string xs[j]), heap_setCell_same _ _ _ _ _ _ h2, by simpa using h3, fun k hk => ?_, fun k hk hjk => ?_⟩
  · by_cases e2 : k = i
    · subst e2
      rw [Array.getElem?_setIfInBounds_self_of_lt (by omega), e, List.getElem?_append_right (by omega)]
      simp [← h1]
    · rw [Array.getElem?_setIfInBounds_ne (by omega), h4 k (by omega), e, List.getElem?_append_left (by omega)]
  · rw [Array.getElem?_setIfInBounds_ne (by omega)]; exact h5 k hk (by omega)
theorem KeptS.same {w w' : World} {g : Nat} {t : TypeId} {p : ByteArray → Bool} {xs : List ByteArray} {i j : Nat} (h : KeptS w g t p xs i j) (hs : w'.heap[g]? = w.heap[g]?) : KeptS w' g t p xs i j := by
  obtain ⟨h1, cur, h2, h3⟩ := h
  exact ⟨h1, cur, hs.trans h2, h3⟩
/-- all texts of a list are terms of n switches -/
def allT (n : Nat) (xs : List ByteArray) : Prop := ∀ t ∈ xs, ∃ p, t = termT n p
theorem trapsL_terms (w : ByteArray) : allT (netOf w).n (trapsL w) := fun t ht => by
  unfold trapsL at ht
  split at ht
  · obtain ⟨p, _, rfl⟩ := List.mem_map.1 ht
    exact ⟨p, rfl⟩
  · cases ht
end Go.Proofs.YtkfagolmpbbckaaDoor
