/- Plain words and lemmas: a search through the states that single steps lead to, its stack and its set. -/
import Derived.Test.YtkfagolmpbbckaaDoorAt
namespace Go.Sw
open Go

def unmN (n : Nat) (S : Nat → Bool) : Nat := (pickL (fun i => !S i) n).length
theorem unm_put {n u : Nat} {S : Nat → Bool} (hu : u < n) (h : S u = false) : unmN n (fun j => j == u || S j) + 1 = unmN n S := by
  unfold unmN
  have key : ∀ k, (pickL (fun i => !(i == u || S i)) k).length + (if u < k then 1 else 0) = (pickL (fun i => !S i) k).length := by
    intro k
    induction k with
    | zero => simp [pickL]
    | succ k ih =>
      rw [pickL, pickL]
      by_cases e : k = u
      · subst e
        have a1 : ¬ k < k := by omega
        have a2 : k < k + 1 := by omega
        have a3 : ¬ (!(k == k || S k)) = true := by simp
        have a4 : (!S k) = true := by simp [h]
        rw [if_neg a1] at ih
        rw [if_neg a3, if_pos a4, if_pos a2, List.length_append, List.length_singleton]
        omega
      · have e2 : (k == u || S k) = S k := by simp [e]
        rw [e2]
        have e3 : (if u < k + 1 then 1 else 0) = if u < k then 1 else 0 := by
          by_cases hlt : u < k
          · have a1 : u < k + 1 := by omega
            rw [if_pos hlt, if_pos a1]
          · have a1 : ¬ u < k + 1 := by omega
            rw [if_neg hlt, if_neg a1]
        rw [e3]
        by_cases hk : (!S k) = true
        · rw [if_pos hk, if_pos hk, List.length_append, List.length_append, List.length_singleton]; omega
        · rw [if_neg hk, if_neg hk]; exact ih
  have := key n
  rw [if_pos hu] at this
  exact this
theorem unm_le (n : Nat) (S : Nat → Bool) : unmN n S ≤ n := pickL_length _ _
/-- the set holds the start, only what steps lead to, all that is on the stack; what is not on the stack has its next ones in it, but for one state x, whose first m next ones are -/
structure RInv (N : Net) (s : Nat) (S : Nat → Bool) (L : List Nat) (x : Option (Nat × Nat)) : Prop where
  start : S s = true
  only : ∀ i, S i = true → i < pw N.n ∧ AR N s i
  stack : ∀ i ∈ L, S i = true
  done : ∀ i, S i = true → i ∉ L → (∀ m, x ≠ some (i, m)) → ∀ j ∈ nextL N i, S j = true
  part : ∀ t m, x = some (t, m) → S t = true ∧ ∀ k (h : k < (nextL N t).length), k < m → S (nextL N t)[k] = true
theorem RInv.init {N : Net} {s : Nat} (hs : s < pw N.n) : RInv N s (fun j => j == s || false) [s] none :=
  ⟨by simp, fun i hi => by
    have : i = s := by simpa using hi
    subst this; exact ⟨hs, .refl _⟩, fun i hi => by simpa using hi, fun i hi hn => by
    have : i = s := by simpa using hi
    subst this; simp at hn, fun t m h => by cases h⟩
theorem RInv.pop {N : Net} {s t : Nat} {S : Nat → Bool} {L : List Nat} (h : RInv N s S (L ++ [t]) none) : RInv N s S L (some (t, 0)) :=
  ⟨h.start, h.only, fun i hi => h.stack i (by simp [hi]), fun i hi hn hx => by
    by_cases e : i = t
    · subst e; exact absurd rfl (hx 0)
    · exact h.done i hi (by simp [hn, e]) (fun m => by simp), fun t' m e => by
    cases e; exact ⟨h.stack t (by simp), fun k hk hm => by omega⟩⟩
theorem RInv.skip {N : Net} {s t m : Nat} {S : Nat → Bool} {L : List Nat} (h : RInv N s S L (some (t, m))) (hm : m < (nextL N t).length) (hu : S (nextL N t)[m] = true) : RInv N s S L (some (t, m + 1)) :=
  ⟨h.start, h.only, h.stack, fun i hi hn hx => h.done i hi hn fun m' e => by
    cases e; exact hx (m + 1) rfl, fun t' m' e => by
    cases e
    refine ⟨(h.part t m rfl).1, fun k hk hkm => ?_⟩
    by_cases e : k = m
    · subst e; exact hu
    · exact (h.part t m rfl).2 k hk (by omega)⟩
theorem RInv.push {N : Net} {s t m : Nat} {S : Nat → Bool} {L : List Nat} (h : RInv N s S L (some (t, m))) (hm : m < (nextL N t).length) : RInv N s (fun j => j == (nextL N t)[m] || S j) (L ++ [(nextL N t)[m]]) (some (t, m + 1)) := by
  have ht := (h.part t m rfl).1
  have hu : (nextL N t)[m] ∈ nextL N t := List.getElem_mem hm
  refine ⟨by simp [h.start], fun i hi => ?_, fun i hi => ?_, fun i hi hn hx j hj => ?_, fun t' m' e => ?_⟩
  · rcases Bool.or_eq_true .. |>.mp hi with e | e
    · have : i = (nextL N t)[m] := by simpa using e
      subst this
      obtain ⟨h1, h2⟩ := h.only t ht
      exact ⟨nextL_lt h1 hu, h2.snoc hu⟩
    · exact h.only i e
  · rcases List.mem_append.1 hi with e | e
    · simp [h.stack i e]
    · have : i = (nextL N t)[m] := by simpa using e
      simp [this]
  · have hni : i ≠ (nextL N t)[m] := fun e => hn (by simp [e])
    have hSi : S i = true := by simpa [hni] using hi
    have := h.done i hSi (fun hm2 => hn (by simp [hm2])) (fun m' e => by cases e; exact hx (m + 1) rfl) j hj
    simp [this]
  · cases e
    refine ⟨by simp [ht], fun k hk hkm => ?_⟩
    by_cases e : k = m
    · subst e; simp
    · simp [(h.part t m rfl).2 k hk (by omega)]
theorem RInv.close {N : Net} {s t m : Nat} {S : Nat → Bool} {L : List Nat} (h : RInv N s S L (some (t, m))) (hm : (nextL N t).length ≤ m) : RInv N s S L none :=
  ⟨h.start, h.only, h.stack, fun i hi hn _ => by
    by_cases e : i = t
    · subst e
      intro j hj
      obtain ⟨k, hk, rfl⟩ := List.getElem_of_mem hj
      exact (h.part i m rfl).2 k hk (by omega)
    · exact h.done i hi hn fun m' e2 => by cases e2; exact e rfl, fun t' m' e => by cases e⟩
theorem RInv.end' {N : Net} {s : Nat} {S : Nat → Bool} (h : RInv N s S [] none) : ∀ i, S i = arB N s i := by
  intro i
  rw [Bool.eq_iff_iff, arB_iff]
  exact ⟨fun hi => (h.only i hi).2, fun ha => ha.closed (S := fun i => S i = true) h.start fun a b ha hb => h.done a ha (by simp) (fun m => by simp) b hb⟩
end Go.Sw
