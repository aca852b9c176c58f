/- Plain words and lemmas: what single steps lead to, steady states, attractors. -/
import Derived.Test.YtkfagolmpbbckaaDoorWl
import Derived.Test.YtkfagolmpbbckaaDoorTe
namespace Go.Sw
open Go

/-- the states after one step of a restless switch below k -/
def nextTo (N : Net) (s : Nat) : Nat → List Nat
  | 0 => []
  | k + 1 => if setN s k (N.f k s) ≠ s then nextTo N s k ++ [setN s k (N.f k s)] else nextTo N s k
def nextL (N : Net) (s : Nat) : List Nat := nextTo N s N.n
theorem nextTo_mem {N : Net} {s k t : Nat} : t ∈ nextTo N s k ↔ t ≠ s ∧ ∃ i, i < k ∧ t = setN s i (N.f i s) := by
  induction k with
  | zero => simp [nextTo]
  | succ k ih =>
    rw [nextTo]
    constructor
    · intro h
      split at h
      · rename_i hne
        rcases List.mem_append.1 h with h | h
        · obtain ⟨h1, i, hi, h2⟩ := ih.1 h
          exact ⟨h1, i, by omega, h2⟩
        · obtain rfl : t = setN s k (N.f k s) := by simpa using h
          exact ⟨hne, k, by omega, rfl⟩
      · obtain ⟨h1, i, hi, h2⟩ := ih.1 h
        exact ⟨h1, i, by omega, h2⟩
    · rintro ⟨h1, i, hi, h2⟩
      by_cases e : i = k
      · subst e
        rw [if_pos (by rw [← h2]; exact h1)]
        rw [← h2]; simp
      · have := ih.2 ⟨h1, i, by omega, h2⟩
        split
        · exact List.mem_append_left _ this
        · exact this
theorem nextTo_length (N : Net) (s k : Nat) : (nextTo N s k).length ≤ k := by
  induction k with
  | zero => exact Nat.le_refl _
  | succ k ih =>
    rw [nextTo]
    split
    · rw [List.length_append]; simp; omega
    · omega
theorem nextL_lt {N : Net} {s t : Nat} (hs : s < pw N.n) (h : t ∈ nextL N s) : t < pw N.n := by
  obtain ⟨_, i, hi, rfl⟩ := nextTo_mem.1 h
  exact setN_lt _ _ _ _ hs hi
theorem AR.snoc {N : Net} {s t u : Nat} (h : AR N s t) (k : u ∈ nextL N t) : AR N s u := by
  obtain ⟨_, i, hi, rfl⟩ := nextTo_mem.1 k
  exact h.trans (AR.one hi)
/-- a set that has a state and all that next ones of it are, has all that steps lead to -/
theorem AR.closed {N : Net} {S : Nat → Prop} {s t : Nat} (h : AR N s t) (hs : S s) (hc : ∀ a b, S a → b ∈ nextL N a → S b) : S t := by
  induction h with
  | refl => exact hs
  | @step a i t hi _ ih =>
    apply ih
    by_cases e : setN a i (N.f i a) = a
    · rw [e]; exact hs
    · exact hc _ _ hs (nextTo_mem.2 ⟨e, i, hi, rfl⟩)
noncomputable def arB (N : Net) (s t : Nat) : Bool := @decide (AR N s t) (Classical.propDecidable _)
theorem arB_iff {N : Net} {s t : Nat} : arB N s t = true ↔ AR N s t := by unfold arB; exact @decide_eq_true_iff _ (Classical.propDecidable _)
theorem arB_refl (N : Net) (s : Nat) : arB N s s = true := arB_iff.2 (.refl s)
/-- all numbers below k are of a kind -/
def allB (p : Nat → Bool) : Nat → Bool
  | 0 => true
  | k + 1 => allB p k && p k
theorem allB_iff (p : Nat → Bool) (k : Nat) : allB p k = true ↔ ∀ i, i < k → p i = true := by
  induction k with
  | zero => simp [allB]
  | succ k ih =>
    rw [allB, Bool.and_eq_true, ih]
    constructor
    · rintro ⟨h1, h2⟩ i hi
      by_cases e : i = k
      · subst e; exact h2
      · exact h1 i (by omega)
    · intro h; exact ⟨fun i hi => h i (by omega), h k (by omega)⟩
noncomputable def steadyB (N : Net) (s : Nat) : Bool := allB (fun t => !arB N s t || arB N t s) (pw N.n)
theorem steadyB_iff {N : Net} {s : Nat} (hs : s < pw N.n) : steadyB N s = true ↔ ∀ t, AR N s t → AR N t s := by
  unfold steadyB
  rw [allB_iff]
  constructor
  · intro h t ht
    have := h t (ht.lt hs)
    rw [arB_iff.2 ht] at this
    simpa [arB_iff] using this
  · intro h t _
    by_cases e : arB N s t = true
    · rw [e]
      have := arB_iff.2 (h t (arB_iff.1 e))
      rw [this]; rfl
    · have : arB N s t = false := by simpa using e
      rw [this]; rfl
/-- the numbers below k of a kind -/
def pickL (p : Nat → Bool) : Nat → List Nat
  | 0 => []
  | k + 1 => if p k then pickL p k ++ [k] else pickL p k
theorem pickL_mem {p : Nat → Bool} {k t : Nat} : t ∈ pickL p k ↔ t < k ∧ p t = true := by
  induction k with
  | zero => simp [pickL]
  | succ k ih =>
    rw [pickL]
    split
    · rename_i hp
      rw [List.mem_append, ih]
      constructor
      · rintro (⟨h1, h2⟩ | h)
        · exact ⟨by omega, h2⟩
        · obtain rfl : t = k := by simpa using h
          exact ⟨by omega, hp⟩
      · rintro ⟨h1, h2⟩
        by_cases e : t = k
        · subst e; simp
        · exact .inl ⟨by omega, h2⟩
    · rename_i hp
      rw [ih]
      constructor
      · rintro ⟨h1, h2⟩; exact ⟨by omega, h2⟩
      · rintro ⟨h1, h2⟩
        refine ⟨?_, h2⟩
        by_cases e : t = k
        · subst e; exact absurd h2 hp
        · omega
theorem pickL_length (p : Nat → Bool) (k : Nat) : (pickL p k).length ≤ k := by
  induction k with
  | zero => exact Nat.le_refl _
  | succ k ih =>
    rw [pickL]
    split
    · rw [List.length_append]; simp; omega
    · omega
theorem pickL_congr {p q : Nat → Bool} {k : Nat} (h : ∀ i, i < k → p i = q i) : pickL p k = pickL q k := by
  induction k with
  | zero => rfl
  | succ k ih => rw [pickL, pickL, h k (by omega), ih fun i hi => h i (by omega)]
theorem pickL_head {p : Nat → Bool} {k m : Nat} (hm : m < k) (hp : p m = true) (h : ∀ i, i < m → p i = false) : (pickL p k).headD 0 = m ∧ pickL p k ≠ [] := by
  induction k with
  | zero => omega
  | succ k ih =>
    rw [pickL]
    by_cases e : m = k
    · subst e
      have : pickL p m = [] := by
        rw [List.eq_nil_iff_forall_not_mem]
        intro t ht
        obtain ⟨h1, h2⟩ := pickL_mem.1 ht
        rw [h t h1] at h2; cases h2
      rw [this, if_pos hp]; simp
    · obtain ⟨h1, h2⟩ := ih (by omega)
      split
      · cases hl : pickL p k with
        | nil => exact absurd hl h2
        | cons a r => rw [hl] at h1; exact ⟨h1, by simp⟩
      · exact ⟨h1, h2⟩
/-- what a state's steps lead to, in order -/
noncomputable def stR (N : Net) (s : Nat) : List Nat := pickL (arB N s) (pw N.n)
/-- the least state of an attractor -/
noncomputable def leastB (N : Net) (s : Nat) : Bool := steadyB N s && allB (fun t => !arB N s t) s
theorem leastB_iff {N : Net} {s : Nat} : leastB N s = true ↔ steadyB N s = true ∧ ∀ t, t < s → arB N s t = false := by
  unfold leastB
  rw [Bool.and_eq_true, allB_iff]
  simp
theorem stR_head {N : Net} {s : Nat} (hs : s < pw N.n) (h : leastB N s = true) : (stR N s).headD 0 = s ∧ stR N s ≠ [] :=
  pickL_head hs (arB_refl N s) (leastB_iff.1 h).2
theorem stR_head_of {N : Net} {s : Nat} (hs : s < pw N.n) (h : steadyB N s = true) (hh : (stR N s).headD 0 = s) : leastB N s = true := by
  rw [leastB_iff]
  refine ⟨h, fun t ht => ?_⟩
  cases e : arB N s t with
  | false => rfl
  | true =>
    exfalso
    -- the first of all that are reached is not above t
    have key : ∀ k, t < k → ∃ m, m ≤ t ∧ (pickL (arB N s) k).headD 0 = m ∧ pickL (arB N s) k ≠ [] := by
      intro k
      induction k with
      | zero => intro h; omega
      | succ k ih =>
        intro hk
        rw [pickL]
        by_cases e2 : t = k
        · subst e2
          rw [e, if_pos rfl]
          cases hl : pickL (arB N s) t with
          | nil => exact ⟨t, Nat.le_refl _, rfl, by simp⟩
          | cons a r =>
            have : a ∈ pickL (arB N s) t := by rw [hl]; simp
            have := (pickL_mem.1 this).1
            exact ⟨a, by omega, rfl, by simp⟩
        · obtain ⟨m, h1, h2, h3⟩ := ih (by omega)
          split
          · cases hl : pickL (arB N s) k with
            | nil => exact absurd hl h3
            | cons a r => rw [hl] at h2; exact ⟨m, h1, h2, by simp⟩
          · exact ⟨m, h1, h2, h3⟩
    obtain ⟨m, h1, h2, _⟩ := key (pw N.n) (by omega)
    have h3 : (stR N s).headD 0 = m := h2
    omega
/-- the least states of the attractors, and the attractors -/
noncomputable def attS (N : Net) : List Nat := pickL (leastB N) (pw N.n)
noncomputable def attL (N : Net) : List (List Nat) := (attS N).map (stR N)
/-- has an attractor told before the state? -/
theorem done_iff {N : Net} {k : Nat} (hk : k < pw N.n) (hst : steadyB N k = true) : (∃ s, s < k ∧ leastB N s = true ∧ AR N s k) ↔ leastB N k = false := by
  constructor
  · rintro ⟨s, hs, hl, ha⟩
    cases e : leastB N k with
    | false => rfl
    | true =>
      have h1 := (leastB_iff.1 e).2 s hs
      have h2 := (steadyB_iff (by omega)).1 (leastB_iff.1 hl).1 k ha
      rw [arB_iff.2 h2] at h1; cases h1
  · intro h
    -- the least state that k leads to
    have hex : ∃ t, t < k ∧ AR N k t := by
      apply Classical.byContradiction
      intro hc
      have : leastB N k = true := leastB_iff.2 ⟨hst, fun t ht => by
        cases e : arB N k t with
        | false => rfl
        | true => exact absurd ⟨t, ht, arB_iff.1 e⟩ hc⟩
      rw [h] at this; cases this
    have hmin : ∀ n, ∀ t, t < n → AR N k t → ∃ m, AR N k m ∧ m ≤ t ∧ ∀ u, u < m → ¬ AR N k u := by
      intro n
      induction n with
      | zero => intro t h; omega
      | succ n ih =>
        intro t ht ha
        by_cases hc : ∃ u, u < t ∧ AR N k u
        · obtain ⟨u, hu, hau⟩ := hc
          obtain ⟨m, h1, h2, h3⟩ := ih u (by omega) hau
          exact ⟨m, h1, by omega, h3⟩
        · exact ⟨t, ha, Nat.le_refl _, fun u hu hau => hc ⟨u, hu, hau⟩⟩
    obtain ⟨t, ht, hat⟩ := hex
    obtain ⟨m, h1, h2, h3⟩ := hmin (t + 1) t (by omega) hat
    have hback := (steadyB_iff hk).1 hst
    have hmk := hback m h1
    refine ⟨m, by omega, leastB_iff.2 ⟨(steadyB_iff (by omega)).2 fun u hu => ?_, fun u hu => ?_⟩, hmk⟩
    · exact (hback u (h1.trans hu)).trans h1
    · cases e : arB N m u with
      | false => rfl
      | true => exact absurd (h1.trans (arB_iff.1 e)) (h3 u hu)
/-- single steps do not leave a trap -/
theorem trap_AR {N : Net} {p : Trm} (ht : trapP N p = true) {s t : Nat} (h : AR N s t) (hs : s < pw N.n) (hp : hasP N.n p s = true) : hasP N.n p t = true := by
  induction h with
  | refl => exact hp
  | @step a i t hi _ ih =>
    refine ih (setN_lt _ _ _ _ hs hi) ?_
    rw [hasP_iff] at hp ⊢
    intro j hj
    have h1 := (hasP_iff _ _ _).1 ((trapP_iff N p).1 ht a hs ((hasP_iff _ _ _).2 hp)) j hj
    rw [setN_testBit]
    by_cases e : j = i
    · subst e
      rw [stepN_testBit, decide_eq_true hj, Bool.true_and] at h1
      rw [if_pos rfl]; exact h1
    · rw [if_neg e]; exact hp j hj
/-- how many attractors lie in a trap -/
noncomputable def attIn (N : Net) (p : Trm) : Nat := ((attS N).filter fun s => hasP N.n p s).length
noncomputable def attI (w t : ByteArray) : Int := if termOk w t && trapP (netOf w) (ofT t) then (attIn (netOf w) (ofT t) : Nat) else -1
theorem att_all {N : Net} {p : Trm} (ht : trapP N p = true) {s : Nat} (hs : s < pw N.n) : ((stR N s).any fun u => !hasP N.n p u) = !hasP N.n p s := by
  rw [Bool.eq_iff_iff, List.any_eq_true]
  constructor
  · rintro ⟨u, hu, hn⟩
    have ha := arB_iff.1 (pickL_mem.1 hu).2
    cases e : hasP N.n p s with
    | false => rfl
    | true => rw [trap_AR ht ha hs e] at hn; cases hn
  · intro h
    exact ⟨s, pickL_mem.2 ⟨hs, arB_refl N s⟩, h⟩
end Go.Sw
