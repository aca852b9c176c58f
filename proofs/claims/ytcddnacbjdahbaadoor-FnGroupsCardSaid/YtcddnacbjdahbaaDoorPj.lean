/- Plain facts: the groups of switches that act on each other part the switches. -/
import Derived.Test.YtcddnacbjdahbaaDoorPu
import Derived.Test.YtcddnacbjdahbaaDoorPt
namespace Go.Sw
open Go

noncomputable def grpG (N : Net) : Nat → List Nat
  | 0 => []
  | i + 1 => if (grpD N i).testBit i then grpG N i else grpG N i ++ [grpN N i]
theorem grpL_G (N : Net) (i : Nat) : grpL N i = (grpG N i).map Int.ofNat := by
  induction i with
  | zero => rfl
  | succ i ih =>
    rw [grpL, grpG]
    split
    · exact ih
    · rw [ih, List.map_append]; rfl
theorem grpG_mem {N : Net} {i x : Nat} (h : x ∈ grpG N i) : ∃ j, j < i ∧ x = grpN N j ∧ (grpD N j).testBit j = false := by
  induction i with
  | zero => simp [grpG] at h
  | succ i ih =>
    rw [grpG] at h
    split at h
    · obtain ⟨j, h1, h2⟩ := ih h; exact ⟨j, by omega, h2⟩
    · rename_i hb
      rcases List.mem_append.1 h with h | h
      · obtain ⟨j, h1, h2⟩ := ih h; exact ⟨j, by omega, h2⟩
      · exact ⟨i, by omega, by simpa using h, by simpa using hb⟩
theorem grpD_mem {N : Net} {i t : Nat} : (grpD N i).testBit t = true ↔ ∃ x, x ∈ grpG N i ∧ x.testBit t = true := by
  induction i with
  | zero => simp [grpD, grpG]
  | succ i ih =>
    rw [grpD, grpG]
    split
    · exact ih
    · rw [Nat.testBit_or, Bool.or_eq_true, ih]
      constructor
      · rintro (⟨x, h1, h2⟩ | h)
        · exact ⟨x, List.mem_append_left _ h1, h2⟩
        · exact ⟨_, List.mem_append_right _ (by simp), h⟩
      · rintro ⟨x, h1, h2⟩
        rcases List.mem_append.1 h1 with h | h
        · exact .inl ⟨x, h, h2⟩
        · have : x = grpN N i := by simpa using h
          subst this; exact .inr h2
theorem grp_two {N : Net} {i j t : Nat} (hji : j < i) (hi : (grpD N i).testBit i = false) (h1 : (grpN N j).testBit t = true) (h2 : (grpN N i).testBit t = true) : False := by
  have hno := grp_new hi j hji
  have key : mutB N i j = true := by
    rcases (grpN_bit N j t).1 h1 with rfl | h1
    · rcases (grpN_bit N i t).1 h2 with h | h
      · omega
      · exact h
    · rcases (grpN_bit N i t).1 h2 with rfl | h2
      · exact mutB_symm h1
      · exact mutB_trans h2 (mutB_symm h1)
  rw [key] at hno; cases hno
theorem grpG_pair (N : Net) (i : Nat) : (grpG N i).Pairwise fun a b => a &&& b = 0 := by
  induction i with
  | zero => exact List.Pairwise.nil
  | succ i ih =>
    rw [grpG]
    split
    · exact ih
    · rename_i hb
      rw [List.pairwise_append]
      refine ⟨ih, List.pairwise_singleton _ _, fun a ha b hbm => ?_⟩
      have hbb : b = grpN N i := by simpa using hbm
      subst hbb
      obtain ⟨j, hj, rfl, _⟩ := grpG_mem ha
      apply Nat.eq_of_testBit_eq
      intro t
      rw [Nat.testBit_and, Nat.zero_testBit]
      cases e1 : (grpN N j).testBit t with
      | false => rfl
      | true =>
        cases e2 : (grpN N i).testBit t with
        | false => rfl
        | true => exact (grp_two hj (by simpa using hb) e1 e2).elim
/-- what the first k of a list have together -/
def orTo (G : List Nat) : Nat → Nat
  | 0 => 0
  | k + 1 => orTo G k ||| G.getD k 0
theorem getD_of {G : List Nat} {k : Nat} (h : k < G.length) : G.getD k 0 = G[k] := by rw [List.getD_eq_getElem?_getD, List.getElem?_eq_getElem h]; rfl
theorem orTo_bit {G : List Nat} {k t : Nat} (hk : k ≤ G.length) : (orTo G k).testBit t = true ↔ ∃ j, ∃ h : j < G.length, j < k ∧ G[j].testBit t = true := by
  induction k with
  | zero => simp [orTo]
  | succ k ih =>
    rw [orTo, Nat.testBit_or, Bool.or_eq_true, ih (by omega), getD_of (by omega)]
    constructor
    · rintro (⟨j, h1, h2, h3⟩ | h)
      · exact ⟨j, h1, by omega, h3⟩
      · exact ⟨k, by omega, by omega, h⟩
    · rintro ⟨j, h1, h2, h3⟩
      by_cases e : j = k
      · subst e; exact .inr h3
      · exact .inl ⟨j, h1, by omega, h3⟩
theorem orTo_lt {G : List Nat} {n : Nat} (h : ∀ x ∈ G, x < pw n) (k : Nat) : orTo G k < pw n := by
  induction k with
  | zero => exact Nat.two_pow_pos n
  | succ k ih =>
    rw [orTo]
    refine Nat.or_lt_two_pow ih ?_
    by_cases hk : k < G.length
    · rw [getD_of hk]; exact h _ (List.getElem_mem hk)
    · rw [List.getD_eq_getElem?_getD, List.getElem?_eq_none (by omega)]; exact Nat.two_pow_pos n
theorem orTo_disj {G : List Nat} (hp : G.Pairwise fun a b => a &&& b = 0) {k : Nat} (hk : k < G.length) : orTo G k &&& G[k] = 0 := by
  apply Nat.eq_of_testBit_eq
  intro t
  rw [Nat.testBit_and, Nat.zero_testBit]
  cases e1 : (orTo G k).testBit t with
  | false => rfl
  | true =>
    obtain ⟨j, h1, h2, h3⟩ := (orTo_bit (by omega)).1 e1
    have := (List.pairwise_iff_getElem.1 hp) j k h1 hk h2
    have hb := congrArg (fun x => x.testBit t) this
    simp only [Nat.testBit_and, Nat.zero_testBit, h3, Bool.true_and] at hb
    rw [hb]; rfl
theorem grp_all (N : Net) : orTo (grpG N N.n) (grpG N N.n).length = pw N.n - 1 := by
  apply Nat.eq_of_testBit_eq
  intro t
  rw [pw_testBit, Bool.eq_iff_iff, orTo_bit (Nat.le_refl _), decide_eq_true_eq]
  constructor
  · rintro ⟨j, h1, _, h3⟩
    obtain ⟨i, hi, hx, _⟩ := grpG_mem (List.getElem_mem h1)
    rw [hx] at h3
    apply Classical.byContradiction
    intro hc
    rw [testBit_high (grpN_lt N i hi) (by omega)] at h3; cases h3
  · intro ht
    obtain ⟨x, hx, hb⟩ := grpD_mem.1 (grpD_has N N.n t ht)
    obtain ⟨j, hj, rfl⟩ := List.getElem_of_mem hx
    exact ⟨j, hj, hj, hb⟩
/-- has one of the first m both switches? -/
def togTo (G : List Nat) (i k : Nat) : Nat → Bool
  | 0 => false
  | m + 1 => togTo G i k m || ((G.getD m 0).testBit i && (G.getD m 0).testBit k)
theorem togTo_iff {G : List Nat} {i k m : Nat} (hm : m ≤ G.length) : togTo G i k m = true ↔ ∃ j, ∃ h : j < G.length, j < m ∧ G[j].testBit i = true ∧ G[j].testBit k = true := by
  induction m with
  | zero => simp [togTo]
  | succ m ih =>
    rw [togTo, Bool.or_eq_true, Bool.and_eq_true, ih (by omega), getD_of (by omega)]
    constructor
    · rintro (⟨j, h1, h2, h3⟩ | h)
      · exact ⟨j, h1, by omega, h3⟩
      · exact ⟨m, by omega, by omega, h⟩
    · rintro ⟨j, h1, h2, h3⟩
      by_cases e : j = m
      · subst e; exact .inr h3
      · exact .inl ⟨j, h1, by omega, h3⟩
theorem tog_all {N : Net} {i k : Nat} (hi : i < N.n) (hk : k < N.n) : togTo (grpG N N.n) i k (grpG N N.n).length = (decide (k = i) || ((reachN N i).testBit k && (reachN N k).testBit i)) := by
  rw [Bool.eq_iff_iff, togTo_iff (Nat.le_refl _), Bool.or_eq_true, decide_eq_true_eq]
  have hmm : ((reachN N i).testBit k && (reachN N k).testBit i) = mutB N i k := rfl
  rw [hmm]
  constructor
  · rintro ⟨j, h1, _, h2, h3⟩
    obtain ⟨q, hq, hx, _⟩ := grpG_mem (List.getElem_mem h1)
    rw [hx] at h2 h3
    rcases (grpN_bit N q i).1 h2 with rfl | h2
    · rcases (grpN_bit N i k).1 h3 with rfl | h3
      · exact .inl rfl
      · exact .inr h3
    · rcases (grpN_bit N q k).1 h3 with rfl | h3
      · exact .inr (mutB_symm h2)
      · exact .inr (mutB_trans (mutB_symm h2) h3)
  · intro h
    obtain ⟨x, hx, hb⟩ := grpD_mem.1 (grpD_has N N.n i hi)
    obtain ⟨q, hq, rfl, _⟩ := grpG_mem hx
    obtain ⟨j, hj, hje⟩ := List.getElem_of_mem hx
    refine ⟨j, hj, hj, by rw [hje]; exact hb, ?_⟩
    rw [hje, grpN_bit]
    rcases h with rfl | h
    · exact (grpN_bit N q k).1 hb
    · rcases (grpN_bit N q i).1 hb with rfl | hb
      · exact .inr h
      · exact .inr (mutB_trans hb h)
theorem grpG_ne {N : Net} {i x : Nat} (h : x ∈ grpG N i) (hi : i ≤ N.n) : x ≠ 0 ∧ x < pw N.n := by
  obtain ⟨j, hj, rfl, _⟩ := grpG_mem h
  refine ⟨fun e => ?_, grpN_lt N j (by omega)⟩
  have := (grpN_bit N j j).2 (.inl rfl)
  rw [e, Nat.zero_testBit] at this; cases this
theorem reach_sub {N : Net} {i k : Nat} (h : (reachN N i).testBit k = true) : leB (reachN N k) (reachN N i) = true := by
  rw [leB_iff]
  intro t ht
  exact (reachN_bit _ _ _).2 (((reachN_bit _ _ _).1 h).trans ((reachN_bit _ _ _).1 ht))
end Go.Sw
