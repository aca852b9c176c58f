/- Plain words and lemmas: where steps lead to, states that rise or fall in a monotone network, joins. -/
import Derived.Test.YtkfagolmpbbckaaDoorCut
namespace Go.Sw
open Go

/-- so many steps of all switches -/
def iterN (N : Net) : Nat → Nat → Nat
  | 0, s => s
  | k + 1, s => iterN N k (stepN N s)
theorem iterN_succ (N : Net) (k s : Nat) : iterN N (k + 1) s = stepN N (iterN N k s) := by
  induction k generalizing s with
  | zero => rfl
  | succ k ih => exact ih (stepN N s)
theorem iterN_add (N : Net) (a b s : Nat) : iterN N (a + b) s = iterN N a (iterN N b s) := by
  induction a with
  | zero => simp [iterN]
  | succ a ih => rw [show a + 1 + b = (a + b) + 1 by omega, iterN_succ, iterN_succ, ih]
theorem iterN_fix (N : Net) (k t : Nat) (h : stepN N t = t) : iterN N k t = t := by
  induction k with
  | zero => rfl
  | succ k ih => rw [iterN, h, ih]
/-- where 32 steps lead to -/
def limN (N : Net) (s : Nat) : Nat := iterN N 32 s
theorem limN_of (N : Net) (s t k : Nat) (hk : k ≤ 32) (h : iterN N k s = t) (hf : stepN N t = t) : limN N s = t := by
  unfold limN
  rw [show 32 = (32 - k) + k by omega, iterN_add, h, iterN_fix N _ _ hf]
theorem iterN_lt (N : Net) (k s : Nat) (hs : s < pw N.n) : iterN N k s < pw N.n := by
  induction k generalizing s with
  | zero => exact hs
  | succ k ih => exact ih _ (stepN_lt N s)

theorem leB_iff (s t : Nat) : leB s t = true ↔ ∀ i, s.testBit i = true → t.testBit i = true := by
  unfold leB
  simp only [beq_iff_eq]
  constructor
  · intro h i hi
    rw [← h, Nat.testBit_and, Bool.and_eq_true] at hi
    exact hi.2
  · intro h
    apply Nat.eq_of_testBit_eq
    intro i
    rw [Nat.testBit_and]
    cases e : s.testBit i
    · rfl
    · rw [h i e]; rfl
theorem leB_le {s t : Nat} (h : leB s t = true) : s ≤ t := by
  have : s &&& t = s := by simpa [leB] using h
  rw [← this]; exact Nat.and_le_right
theorem leB_refl (s : Nat) : leB s s = true := (leB_iff _ _).2 fun _ h => h
theorem leB_trans {a b c : Nat} (h1 : leB a b = true) (h2 : leB b c = true) : leB a c = true :=
  (leB_iff _ _).2 fun i h => (leB_iff _ _).1 h2 i ((leB_iff _ _).1 h1 i h)
theorem leB_antisymm {a b : Nat} (h1 : leB a b = true) (h2 : leB b a = true) : a = b := Nat.le_antisymm (leB_le h1) (leB_le h2)
theorem or_testBit_two (s k j : Nat) : (s ||| 2 ^ k).testBit j = if j = k then true else s.testBit j := by
  rw [Nat.testBit_or, Nat.testBit_two_pow]
  by_cases e : j = k
  · subst e; simp
  · have : ¬ k = j := fun h => e h.symm
    simp [e, this]
theorem anyB_false {p : Nat → Bool} {k : Nat} (h : anyB p k = false) (s : Nat) (hs : s < k) : p s = false := by
  cases e : p s with
  | false => rfl
  | true =>
    have := (anyB_iff p k).2 ⟨s, hs, e⟩
    rw [h] at this; exact absurd this (by decide)
/-- a rule in which no switch acts by minus keeps the order -/
theorem rule_mono {n : Nat} {f : Nat → Bool} (h : ∀ j, j < n → sgD n f j = false) {s t : Nat} (ht : t < pw n) (hle : leB s t = true) (hs : f s = true) : f t = true := by
  have hsn : s < pw n := Nat.lt_of_le_of_lt (leB_le hle) ht
  have key : ∀ k, k ≤ n → f (s ||| t % 2 ^ k) = true := by
    intro k hk
    induction k with
    | zero => simpa [Nat.mod_one] using hs
    | succ k ih =>
      have ih := ih (by omega)
      by_cases hb : (s ||| t % 2 ^ k).testBit k = false ∧ t.testBit k = true
      · have e : s ||| t % 2 ^ (k + 1) = (s ||| t % 2 ^ k) ||| 2 ^ k := by
          apply Nat.eq_of_testBit_eq
          intro j
          rw [or_testBit_two, Nat.testBit_or, Nat.testBit_or, Nat.testBit_mod_two_pow, Nat.testBit_mod_two_pow]
          by_cases ej : j = k
          · subst ej; simp [hb.2]
          · have : (j < k + 1) = (j < k) := by simp; omega
            simp [ej, this]
        have hlt : s ||| t % 2 ^ k < pw n := Nat.or_lt_two_pow hsn (Nat.lt_of_le_of_lt (Nat.mod_le _ _) ht)
        have hd := anyB_false (h k (by omega)) _ hlt
        unfold downB at hd
        rw [hb.1, ih] at hd
        rw [e]
        simpa using hd
      · have e : s ||| t % 2 ^ (k + 1) = s ||| t % 2 ^ k := by
          apply Nat.eq_of_testBit_eq
          intro j
          rw [Nat.testBit_or, Nat.testBit_or, Nat.testBit_mod_two_pow, Nat.testBit_mod_two_pow]
          by_cases ej : j = k
          · subst ej
            rw [Nat.testBit_or, Nat.testBit_mod_two_pow] at hb
            simp at hb
            cases e1 : s.testBit j
            · simp [hb e1]
            · simp
          · have : (j < k + 1) = (j < k) := by simp; omega
            simp [this]
        rw [e]; exact ih
  have := key n (Nat.le_refl _)
  have e : s ||| t % 2 ^ n = t := by
    rw [Nat.mod_eq_of_lt (show t < 2 ^ n from ht)]
    apply Nat.eq_of_testBit_eq
    intro j
    rw [Nat.testBit_or]
    cases e : s.testBit j
    · rfl
    · rw [(leB_iff _ _).1 hle j e]; rfl
  rwa [e] at this
theorem step_mono {N : Net} (h : monoN N = true) {s t : Nat} (ht : t < pw N.n) (hle : leB s t = true) : leB (stepN N s) (stepN N t) = true := by
  rw [leB_iff]
  intro i hi
  rw [stepN_testBit, Bool.and_eq_true, decide_eq_true_eq] at hi ⊢
  exact ⟨hi.1, rule_mono (fun j hj => (monoN_iff N).1 h j i hj hi.1) ht hle hi.2⟩
/-- a state that rises: how far it can -/
def riseP (N : Net) (s : Nat) : Prop := s < pw N.n ∧ leB s (stepN N s) = true
def fallP (N : Net) (s : Nat) : Prop := s < pw N.n ∧ leB (stepN N s) s = true
theorem riseP_step {N : Net} (h : monoN N = true) {s : Nat} (hs : riseP N s) (hne : stepN N s ≠ s) : riseP N (stepN N s) ∧ 32 - stepN N s + 1 ≤ 32 - s ∨ 5 < N.n := by
  by_cases h5 : N.n ≤ 5
  · have hp := pw_le h5
    have hlt := stepN_lt N s
    refine .inl ⟨⟨hlt, step_mono h hlt hs.2⟩, ?_⟩
    have := leB_le hs.2
    omega
  · exact .inr (by omega)
theorem fallP_step {N : Net} (h : monoN N = true) {s : Nat} (hs : fallP N s) (hne : stepN N s ≠ s) : fallP N (stepN N s) ∧ stepN N s + 1 ≤ s := by
  have := leB_le hs.2
  exact ⟨⟨stepN_lt N s, step_mono h hs.1 hs.2⟩, by omega⟩
/-- states from which steps come to rest in so many steps -/
def restP (N : Net) (m s : Nat) : Prop := s < pw N.n ∧ stepN N (iterN N m s) = iterN N m s
theorem rise_rest {N : Net} (h : monoN N = true) (h5 : N.n ≤ 5) {s : Nat} (hs : riseP N s) : restP N 32 s := by
  refine ⟨hs.1, ?_⟩
  have key : ∀ m s, riseP N s → 32 - s ≤ m → stepN N (iterN N m s) = iterN N m s := by
    intro m
    induction m with
    | zero => intro s hs hm; have := pw_le h5; have := hs.1; omega
    | succ m ih =>
      intro s hs hm
      by_cases e : stepN N s = s
      · rw [iterN_fix N _ _ e, e]
      · obtain h1 | h1 := riseP_step h hs e
        · exact ih _ h1.1 (by omega)
        · omega
  exact key 32 s hs (by omega)
theorem fall_rest {N : Net} (h : monoN N = true) (h5 : N.n ≤ 5) {s : Nat} (hs : fallP N s) : restP N 32 s := by
  refine ⟨hs.1, ?_⟩
  have key : ∀ m s, fallP N s → s ≤ m → stepN N (iterN N m s) = iterN N m s := by
    intro m
    induction m with
    | zero =>
      intro s hs hm
      by_cases e : stepN N s = s
      · exact e
      · have := (fallP_step h hs e).2; omega
    | succ m ih =>
      intro s hs hm
      by_cases e : stepN N s = s
      · rw [iterN_fix N _ _ e, e]
      · have := fallP_step h hs e
        exact ih _ this.1 (by omega)
  exact key 32 s hs (by have := hs.1; have := pw_le h5; omega)
theorem restP_step {N : Net} {m s : Nat} (h : restP N m s) (hne : stepN N s ≠ s) : 0 < m ∧ restP N (m - 1) (stepN N s) := by
  rcases m with _ | m
  · exact absurd h.2 hne
  · exact ⟨by omega, stepN_lt N s, h.2⟩

/-- what RiseFrom and its like say -/
def riseI (w : ByteArray) (x : Int) : Int := if monoB w && riseB w x then (limN (netOf w) x.toNat : Nat) else -1
def fallI (w : ByteArray) (x : Int) : Int := if monoB w && fallB w x then (limN (netOf w) x.toNat : Nat) else -1
def greatI (w : ByteArray) : Int := if netOk w then fallI w ((pw (netOf w).n - 1 : Nat)) else -1
def bothB (w : ByteArray) (x y : Int) : Bool := restI w x == 0 && restI w y == 0
def joinI (w : ByteArray) (x y : Int) : Int := if bothB w x y then riseI w ((x.toNat ||| y.toNat : Nat)) else -1
def meetI (w : ByteArray) (x y : Int) : Int := if bothB w x y then fallI w ((x.toNat &&& y.toNat : Nat)) else -1
theorem riseB_P {w : ByteArray} {x : Nat} (h : riseB w x = true) : riseP (netOf w) x := by
  simp only [riseB, Bool.and_eq_true, Int.toNat_natCast] at h
  have := (stB_yes h.1).2.2
  exact ⟨by omega, h.2⟩
theorem fallB_P {w : ByteArray} {x : Nat} (h : fallB w x = true) : fallP (netOf w) x := by
  simp only [fallB, Bool.and_eq_true, Int.toNat_natCast] at h
  have := (stB_yes h.1).2.2
  exact ⟨by omega, h.2⟩
theorem rest_zero {w : ByteArray} {x : Int} (h : restI w x = 0) : stB w x = true := by
  unfold restI at h
  cases e : stB w x
  · rw [e, if_neg (by decide)] at h; exact absurd h (by decide)
  · rfl
end Go.Sw
