/- Plain words and lemmas: removing switches, and what a switch acts on in any number of steps. -/
import Derived.Test.YtkfagolmpbbckaaDoorCut
namespace Go.Sw
open Go

/-- a state with a switch of the value 0 put in -/
def putN (s i : Nat) : Nat := s % 2 ^ i ||| s / 2 ^ i * 2 ^ (i + 1)
theorem putN_testBit (s i j : Nat) : (putN s i).testBit j = if j < i then s.testBit j else if j = i then false else s.testBit (j - 1) := by
  unfold putN
  rw [Nat.testBit_or, Nat.testBit_mod_two_pow, Nat.mul_comm, Nat.testBit_two_pow_mul, Nat.testBit_div_two_pow]
  by_cases h : j < i
  · have : ¬ i + 1 ≤ j := by omega
    simp [h, this]
  · by_cases e : j = i
    · subst e
      simp only [show ¬ j + 1 ≤ j by omega, Nat.lt_irrefl, decide_false, Bool.false_and, Bool.or_false, if_false, if_true]
    · have : i + 1 ≤ j := by omega
      simp only [h, e, this, decide_false, decide_true, Bool.false_and, Bool.true_and, Bool.false_or, if_false]
      congr 1; omega
theorem put_le (s i : Nat) : s / 2 ^ i * 2 ^ (i + 1) ≤ 2 * s := by
  have := Nat.div_mul_le_self s (2 ^ i)
  rw [Nat.pow_succ, ← Nat.mul_assoc]; omega
theorem putN_lt (s i n : Nat) (hs : s < pw n) : putN s i < pw (n + 1) := by
  have h1 := put_le s i
  have h2 := Nat.mod_le s (2 ^ i)
  have h3 : pw (n + 1) = 2 * pw n := by unfold pw; rw [Nat.pow_succ]; omega
  unfold putN
  exact Nat.or_lt_two_pow (show s % 2 ^ i < pw (n + 1) by omega) (show s / 2 ^ i * 2 ^ (i + 1) < pw (n + 1) by omega)
theorem put_facts (s i : Nat) (hs : s < 16) (hi : i < 5) : bits .and .i64 (s : Int) ((2 : Int) ^ i - 1) = (s : Int) % 2 ^ i ∧ (0 : Int) ≤ (s : Int) / 2 ^ i * 2 ^ (i + 1) ∧ (s : Int) / 2 ^ i * 2 ^ (i + 1) < 32
    ∧ bits .or .i64 ((s : Int) % 2 ^ i) ((s : Int) / 2 ^ i * 2 ^ (i + 1)) = (putN s i : Nat) ∧ bits .or .i64 ((s : Int) % 2 ^ i) 0 = (s : Int) % 2 ^ i := by
  have h2 := put_le s i
  have e : ((s : Int) / 2 ^ i * 2 ^ (i + 1)) = ((s / 2 ^ i * 2 ^ (i + 1) : Nat) : Int) := by simp
  have e' : ((s : Int) % 2 ^ i) = ((s % 2 ^ i : Nat) : Int) := by simp
  have h3 := Nat.mod_le s (2 ^ i)
  refine ⟨and_mask s i (by omega) (by omega), by omega, by omega, ?_, ?_⟩
  · rw [e, e', i64_or _ _ (by omega) (by omega)]; rfl
  · rw [e', show (0 : Int) = ((0 : Nat) : Int) from rfl, i64_or _ _ (by omega) (by omega), Nat.or_zero]
/-- the switch i acts on the rule of k -/
def infB (N : Net) (i k : Nat) : Bool := sgU N.n (N.f k) i || sgD N.n (N.f k) i
theorem sg_zero (u d : Bool) : (sg u d == 0) = !(u || d) := by cases u <;> cases d <;> decide
theorem sg_pos (u d : Bool) : decide (0 < sg u d) = (u || d) := by cases u <;> cases d <;> decide
/-- a switch that can be removed -/
def freeB (N : Net) (i : Nat) : Bool := decide (1 < N.n) && !infB N i i
/-- a state with a removed switch put in -/
def liftN (N : Net) (i s : Nat) : Nat := setN (putN s i) i (N.f i (putN s i))
def liftB (w : ByteArray) (i s : Int) : Bool := swB w i && (freeB (netOf w) i.toNat && (decide (0 ≤ s) && decide (s < (pw ((netOf w).n - 1) : Nat))))
def liftI (w : ByteArray) (i s : Int) : Int := if liftB w i s then (liftN (netOf w) i.toNat s.toNat : Nat) else -1
theorem pw_half {n : Nat} (h : 1 ≤ n) : pw n = 2 * pw (n - 1) := by
  obtain ⟨m, rfl⟩ : ∃ m, n = m + 1 := ⟨n - 1, by omega⟩
  unfold pw; rw [Nat.pow_succ, Nat.add_sub_cancel]; omega
/-- the switches below k that can be removed -/
def freeL (N : Net) : Nat → List Int
  | 0 => []
  | k + 1 => if freeB N k then freeL N k ++ [(k : Int)] else freeL N k
theorem freeL_length (N : Net) (k : Nat) : (freeL N k).length ≤ k := by
  induction k with
  | zero => exact Nat.le_refl _
  | succ k ih =>
    unfold freeL
    split
    · rw [List.length_append]; simp; omega
    · omega
def remL (w : ByteArray) : List Int := if netOk w then freeL (netOf w) (netOf w).n else []
theorem remL_length (w : ByteArray) : (remL w).length ≤ 5 := by
  unfold remL
  split
  · rename_i h
    have := freeL_length (netOf w) (netOf w).n
    have := (netOf_ok h).2
    omega
  · simp

/-! ### what a switch acts on -/
/-- directly or by way of others -/
inductive Reach (N : Net) (i : Nat) : Nat → Prop
  | one {t : Nat} : t < N.n → infB N i t = true → Reach N i t
  | more {k t : Nat} : Reach N i k → t < N.n → infB N k t = true → Reach N i t
theorem Reach.lt {N : Net} {i t : Nat} (h : Reach N i t) : t < N.n := by cases h <;> assumption
theorem Reach.trans {N : Net} {i k t : Nat} (h : Reach N i k) (h2 : Reach N k t) : Reach N i t := by
  induction h2 with
  | one ht hb => exact .more h ht hb
  | more _ ht hb ih => exact .more ih ht hb
/-- the set of the switches that it acts on -/
noncomputable def reachN (N : Net) (i : Nat) : Nat := ofBits N.n fun t => @decide (Reach N i t) (Classical.propDecidable _)
theorem reachN_lt (N : Net) (i : Nat) : reachN N i < pw N.n := ofBits_lt _ _
theorem reachN_bit (N : Net) (i t : Nat) : (reachN N i).testBit t = true ↔ Reach N i t := by
  unfold reachN
  rw [ofBits_testBit, Bool.and_eq_true, decide_eq_true_eq]
  exact ⟨fun h => @of_decide_eq_true _ (Classical.propDecidable _) h.2, fun h => ⟨h.lt, @decide_eq_true _ (Classical.propDecidable _) h⟩⟩
/-- a set all of which is acted on -/
def within (N : Net) (i s : Nat) : Prop := s < pw N.n ∧ ∀ t, s.testBit t = true → Reach N i t
/-- a set that is told whole -/
theorem reach_eq {N : Net} {i s : Nat} (h : within N i s) (h1 : ∀ t, t < N.n → infB N i t = true → s.testBit t = true) (h2 : ∀ k t, k < N.n → t < N.n → s.testBit k = true → infB N k t = true → s.testBit t = true) : s = reachN N i := by
  apply Nat.eq_of_testBit_eq
  intro t
  rw [Bool.eq_iff_iff, reachN_bit]
  refine ⟨h.2 t, fun hr => ?_⟩
  induction hr with
  | one ht hb => exact h1 _ ht hb
  | more hr ht hb ih => exact h2 _ _ hr.lt ht ih hb
/-- the switches on which one acts directly -/
def actsN (N : Net) (i : Nat) : Nat := ofBits N.n (infB N i)
theorem actsN_lt (N : Net) (i : Nat) : actsN N i < pw N.n := ofBits_lt _ _
theorem actsN_bit (N : Net) (i t : Nat) : (actsN N i).testBit t = (decide (t < N.n) && infB N i t) := ofBits_testBit _ _ _
theorem ofBits_or {k : Nat} {p : Nat → Bool} (h : p k = true) : ofBits k p ||| 2 ^ k = ofBits (k + 1) p := by
  apply Nat.eq_of_testBit_eq
  intro j
  rw [Nat.testBit_or, Nat.testBit_two_pow, ofBits_testBit, ofBits_testBit]
  by_cases e : j = k
  · subst e; simp [h]
  · have h1 : ¬ k = j := fun h => e h.symm
    have h2 : (j < k + 1) = (j < k) := by simp; omega
    simp [h1, h2]
theorem ofBits_skip {k : Nat} {p : Nat → Bool} (h : p k = false) : ofBits (k + 1) p = ofBits k p := by
  show ofBits k p + (p k).toNat * 2 ^ k = ofBits k p
  rw [h]; simp
/-- one set lies in another -/
def subS (s t : Nat) : Prop := ∀ j, s.testBit j = true → t.testBit j = true
theorem subS_le {s t : Nat} (h : subS s t) : s ≤ t := by
  have e : s &&& t = s := by
    apply Nat.eq_of_testBit_eq
    intro j
    rw [Nat.testBit_and]
    cases hb : s.testBit j
    · rfl
    · rw [h j hb]; rfl
  rw [← e]; exact Nat.and_le_right
theorem subS_or (s t : Nat) : subS s (s ||| t) := fun j h => by rw [Nat.testBit_or, h]; rfl
theorem subS.trans {a b c : Nat} (h : subS a b) (k : subS b c) : subS a c := fun j hj => k j (h j hj)
/-- all on which the first k switches of s act lie in nx -/
def grownTo (N : Net) (s nx k : Nat) : Prop := ∀ k', k' < k → s.testBit k' = true → ∀ t, t < N.n → infB N k' t = true → nx.testBit t = true
theorem within_acts (N : Net) (i : Nat) : within N i (actsN N i) := ⟨actsN_lt N i, fun t h => by
  rw [actsN_bit, Bool.and_eq_true, decide_eq_true_eq] at h; exact .one h.1 h.2⟩
theorem within_or {N : Net} {i s t : Nat} (h : within N i s) (k : within N i t) : within N i (s ||| t) := ⟨Nat.or_lt_two_pow h.1 k.1, fun j hj => by
  rw [Nat.testBit_or, Bool.or_eq_true] at hj
  exact hj.elim (h.2 j) (k.2 j)⟩
theorem within_acts_of {N : Net} {i s k : Nat} (h : within N i s) (hb : s.testBit k = true) : within N i (actsN N k) := ⟨actsN_lt N k, fun t ht => by
  rw [actsN_bit, Bool.and_eq_true, decide_eq_true_eq] at ht; exact .more (h.2 k hb) ht.1 ht.2⟩
theorem within_one {N : Net} {i s k t : Nat} (h : within N i s) (ht : t < N.n) (hb : k = i ∨ s.testBit k = true) (hi : infB N k t = true) : within N i (s ||| 2 ^ t) :=
  ⟨Nat.or_lt_two_pow h.1 (Nat.pow_lt_pow_right (by omega) ht), fun j hj => by
    rw [Nat.testBit_or, Nat.testBit_two_pow, Bool.or_eq_true, decide_eq_true_eq] at hj
    rcases hj with hj | rfl
    · exact h.2 j hj
    · rcases hb with rfl | hb
      · exact .one ht hi
      · exact .more (h.2 k hb) ht hi⟩
theorem grownTo_next {N : Net} {s nx k : Nat} (h : grownTo N s nx k) : s.testBit k = true → grownTo N s (nx ||| actsN N k) (k + 1) := fun _ k' hk hb t ht hi => by
  rw [Nat.testBit_or]
  by_cases e : k' = k
  · subst e
    rw [actsN_bit, hi]; simp [ht]
  · rw [h k' (by omega) hb t ht hi]; rfl
theorem grownTo_skip {N : Net} {s nx k : Nat} (h : grownTo N s nx k) (hb : s.testBit k = false) : grownTo N s nx (k + 1) := fun k' hk hb' t ht hi => by
  by_cases e : k' = k
  · subst e; rw [hb] at hb'; cases hb'
  · exact h k' (by omega) hb' t ht hi
theorem reach_done {N : Net} {i s : Nat} (h : within N i s) (ha : subS (actsN N i) s) (hg : grownTo N s s N.n) : s = reachN N i :=
  reach_eq h (fun t ht hb => ha t (by rw [actsN_bit, hb]; simp [ht])) fun k t hk ht hb hi => hg k hk hb t ht hi
noncomputable def actsI (w : ByteArray) (i : Int) : Int := if swB w i then (reachN (netOf w) i.toNat : Nat) else -1

/-! ### groups -/
/-- two switches act on each other -/
noncomputable def mutB (N : Net) (i k : Nat) : Bool := (reachN N i).testBit k && (reachN N k).testBit i
theorem mutB_iff (N : Net) (i k : Nat) : mutB N i k = true ↔ Reach N i k ∧ Reach N k i := by
  unfold mutB; rw [Bool.and_eq_true, reachN_bit, reachN_bit]
theorem mutB_symm {N : Net} {i k : Nat} (h : mutB N i k = true) : mutB N k i = true := (mutB_iff _ _ _).2 ((mutB_iff _ _ _).1 h).symm
theorem mutB_trans {N : Net} {i k t : Nat} (h : mutB N i k = true) (g : mutB N k t = true) : mutB N i t = true := by
  rw [mutB_iff] at *
  exact ⟨h.1.trans g.1, g.2.trans h.2⟩
theorem mutB_lt {N : Net} {i k : Nat} (h : mutB N i k = true) : k < N.n := ((mutB_iff _ _ _).1 h).1.lt
/-- the group of a switch -/
noncomputable def grpN (N : Net) (i : Nat) : Nat := 2 ^ i ||| ofBits N.n (mutB N i)
theorem grpN_bit (N : Net) (i t : Nat) : (grpN N i).testBit t = true ↔ t = i ∨ mutB N i t = true := by
  unfold grpN
  rw [Nat.testBit_or, Nat.testBit_two_pow, ofBits_testBit, Bool.or_eq_true, Bool.and_eq_true, decide_eq_true_eq, decide_eq_true_eq]
  exact ⟨fun h => h.imp (fun e => e.symm) And.right, fun h => h.imp (fun e => e.symm) fun h => ⟨mutB_lt h, h⟩⟩
theorem grpN_lt (N : Net) (i : Nat) (hi : i < N.n) : grpN N i < pw N.n := Nat.or_lt_two_pow (Nat.pow_lt_pow_right (by omega) hi) (ofBits_lt _ _)
/-- the switches whose groups are told when i have been looked at, and the groups -/
noncomputable def grpD (N : Net) : Nat → Nat
  | 0 => 0
  | i + 1 => if (grpD N i).testBit i then grpD N i else grpD N i ||| grpN N i
noncomputable def grpL (N : Net) : Nat → List Int
  | 0 => []
  | i + 1 => if (grpD N i).testBit i then grpL N i else grpL N i ++ [((grpN N i : Nat) : Int)]
theorem grpD_lt (N : Net) (i : Nat) (hi : i ≤ N.n) : grpD N i < pw N.n := by
  induction i with
  | zero => show 0 < 2 ^ N.n; exact Nat.two_pow_pos _
  | succ i ih =>
    unfold grpD
    split
    · exact ih (by omega)
    · exact Nat.or_lt_two_pow (ih (by omega)) (grpN_lt N i (by omega))
theorem grpL_length (N : Net) (i : Nat) : (grpL N i).length ≤ i := by
  induction i with
  | zero => exact Nat.le_refl _
  | succ i ih =>
    unfold grpL
    split
    · omega
    · rw [List.length_append]; simp; omega
theorem grpD_has (N : Net) (i j : Nat) (h : j < i) : (grpD N i).testBit j = true := by
  induction i with
  | zero => omega
  | succ i ih =>
    unfold grpD
    by_cases e : j = i
    · subst e
      split
      · assumption
      · rw [Nat.testBit_or, (grpN_bit N j j).2 (.inl rfl), Bool.or_true]
    · split
      · exact ih (by omega)
      · rw [Nat.testBit_or, ih (by omega)]; rfl
theorem grpD_closed (N : Net) (i t u : Nat) (h : (grpD N i).testBit t = true) (hm : mutB N t u = true) : (grpD N i).testBit u = true := by
  induction i with
  | zero => simp [grpD] at h
  | succ i ih =>
    unfold grpD at h ⊢
    split at h
    · rename_i hb
      rw [if_pos hb]; exact ih h
    · rename_i hb
      rw [if_neg hb]
      rw [Nat.testBit_or, Bool.or_eq_true] at h ⊢
      rcases h with h | h
      · exact .inl (ih h)
      · rw [grpN_bit] at h
        rcases h with rfl | h
        · exact .inr ((grpN_bit _ _ _).2 (.inr hm))
        · exact .inr ((grpN_bit _ _ _).2 (.inr (mutB_trans h hm)))
theorem grp_new {N : Net} {i : Nat} (h : (grpD N i).testBit i = false) (j : Nat) (hj : j < i) : mutB N i j = false := by
  cases e : mutB N i j with
  | false => rfl
  | true =>
    have := grpD_closed N i j i (grpD_has N i j hj) (mutB_symm e)
    rw [h] at this; cases this
/-- as the reference gathers a group: from the next switch on -/
noncomputable def laterB (N : Net) (i k : Nat) : Bool := decide (i < k) && mutB N i k
theorem later_zero (N : Net) (i : Nat) : ofBits (i + 1) (laterB N i) = 0 := by
  apply Nat.eq_of_testBit_eq
  intro j
  rw [ofBits_testBit, Nat.zero_testBit]
  by_cases h : j < i + 1
  · have : ¬ i < j := by omega
    simp [laterB, this]
  · simp [h]
theorem grp_or (N : Net) (i j : Nat) : (2 ^ i ||| ofBits N.n (mutB N i)).testBit j = (grpN N i).testBit j := rfl
theorem grp_later {N : Net} {i : Nat} (h : (grpD N i).testBit i = false) : 2 ^ i ||| ofBits N.n (laterB N i) = grpN N i := by
  apply Nat.eq_of_testBit_eq
  intro j
  unfold grpN
  rw [Nat.testBit_or, Nat.testBit_or, Nat.testBit_two_pow, ofBits_testBit, ofBits_testBit]
  by_cases e : i = j
  · simp [e]
  · by_cases hlt : i < j
    · simp [laterB, hlt]
    · have := grp_new h j (by omega)
      simp [laterB, this]
theorem or_next {a k : Nat} {p : Nat → Bool} (h : p k = true) : (a ||| ofBits k p) ||| 2 ^ k = a ||| ofBits (k + 1) p := by
  rw [Nat.or_assoc, ofBits_or h]
theorem or_ofBits_lt {i k n : Nat} {p : Nat → Bool} (hi : i < n) (hk : k ≤ n) : 2 ^ i ||| ofBits k p < pw n :=
  Nat.or_lt_two_pow (Nat.pow_lt_pow_right (by omega) hi) (Nat.lt_of_lt_of_le (ofBits_lt k p) (Nat.pow_le_pow_right (by omega) hk))
noncomputable def groupsL (w : ByteArray) : List Int := if netOk w then grpL (netOf w) (netOf w).n else []
theorem groupsL_length (w : ByteArray) : (groupsL w).length ≤ 5 := by
  unfold groupsL
  split
  · rename_i h
    have := grpL_length (netOf w) (netOf w).n
    have := (netOf_ok h).2
    omega
  · simp
end Go.Sw
