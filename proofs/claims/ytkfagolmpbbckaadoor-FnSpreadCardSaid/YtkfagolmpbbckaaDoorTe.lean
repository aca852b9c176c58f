/- Plain words and lemmas: terms, their states, traps, the least term of some states. -/
import Derived.Test.YtkfagolmpbbckaaDoorTu
namespace Go.Sw
open Go

/-- a term: what it says of each switch -/
abbrev Trm := Nat → Option Bool
def letterT : Option Bool → UInt8
  | none => 42
  | some false => 48
  | some true => 49
def termT (n : Nat) (p : Trm) : ByteArray := bs ((List.range n).map fun i => letterT (p i))
theorem termT_size (n : Nat) (p : Trm) : (termT n p).size = n := by simp [termT]
theorem termT_get (n : Nat) (p : Trm) (i : Nat) (h : i < n) : (termT n p)[i]'(by rw [termT_size]; exact h) = letterT (p i) := by
  rw [← byte_at _ i (by rw [termT_size]; exact h)]
  simp [termT]
theorem termT_congr {n : Nat} {p q : Trm} (h : ∀ i, i < n → p i = q i) : termT n p = termT n q := by
  unfold termT
  congr 1
  exact List.map_congr_left fun i hi => by rw [h i (List.mem_range.1 hi)]
def isLetter (b : UInt8) : Bool := b == 42 || (b == 48 || b == 49)
def ofLetter (b : UInt8) : Option Bool := if b = 48 then some false else if b = 49 then some true else none
/-- a text is a term of n switches -/
def termB (t : ByteArray) (n : Nat) : Bool := decide (t.size = n) && t.data.toList.all isLetter
def ofT (t : ByteArray) : Trm := fun i => ofLetter (t.data.toList.getD i 42)
theorem letter_of {b : UInt8} (h : isLetter b = true) : letterT (ofLetter b) = b := by
  simp only [isLetter, Bool.or_eq_true, beq_iff_eq] at h
  rcases h with rfl | rfl | rfl <;> rfl
theorem termT_of {t : ByteArray} {n : Nat} (h : termB t n = true) : termT n (ofT t) = t := by
  simp only [termB, Bool.and_eq_true, decide_eq_true_eq] at h
  obtain ⟨h1, h2⟩ := h
  apply ba_ext
  apply List.ext_getElem
  · have : t.data.toList.length = t.size := by simp
    simp [termT]; omega
  · intro i hi1 hi2
    have hlt : i < n := by simpa [termT] using hi1
    have hi : i < t.size := by omega
    have hb : isLetter t[i] = true := by
      have := List.all_eq_true.1 h2 _ (List.getElem_mem hi2)
      rwa [byte_at t i hi] at this
    have e : ofT t i = ofLetter t[i] := by
      unfold ofT
      rw [List.getD_eq_getElem?_getD, List.getElem?_eq_getElem hi2, Option.getD_some, byte_at t i hi]
    simp only [termT, bs_data, List.getElem_map, List.getElem_range, e]
    rw [letter_of hb, byte_at t i hi]
/-- a state is one of a term -/
def fitB (o : Option Bool) (b : Bool) : Bool := match o with | none => true | some c => c == b
def hasTo (p : Trm) (s : Nat) : Nat → Bool
  | 0 => true
  | k + 1 => hasTo p s k && fitB (p k) (s.testBit k)
def hasP (n : Nat) (p : Trm) (s : Nat) : Bool := hasTo p s n
theorem hasTo_iff (p : Trm) (s k : Nat) : hasTo p s k = true ↔ ∀ i, i < k → fitB (p i) (s.testBit i) = true := by
  induction k with
  | zero => simp [hasTo]
  | succ k ih =>
    rw [hasTo, Bool.and_eq_true, ih]
    constructor
    · rintro ⟨h1, h2⟩ i hi
      by_cases e : i = k
      · subst e; exact h2
      · exact h1 i (by omega)
    · exact fun h => ⟨fun i hi => h i (by omega), h k (by omega)⟩
theorem hasP_iff (n : Nat) (p : Trm) (s : Nat) : hasP n p s = true ↔ ∀ i, i < n → fitB (p i) (s.testBit i) = true := hasTo_iff p s n
theorem hasP_bad {n : Nat} {p : Trm} {s i : Nat} (hi : i < n) (h : fitB (p i) (s.testBit i) = false) : hasP n p s = false := by
  cases e : hasP n p s with
  | false => rfl
  | true => rw [(hasP_iff n p s).1 e i hi] at h; cases h
/-- the states of a term below k -/
def statesTo (n : Nat) (p : Trm) : Nat → List Nat
  | 0 => []
  | k + 1 => if hasP n p k then statesTo n p k ++ [k] else statesTo n p k
def statesP (n : Nat) (p : Trm) : List Nat := statesTo n p (pw n)
theorem statesTo_mem (n : Nat) (p : Trm) (k s : Nat) : s ∈ statesTo n p k ↔ s < k ∧ hasP n p s = true := by
  induction k with
  | zero => simp [statesTo]
  | succ k ih =>
    rw [statesTo]
    by_cases h : hasP n p k = true
    · rw [if_pos h, List.mem_append, ih, List.mem_singleton]
      constructor
      · rintro (⟨h1, h2⟩ | rfl)
        · exact ⟨by omega, h2⟩
        · exact ⟨by omega, h⟩
      · rintro ⟨h1, h2⟩
        by_cases e : s = k
        · exact .inr e
        · exact .inl ⟨by omega, h2⟩
    · rw [if_neg h, ih]
      constructor
      · rintro ⟨h1, h2⟩; exact ⟨by omega, h2⟩
      · rintro ⟨h1, h2⟩
        refine ⟨?_, h2⟩
        by_cases e : s = k
        · subst e; exact absurd h2 h
        · omega
theorem statesP_mem (n : Nat) (p : Trm) (s : Nat) : s ∈ statesP n p ↔ s < pw n ∧ hasP n p s = true := statesTo_mem n p (pw n) s
theorem statesTo_length (n : Nat) (p : Trm) (k : Nat) : (statesTo n p k).length ≤ k := by
  induction k with
  | zero => exact Nat.le_refl _
  | succ k ih =>
    rw [statesTo]
    split
    · rw [List.length_append]; simp; omega
    · omega
/-- each term has a state -/
def someS (n : Nat) (p : Trm) : Nat := ofBits n fun i => p i == some true
theorem someS_has (n : Nat) (p : Trm) : hasP n p (someS n p) = true := by
  rw [hasP_iff]
  intro i hi
  unfold someS
  rw [ofBits_testBit, decide_eq_true hi, Bool.true_and]
  cases h : p i with
  | none => rfl
  | some c => cases c <;> rfl
theorem statesP_ne (n : Nat) (p : Trm) : statesP n p ≠ [] := by
  intro h
  have := (statesP_mem n p (someS n p)).2 ⟨ofBits_lt _ _, someS_has n p⟩
  rw [h] at this; cases this
/-- a term that no step leaves -/
def trapTo (N : Net) (p : Trm) : List Nat → Bool
  | [] => true
  | s :: r => hasP N.n p (stepN N s) && trapTo N p r
def trapP (N : Net) (p : Trm) : Bool := (statesP N.n p).all fun s => hasP N.n p (stepN N s)
theorem trapP_iff (N : Net) (p : Trm) : trapP N p = true ↔ ∀ s, s < pw N.n → hasP N.n p s = true → hasP N.n p (stepN N s) = true := by
  unfold trapP
  rw [List.all_eq_true]
  exact ⟨fun h s h1 h2 => h s ((statesP_mem _ _ _).2 ⟨h1, h2⟩), fun h s hs => h s ((statesP_mem _ _ _).1 hs).1 ((statesP_mem _ _ _).1 hs).2⟩
/-- the least term of some states -/
def pointP (s : Nat) : Trm := fun i => some (s.testBit i)
def joinP (p : Trm) (s : Nat) : Trm := fun i => if fitB (p i) (s.testBit i) then p i else none
def hullP : List Nat → Trm
  | [] => fun _ => none
  | s :: r => r.foldl joinP (pointP s)
theorem joinP_self (s : Nat) : joinP (pointP s) s = pointP s := by
  funext i
  unfold joinP pointP
  cases s.testBit i <;> rfl
theorem fold_join (l : List Nat) (p : Trm) (i : Nat) : (l.foldl joinP p) i = if l.all (fun s => fitB (p i) (s.testBit i)) then p i else none := by
  induction l generalizing p with
  | nil => rfl
  | cons s r ih =>
    rw [List.foldl_cons, ih, List.all_cons]
    unfold joinP
    cases h : fitB (p i) (s.testBit i)
    · simp
    · simp
theorem hullP_cons (s : Nat) (r : List Nat) (i : Nat) : hullP (s :: r) i = if r.all (fun t => t.testBit i == s.testBit i) then some (s.testBit i) else none := by
  show (r.foldl joinP (pointP s)) i = _
  rw [fold_join]
  have : (fun t : Nat => fitB (pointP s i) (t.testBit i)) = fun t => t.testBit i == s.testBit i := by
    funext t
    show (s.testBit i == t.testBit i) = _
    rw [Bool.beq_comm]
  rw [this]; rfl
/-- what a term comes to next, if it is no trap -/
def nextP (N : Net) (p : Trm) : Trm := hullP (statesP N.n p ++ (statesP N.n p).map (stepN N))
def starN (n : Nat) (p : Trm) : Nat := ((List.range n).filter fun i => (p i).isNone).length
theorem starN_le (n : Nat) (p : Trm) : starN n p ≤ n := by
  have := List.length_filter_le (fun i => (p i).isNone) (List.range n)
  simpa [starN] using this
theorem hull_some {l : List Nat} {i : Nat} {b : Bool} (h : hullP l i = some b) : ∀ s ∈ l, s.testBit i = b := by
  cases l with
  | nil => simp [hullP] at h
  | cons a r =>
    rw [hullP_cons] at h
    split at h
    · rename_i hr
      have hb : a.testBit i = b := by simpa using h
      intro s hs
      rcases List.mem_cons.1 hs with rfl | hs
      · exact hb
      · have := List.all_eq_true.1 hr s hs
        rw [beq_iff_eq] at this
        rw [this, hb]
    · cases h
theorem hull_of {l : List Nat} {i : Nat} {b : Bool} (hne : l ≠ []) (h : ∀ s ∈ l, s.testBit i = b) : hullP l i = some b := by
  cases l with
  | nil => exact absurd rfl hne
  | cons a r =>
    rw [hullP_cons, h a (List.mem_cons_self ..), if_pos]
    rw [List.all_eq_true]
    intro s hs
    rw [h s (List.mem_cons_of_mem _ hs)]; simp
theorem hull_has {l : List Nat} {n s : Nat} (hs : s ∈ l) : hasP n (hullP l) s = true := by
  rw [hasP_iff]
  intro i _
  cases h : hullP l i with
  | none => rfl
  | some b =>
    have := hull_some h s hs
    show (b == s.testBit i) = true
    rw [this]; simp
theorem nextP_some {N : Net} {p : Trm} {i : Nat} {b : Bool} (hi : i < N.n) (h : nextP N p i = some b) : p i = some b := by
  have hs := hull_some h
  cases hp : p i with
  | some c =>
    have := hs _ (List.mem_append_left _ ((statesP_mem _ _ _).2 ⟨ofBits_lt _ _, someS_has N.n p⟩))
    unfold someS at this
    rw [ofBits_testBit, decide_eq_true hi, Bool.true_and, hp] at this
    rw [← this]
    cases c <;> rfl
  | none =>
    -- both values occur
    have h1 : setN (someS N.n p) i true ∈ statesP N.n p := (statesP_mem _ _ _).2 ⟨setN_lt _ _ _ _ (ofBits_lt _ _) hi, (hasP_iff _ _ _).2 fun j hj => by
      rw [setN_testBit]
      by_cases e : j = i
      · subst e; rw [hp]; rfl
      · rw [if_neg e]; exact (hasP_iff _ _ _).1 (someS_has N.n p) j hj⟩
    have h2 : setN (someS N.n p) i false ∈ statesP N.n p := (statesP_mem _ _ _).2 ⟨setN_lt _ _ _ _ (ofBits_lt _ _) hi, (hasP_iff _ _ _).2 fun j hj => by
      rw [setN_testBit]
      by_cases e : j = i
      · subst e; rw [hp]; rfl
      · rw [if_neg e]; exact (hasP_iff _ _ _).1 (someS_has N.n p) j hj⟩
    have a1 := hs _ (List.mem_append_left _ h1)
    have a2 := hs _ (List.mem_append_left _ h2)
    rw [setN_bit] at a1 a2
    rw [← a1] at a2; cases a2
theorem nextP_grows {N : Net} {p : Trm} (h : trapP N p = false) : ∃ i, i < N.n ∧ (p i).isSome = true ∧ nextP N p i = none := by
  have : ¬ ∀ s, s < pw N.n → hasP N.n p s = true → hasP N.n p (stepN N s) = true := fun g => by rw [(trapP_iff N p).2 g] at h; cases h
  obtain ⟨s, hs⟩ := Classical.not_forall.1 this
  obtain ⟨h1, hs⟩ := Classical.not_imp.1 hs
  obtain ⟨h2, hs⟩ := Classical.not_imp.1 hs
  rw [hasP_iff] at hs
  obtain ⟨i, hs⟩ := Classical.not_forall.1 hs
  obtain ⟨hi, hs⟩ := Classical.not_imp.1 hs
  refine ⟨i, hi, ?_, ?_⟩
  · cases hp : p i with
    | none => rw [hp] at hs; exact absurd rfl hs
    | some b => rfl
  · cases hn : nextP N p i with
    | none => rfl
    | some b =>
      have hp := nextP_some hi hn
      have a2 := hull_some hn _ (List.mem_append_right _ (List.mem_map.2 ⟨s, (statesP_mem _ _ _).2 ⟨h1, h2⟩, rfl⟩))
      rw [hp, a2] at hs
      exact absurd (by show (b == b) = true; simp) hs
theorem filter_lt {l : List Nat} {p q : Nat → Bool} (h : ∀ i ∈ l, p i = true → q i = true) {i : Nat} (hi : i ∈ l) (h1 : p i = false) (h2 : q i = true) : (l.filter p).length < (l.filter q).length := by
  induction l with
  | nil => cases hi
  | cons a r ih =>
    have hle : (r.filter p).length ≤ (r.filter q).length := by
      have h' : ∀ j ∈ r, p j = true → q j = true := fun j hj => h j (List.mem_cons_of_mem _ hj)
      clear ih h hi
      induction r with
      | nil => exact Nat.le_refl _
      | cons b r ih =>
        have := ih fun j hj => h' j (List.mem_cons_of_mem _ hj)
        rw [List.filter_cons, List.filter_cons]
        by_cases hb : p b = true
        · rw [if_pos hb, if_pos (h' b (List.mem_cons_self ..) hb)]; simp; omega
        · rw [if_neg hb]; split <;> simp <;> omega
    rw [List.filter_cons, List.filter_cons]
    rcases List.mem_cons.1 hi with e | hi
    · subst e
      rw [h1, h2]; simp; omega
    · have := ih (fun j hj => h j (List.mem_cons_of_mem _ hj)) hi
      by_cases ha : p a = true
      · rw [if_pos ha, if_pos (h a (List.mem_cons_self ..) ha)]; simp; omega
      · rw [if_neg ha]; split <;> simp <;> omega
theorem starN_grows {N : Net} {p : Trm} (h : trapP N p = false) : starN N.n p < starN N.n (nextP N p) := by
  obtain ⟨i, hi, h1, h2⟩ := nextP_grows h
  refine filter_lt (fun j hj hp => ?_) (List.mem_range.2 hi) (by cases hp : p i <;> simp_all) (by rw [h2]; rfl)
  cases hn : nextP N p j with
  | none => rfl
  | some b => rw [nextP_some (List.mem_range.1 hj) hn] at hp; cases hp
/-- the least trap that has a term -/
def closeP : Nat → Net → Trm → Trm
  | 0, _, p => p
  | f + 1, N, p => if trapP N p then p else closeP f N (nextP N p)
theorem closeP_step {N : Net} {p : Trm} {f : Nat} (h : trapP N p = false) : closeP (f + 1) N p = closeP f N (nextP N p) := by rw [closeP, h]; rfl
theorem closeP_done {N : Net} {p : Trm} {f : Nat} (h : trapP N p = true) : closeP f N p = p := by cases f <;> simp [closeP, h]
/-- what TrapOf says -/
def termOk (w t : ByteArray) : Bool := netOk w && termB t (netOf w).n
def trapT (w t : ByteArray) : ByteArray := if termOk w t then termT (netOf w).n (closeP ((netOf w).n + 1) (netOf w) (ofT t)) else ByteArray.empty
end Go.Sw
