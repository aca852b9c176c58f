/- Plain words: what two terms have in common. Plain facts: traps: the whole, those of one state, what two have in common; their order. -/
import Derived.Test.YtkfagolmpbbckaaGreatDoorP1
import Derived.Test.YtkfagolmpbbckaaGreatDoorP2
import Derived.Test.YtkfagolmpbbckaaGreatDoorPg
namespace Go.Sw
open Go

/-- what two terms have in common -/
def meetT (p q : Trm) : Trm := fun j => match p j with | none => q j | some b => some b
def meetTo (p q : Trm) (k : Nat) : Trm := fun j => if j < k then meetT p q j else p j
def okT (p q : Trm) : Nat → Bool
  | 0 => true
  | k + 1 => okT p q k && ((p k).isNone || ((q k).isNone || p k == q k))
theorem okT_iff (p q : Trm) (k : Nat) : okT p q k = true ↔ ∀ i, i < k → p i = none ∨ q i = none ∨ p i = q i := by
  induction k with
  | zero => simp [okT]
  | succ k ih =>
    rw [okT, Bool.and_eq_true, ih, Bool.or_eq_true, Bool.or_eq_true, Option.isNone_iff_eq_none, Option.isNone_iff_eq_none, beq_iff_eq]
    constructor
    · rintro ⟨h1, h2⟩ i hi
      by_cases e : i = k
      · subst e; exact h2
      · exact h1 i (by omega)
    · intro h; exact ⟨fun i hi => h i (by omega), h k (by omega)⟩
end Go.Sw
namespace Go.Sw
open Go

theorem hasP_congr {n : Nat} {p q : Trm} (h : ∀ i, i < n → p i = q i) (s : Nat) : hasP n p s = hasP n q s := by
  rw [Bool.eq_iff_iff, hasP_iff, hasP_iff]
  exact ⟨fun k i hi => by rw [← h i hi]; exact k i hi, fun k i hi => by rw [h i hi]; exact k i hi⟩
theorem trapP_congr {N : Net} {p q : Trm} (h : ∀ i, i < N.n → p i = q i) : trapP N p = trapP N q := by
  rw [Bool.eq_iff_iff, trapP_iff, trapP_iff]
  constructor
  · intro k s hs hp; rw [← hasP_congr h] at hp ⊢; exact k s hs hp
  · intro k s hs hp; rw [hasP_congr h] at hp ⊢; exact k s hs hp
theorem statesTo_congr {n : Nat} {p q : Trm} (h : ∀ i, i < n → p i = q i) (k : Nat) : statesTo n p k = statesTo n q k := by
  induction k with
  | zero => rfl
  | succ k ih => rw [statesTo, statesTo, hasP_congr h, ih]
theorem statesP_congr {n : Nat} {p q : Trm} (h : ∀ i, i < n → p i = q i) : statesP n p = statesP n q := statesTo_congr h _
theorem termT_inj {n : Nat} {p q : Trm} (h : termT n p = termT n q) : ∀ i, i < n → p i = q i := fun i hi => by
  rw [← ofT_term (n := n) (p := p) hi, h, ofT_term hi]
theorem less_asymm : ∀ (x y : List UInt8), Op.bytesLess x y = true → Op.bytesLess y x = false
  | [], [], h => by simp [Op.bytesLess] at h
  | [], b :: y, _ => by simp [Op.bytesLess]
  | a :: x, [], h => by simp [Op.bytesLess] at h
  | a :: x, b :: y, h => by
    simp only [Op.bytesLess, Bool.or_eq_true, Bool.and_eq_true, decide_eq_true_eq, beq_iff_eq] at h
    rw [Op.bytesLess, Bool.or_eq_false_iff]
    rcases h with h | ⟨rfl, h⟩
    · refine ⟨by simpa using UInt8.le_of_lt h, ?_⟩
      rw [Bool.and_eq_false_iff]
      left
      rw [beq_eq_false_iff_ne]
      intro e
      subst e
      exact absurd h (UInt8.lt_irrefl _)
    · refine ⟨by simp, ?_⟩
      rw [less_asymm x y h, Bool.and_false]
theorem ltT_leq {a b : ByteArray} (h : ltT a b) : (Op.bytesLess b.toList a.toList || b.toList == a.toList) = false := by
  have ea : a.toList = a.data.toList := ByteArray.toList_eq _
  have eb : b.toList = b.data.toList := ByteArray.toList_eq _
  rw [ea, eb, Bool.or_eq_false_iff]
  refine ⟨less_asymm _ _ h, ?_⟩
  rw [beq_eq_false_iff_ne]
  intro e
  unfold ltT at h
  rw [e, less_irrefl] at h; cases h
/-- terms that have a state each in common -/
theorem meet_has {n : Nat} {p q : Trm} (hok : okT p q n = true) (s : Nat) : hasP n (meetT p q) s = (hasP n p s && hasP n q s) := by
  rw [Bool.eq_iff_iff, Bool.and_eq_true, hasP_iff, hasP_iff, hasP_iff]
  have ho := (okT_iff p q n).1 hok
  constructor
  · intro h
    refine ⟨fun i hi => ?_, fun i hi => ?_⟩
    · have := h i hi
      unfold meetT at this
      cases hp : p i with
      | none => rfl
      | some b => rw [hp] at this; exact this
    · have := h i hi
      unfold meetT at this
      rcases ho i hi with h1 | h1 | h1
      · rw [h1] at this; exact this
      · rw [h1]; rfl
      · rw [← h1]
        cases hp : p i with
        | none => rfl
        | some b => rw [hp] at this; exact this
  · rintro ⟨h1, h2⟩ i hi
    unfold meetT
    cases hp : p i with
    | none => exact h2 i hi
    | some b => have := h1 i hi; rw [hp] at this; exact this
theorem meet_trap {N : Net} {p q : Trm} (hok : okT p q N.n = true) (hp : trapP N p = true) (hq : trapP N q = true) : trapP N (meetT p q) = true := by
  rw [trapP_iff]
  intro s hs h
  rw [meet_has hok, Bool.and_eq_true] at h ⊢
  exact ⟨(trapP_iff N p).1 hp s hs h.1, (trapP_iff N q).1 hq s hs h.2⟩
theorem star_trap (N : Net) : trapP N (fun _ => none) = true := by
  rw [trapP_iff]
  intro s _ _
  rw [hasP_iff]
  intro i _; rfl
theorem allP_head (n : Nat) : ∃ p r, allP n = p :: r ∧ ∀ i, i < n → p i = none := by
  induction n with
  | zero => exact ⟨_, [], rfl, fun i hi => by omega⟩
  | succ n ih =>
    obtain ⟨p, r, h, hp⟩ := ih
    rw [allP, h, List.flatMap_cons]
    refine ⟨updT p n none, _, rfl, fun i hi => ?_⟩
    unfold updT
    split
    · rfl
    · exact hp i (by omega)
theorem trapsP_head (N : Net) : ∃ p r, trapsP N = p :: r ∧ ∀ i, i < N.n → p i = none := by
  obtain ⟨p, r, h, hp⟩ := allP_head N.n
  refine ⟨p, r.filter (trapP N), ?_, hp⟩
  unfold trapsP
  rw [h, List.filter_cons, if_pos]
  rw [trapP_congr (q := fun _ => none) hp]
  exact star_trap N
theorem trapsP_mem {N : Net} {p : Trm} (h : p ∈ trapsP N) : trapP N p = true := (List.mem_filter.1 h).2
theorem trapsP_has {N : Net} {p : Trm} (h : trapP N p = true) : ∃ q, q ∈ trapsP N ∧ ∀ i, i < N.n → q i = p i := by
  obtain ⟨q, hq, he⟩ := allP_has N.n p
  exact ⟨q, List.mem_filter.2 ⟨hq, by rw [trapP_congr he]; exact h⟩, he⟩
/-- how many of the first k have one state -/
def oneTo (n : Nat) (ps : List Trm) : Nat → Nat
  | 0 => 0
  | k + 1 => oneTo n ps k + if (statesP n (ps.getD k fun _ => none)).length = 1 then 1 else 0
theorem oneTo_le (n : Nat) (ps : List Trm) (k : Nat) : oneTo n ps k ≤ k := by
  induction k with
  | zero => exact Nat.le_refl _
  | succ k ih => rw [oneTo]; split <;> omega
def oneB (n : Nat) (p : Trm) : Bool := decide ((statesP n p).length = 1)
theorem oneTo_filter (n : Nat) (ps : List Trm) (k : Nat) (hk : k ≤ ps.length) : oneTo n ps k = ((ps.take k).filter (oneB n)).length := by
  induction k with
  | zero => rfl
  | succ k ih =>
    have hlt : k < ps.length := by omega
    rw [oneTo, ih (by omega), List.take_add_one, List.getElem?_eq_getElem hlt, Option.toList_some, List.filter_append, List.length_append]
    congr 1
    have : ps.getD k (fun _ => none) = ps[k] := by rw [List.getD_eq_getElem?_getD, List.getElem?_eq_getElem hlt]; rfl
    rw [this]
    unfold oneB
    by_cases h : (statesP n ps[k]).length = 1
    · rw [if_pos h]; simp [List.filter_cons, h]
    · rw [if_neg h]; simp [List.filter_cons, h]
theorem nodup_map2 {l : List Trm} {f : Trm → ByteArray} {g : Trm → Nat} (hn : (l.map f).Nodup) (hg : ∀ x ∈ l, ∀ y ∈ l, g x = g y → f x = f y) : (l.map g).Nodup := by
  induction l with
  | nil => simp
  | cons a l ih =>
    rw [List.map_cons, List.nodup_cons] at hn
    rw [List.map_cons, List.nodup_cons]
    refine ⟨fun h => ?_, ih hn.2 fun x hx y hy => hg x (by simp [hx]) y (by simp [hy])⟩
    obtain ⟨b, hb, e⟩ := List.mem_map.1 h
    exact hn.1 (List.mem_map.2 ⟨b, hb, hg b (by simp [hb]) a (by simp) e⟩)
theorem point_states {n s : Nat} (hs : s < pw n) : statesP n (pointP s) = [s] := by
  have hm : ∀ x, x ∈ statesP n (pointP s) ↔ x = s := fun x => by
    rw [statesP_mem, hasP_iff]
    constructor
    · rintro ⟨hx, h⟩
      apply Nat.eq_of_testBit_eq
      intro i
      by_cases hi : i < n
      · have := h i hi
        unfold pointP fitB at this
        simpa using (beq_iff_eq.1 this).symm
      · rw [testBit_high hx (by omega), testBit_high hs (by omega)]
    · rintro rfl
      refine ⟨hs, fun i _ => ?_⟩
      unfold pointP fitB
      simp
  have hnd : (statesP n (pointP s)).Nodup := by
    have : ∀ k, statesTo n (pointP s) k = pickL (hasP n (pointP s)) k := fun k => by
      induction k with
      | zero => rfl
      | succ k ih => rw [statesTo, pickL, ih]
    unfold statesP
    rw [this]
    exact pickL_nodup _ _
  cases hc : statesP n (pointP s) with
  | nil => have := (hm s).2 rfl; rw [hc] at this; cases this
  | cons a r =>
    rw [hc] at hm hnd
    have ha : a = s := (hm a).1 (by simp)
    cases r with
    | nil => rw [ha]
    | cons b r =>
      have hb : b = s := (hm b).1 (by simp)
      rw [ha, hb] at hnd
      simp at hnd
theorem one_point {n : Nat} {p : Trm} {s : Nat} (h : statesP n p = [s]) : ∀ i, i < n → p i = some (s.testBit i) := by
  intro i hi
  have hm := (statesP_mem n p s).1 (by rw [h]; simp)
  cases hp : p i with
  | some b =>
    have := (hasP_iff n p s).1 hm.2 i hi
    rw [hp] at this
    unfold fitB at this
    rw [beq_iff_eq] at this
    rw [this]
  | none =>
    exfalso
    have hx : setN s i (!s.testBit i) ∈ statesP n p := by
      rw [statesP_mem]
      refine ⟨setN_lt _ _ _ _ hm.1 hi, ?_⟩
      rw [hasP_iff]
      intro j hj
      rw [setN_testBit]
      by_cases e : j = i
      · subst e; rw [hp]; rfl
      · rw [if_neg e]; exact (hasP_iff n p s).1 hm.2 j hj
    rw [h] at hx
    have he : setN s i (!s.testBit i) = s := by simpa using hx
    have := congrArg (fun x => x.testBit i) he
    simp only [setN_bit] at this
    revert this
    cases s.testBit i <;> simp
theorem one_count (N : Net) : oneTo N.n (trapsP N) (trapsP N).length = (pickL (fun s => stepN N s == s) (pw N.n)).length := by
  rw [oneTo_filter _ _ _ (Nat.le_refl _), List.take_length]
  obtain ⟨A, hA⟩ : ∃ A, (trapsP N).filter (oneB N.n) = A := ⟨_, rfl⟩
  rw [hA]
  have hAm : ∀ p ∈ A, trapP N p = true ∧ ∃ s, statesP N.n p = [s] := fun p hp => by
    rw [← hA] at hp
    obtain ⟨h1, h2⟩ := List.mem_filter.1 hp
    unfold oneB at h2
    rw [decide_eq_true_eq] at h2
    obtain ⟨s, hs⟩ := List.length_eq_one_iff.1 h2
    exact ⟨trapsP_mem h1, s, hs⟩
  have hAn : (A.map (termT N.n)).Nodup := by
    rw [← hA]
    have h1 : ((trapsP N).map (termT N.n)).Nodup := (trapsT_sub N).nodup (allL_nodup N.n)
    exact (((List.filter_sublist (p := oneB N.n) (l := trapsP N))).map (termT N.n)).nodup h1
  let g : Trm → Nat := fun p => (statesP N.n p).headD 0
  have hgn : (A.map g).Nodup := nodup_map2 hAn fun x hx y hy e => by
    obtain ⟨_, s, hs⟩ := hAm x hx
    obtain ⟨_, u, hu⟩ := hAm y hy
    have e2 : s = u := by
      have : (statesP N.n x).headD 0 = (statesP N.n y).headD 0 := e
      rw [hs, hu] at this; exact this
    subst e2
    exact termT_congr fun i hi => by rw [one_point hs i hi, one_point hu i hi]
  apply Nat.le_antisymm
  · have := len_le hgn (m := pickL (fun s => stepN N s == s) (pw N.n)) fun x hx => by
      obtain ⟨p, hp, rfl⟩ := List.mem_map.1 hx
      obtain ⟨ht, s, hs⟩ := hAm p hp
      have hgs : g p = s := by show (statesP N.n p).headD 0 = s; rw [hs]; rfl
      rw [hgs, pickL_mem]
      have hm := (statesP_mem N.n p s).1 (by rw [hs]; simp)
      refine ⟨hm.1, ?_⟩
      have := (statesP_mem N.n p (stepN N s)).2 ⟨stepN_lt _ _, (trapP_iff N p).1 ht s hm.1 hm.2⟩
      rw [hs] at this
      rw [beq_iff_eq]
      simpa using this
    rwa [List.length_map] at this
  · have := len_le (pickL_nodup (fun s => stepN N s == s) (pw N.n)) (m := A.map g) fun s hs => by
      obtain ⟨h1, h2⟩ := pickL_mem.1 hs
      rw [beq_iff_eq] at h2
      have ht : trapP N (pointP s) = true := by
        rw [trapP_iff]
        intro x hx hp
        have : x ∈ statesP N.n (pointP s) := (statesP_mem _ _ _).2 ⟨hx, hp⟩
        rw [point_states h1] at this
        have e : x = s := by simpa using this
        subst e
        rw [h2]; exact hp
      obtain ⟨q, hq, he⟩ := trapsP_has ht
      have hst : statesP N.n q = [s] := by rw [statesP_congr he]; exact point_states h1
      refine List.mem_map.2 ⟨q, ?_, by show (statesP N.n q).headD 0 = s; rw [hst]; rfl⟩
      rw [← hA]
      exact List.mem_filter.2 ⟨hq, by unfold oneB; rw [hst]; rfl⟩
    rwa [List.length_map] at this
end Go.Sw
