/- Plain words and lemmas: all terms in order, traps, the least and the greatest of them. -/
import Derived.Test.YtkfagolmpbbckaaDoorTe
import GoSem.Op.String
namespace Go.Sw
open Go

def updT (p : Trm) (n : Nat) (o : Option Bool) : Trm := fun i => if i = n then o else p i
def threeP (n : Nat) (p : Trm) : List Trm := [updT p n none, updT p n (some false), updT p n (some true)]
/-- all terms of n switches, in order -/
def allP : Nat → List Trm
  | 0 => [fun _ => none]
  | n + 1 => (allP n).flatMap (threeP n)
def allL (n : Nat) : List ByteArray := (allP n).map (termT n)
def three (t : ByteArray) : List ByteArray := [t ++ ⟨#[42]⟩, t ++ ⟨#[48]⟩, t ++ ⟨#[49]⟩]
theorem termT_succ (n : Nat) (p : Trm) : termT (n + 1) p = termT n p ++ bs [letterT (p n)] := by
  apply ba_ext
  simp [termT, List.range_succ, ByteArray.data_append, bs_data]
theorem termT_upd (n : Nat) (p : Trm) (o : Option Bool) : termT (n + 1) (updT p n o) = termT n p ++ bs [letterT o] := by
  rw [termT_succ]
  congr 1
  · exact termT_congr fun i hi => by unfold updT; rw [if_neg (by omega)]
  · unfold updT; rw [if_pos rfl]
theorem allL_succ (n : Nat) : allL (n + 1) = (allL n).flatMap three := by
  unfold allL
  rw [allP, List.map_flatMap, List.flatMap_map]
  congr 1
  funext p
  simp only [threeP, List.map_cons, List.map_nil, termT_upd]
  rfl
theorem allL_zero : allL 0 = [ByteArray.empty] := by
  unfold allL allP
  rw [List.map_cons, List.map_nil]
  congr 1
theorem allL_size (n : Nat) : ∀ t ∈ allL n, t.size = n := by
  intro t ht
  obtain ⟨p, _, rfl⟩ := List.mem_map.1 ht
  exact termT_size n p
theorem allP_has (n : Nat) (p : Trm) : ∃ q ∈ allP n, ∀ i, i < n → q i = p i := by
  induction n with
  | zero => exact ⟨_, List.mem_singleton.2 rfl, fun i hi => by omega⟩
  | succ n ih =>
    obtain ⟨q, hq, h⟩ := ih
    refine ⟨updT q n (p n), ?_, fun i hi => ?_⟩
    · rw [allP, List.mem_flatMap]
      refine ⟨q, hq, ?_⟩
      unfold threeP
      rcases p n with _ | _ | _ <;> simp
    · unfold updT
      by_cases e : i = n
      · rw [if_pos e, e]
      · rw [if_neg e]; exact h i (by omega)
theorem allL_length (n : Nat) : (allL n).length = 3 ^ n := by
  induction n with
  | zero => rw [allL_zero]; rfl
  | succ n ih =>
    rw [allL_succ]
    have : ∀ l : List ByteArray, (l.flatMap three).length = l.length * 3 := by
      intro l
      induction l with
      | nil => rfl
      | cons a r ih => rw [List.flatMap_cons, List.length_append, ih]; simp [three]; omega
    rw [this, ih, Nat.pow_succ]
theorem allL_le {n : Nat} (h : n ≤ 5) : (allL n).length ≤ 243 := by
  rw [allL_length]
  exact Nat.pow_le_pow_right (by omega) h
/-! ### their order -/
def ltT (a b : ByteArray) : Prop := Op.bytesLess a.data.toList b.data.toList = true
theorem less_append {x y : List UInt8} (hl : x.length = y.length) (h : Op.bytesLess x y = true) (u v : List UInt8) : Op.bytesLess (x ++ u) (y ++ v) = true := by
  induction x generalizing y with
  | nil =>
    have : y = [] := List.length_eq_zero_iff.1 (by simpa using hl.symm)
    subst this
    simp [Op.bytesLess] at h
  | cons a x ih =>
    cases y with
    | nil => simp at hl
    | cons b y =>
      simp only [List.length_cons, Nat.add_right_cancel_iff] at hl
      simp only [Op.bytesLess, Bool.or_eq_true, decide_eq_true_eq, Bool.and_eq_true, beq_iff_eq, List.cons_append] at h ⊢
      rcases h with h | ⟨h1, h2⟩
      · exact .inl h
      · exact .inr ⟨h1, ih hl h2⟩
theorem less_same (x : List UInt8) {a b : UInt8} (h : a < b) : Op.bytesLess (x ++ [a]) (x ++ [b]) = true := by
  induction x with
  | nil => simp [Op.bytesLess, h]
  | cons c x ih => simp [Op.bytesLess, ih]
theorem less_irrefl (x : List UInt8) : Op.bytesLess x x = false := by
  induction x with
  | nil => rfl
  | cons a x ih => simp [Op.bytesLess, ih]
theorem ltT_three (t : ByteArray) : (three t).Pairwise ltT := by
  unfold three ltT
  simp only [List.pairwise_cons, List.mem_cons, List.not_mem_nil, or_false, ByteArray.data_append, Array.toList_append]
  refine ⟨fun b hb => ?_, fun b hb => ?_, fun b hb => hb.elim, List.Pairwise.nil⟩
  · rcases hb with rfl | rfl
    · simpa [ByteArray.data_append] using less_same t.data.toList (a := 42) (b := 48) (by decide)
    · simpa [ByteArray.data_append] using less_same t.data.toList (a := 42) (b := 49) (by decide)
  · subst hb
    simpa [ByteArray.data_append] using less_same t.data.toList (a := 48) (b := 49) (by decide)
theorem allL_sorted (n : Nat) : (allL n).Pairwise ltT := by
  induction n with
  | zero => rw [allL_zero]; exact List.pairwise_singleton _ _
  | succ n ih =>
    rw [allL_succ]
    have hsz := allL_size n
    generalize allL n = l at ih hsz
    induction l with
    | nil => exact List.Pairwise.nil
    | cons a r ih2 =>
      rw [List.flatMap_cons, List.pairwise_append]
      rw [List.pairwise_cons] at ih
      refine ⟨ltT_three a, ih2 ih.2 fun t ht => hsz t (by simp [ht]), fun x hx y hy => ?_⟩
      obtain ⟨b, hb, hy⟩ := List.mem_flatMap.1 hy
      have hab := ih.1 b hb
      have h1 := hsz a (by simp)
      have h2 := hsz b (by simp [hb])
      have hl : a.data.toList.length = b.data.toList.length := by
        have e1 : a.data.toList.length = a.size := by simp
        have e2 : b.data.toList.length = b.size := by simp
        omega
      unfold three at hx hy
      unfold ltT at hab ⊢
      simp only [List.mem_cons, List.not_mem_nil, or_false] at hx hy
      rcases hx with rfl | rfl | rfl <;> rcases hy with rfl | rfl | rfl <;> (rw [ByteArray.data_append, ByteArray.data_append, Array.toList_append, Array.toList_append]; exact less_append hl hab _ _)
theorem ltT_irrefl (a : ByteArray) : ¬ ltT a a := by unfold ltT; rw [less_irrefl]; simp
theorem allL_nodup (n : Nat) : (allL n).Nodup := (allL_sorted n).imp fun h e => by subst e; exact ltT_irrefl _ h
/-! ### traps -/
def trapsP (N : Net) : List Trm := (allP N.n).filter (trapP N)
def trapsT (N : Net) : List ByteArray := (trapsP N).map (termT N.n)
def trapsL (w : ByteArray) : List ByteArray := if netOk w then trapsT (netOf w) else []
/-- the traps among the first k terms -/
def trapsTo (N : Net) (k : Nat) : List ByteArray := (((allP N.n).take k).filter (trapP N)).map (termT N.n)
theorem trapsTo_zero (N : Net) : trapsTo N 0 = [] := rfl
theorem trapsTo_succ {N : Net} {k : Nat} (h : k < (allP N.n).length) : trapsTo N (k + 1) = if trapP N (allP N.n)[k] then trapsTo N k ++ [termT N.n (allP N.n)[k]] else trapsTo N k := by
  unfold trapsTo
  rw [List.take_succ_eq_append_getElem h, List.filter_append, List.map_append]
  by_cases hp : trapP N (allP N.n)[k] = true
  · rw [if_pos hp, List.filter_cons_of_pos hp]; rfl
  · rw [if_neg hp, List.filter_cons_of_neg hp]; simp
theorem trapsTo_all (N : Net) : trapsTo N (allP N.n).length = trapsT N := by unfold trapsTo trapsT trapsP; rw [List.take_length]
theorem allP_length (n : Nat) : (allP n).length = (allL n).length := by simp [allL]
theorem trapsTo_length {N : Net} (hn : N.n ≤ 5) (k : Nat) : (trapsTo N k).length ≤ 243 := by
  unfold trapsTo
  rw [List.length_map]
  have h1 := List.length_filter_le (trapP N) ((allP N.n).take k)
  have h2 := List.length_take_le k (allP N.n)
  have h3 : ((allP N.n).take k).length ≤ (allP N.n).length := by rw [List.length_take]; omega
  have h4 := allL_le hn
  rw [← allP_length] at h4
  omega
theorem trapsT_sub (N : Net) : (trapsT N).Sublist (allL N.n) := (List.filter_sublist).map _
theorem trapsL_length (w : ByteArray) : (trapsL w).length ≤ 243 := by
  unfold trapsL
  split
  · rename_i h
    have := (trapsT_sub (netOf w)).length_le
    have := allL_le (netOf_ok h).2
    omega
  · simp
theorem trapsL_sorted (w : ByteArray) : (trapsL w).Pairwise ltT := by
  unfold trapsL
  split
  · exact (allL_sorted _).sublist (trapsT_sub _)
  · exact List.Pairwise.nil
theorem trapsL_nodup (w : ByteArray) : (trapsL w).Nodup := (trapsL_sorted w).imp fun h e => by subst e; exact ltT_irrefl _ h
/-- a term lies within another one -/
def insTo (p q : Trm) : Nat → Bool
  | 0 => true
  | k + 1 => insTo p q k && ((q k).isNone || p k == q k)
theorem insTo_iff (p q : Trm) (k : Nat) : insTo p q k = true ↔ ∀ i, i < k → q i = none ∨ p i = q i := by
  induction k with
  | zero => simp [insTo]
  | succ k ih =>
    rw [insTo, Bool.and_eq_true, ih, Bool.or_eq_true, Option.isNone_iff_eq_none, beq_iff_eq]
    constructor
    · rintro ⟨h1, h2⟩ i hi
      by_cases e : i = k
      · subst e; exact h2
      · exact h1 i (by omega)
    · intro h
      exact ⟨fun i hi => h i (by omega), h k (by omega)⟩
/-- the same of texts -/
def insB (t u : ByteArray) : Bool := insTo (ofT t) (ofT u) t.size
theorem ofT_term {n : Nat} {p : Trm} {i : Nat} (hi : i < n) : ofT (termT n p) i = p i := by
  unfold ofT
  have h : i < (termT n p).data.toList.length := by
    have := termT_size n p
    simp; omega
  rw [List.getD_eq_getElem?_getD, List.getElem?_eq_getElem h, Option.getD_some, byte_at _ i (by rw [termT_size]; exact hi), termT_get n p i hi]
  rcases p i with _ | _ | _ <;> rfl
theorem insTo_congr {p q p' q' : Trm} {k : Nat} (h1 : ∀ i, i < k → p i = p' i) (h2 : ∀ i, i < k → q i = q' i) : insTo p q k = insTo p' q' k := by
  induction k with
  | zero => rfl
  | succ k ih => rw [insTo, insTo, ih (fun i hi => h1 i (by omega)) (fun i hi => h2 i (by omega)), h1 k (by omega), h2 k (by omega)]
theorem insB_term (n : Nat) (p q : Trm) : insB (termT n p) (termT n q) = insTo p q n := by
  unfold insB
  rw [termT_size]
  exact insTo_congr (fun i hi => ofT_term hi) (fun i hi => ofT_term hi)
def neqT (u t : ByteArray) : Bool := !(u.toList == t.toList)
/-- has a list another text within t; around t? -/
def lessB (xs : List ByteArray) (t : ByteArray) : Bool := xs.any fun u => neqT u t && insB u t
def moreB (xs : List ByteArray) (t : ByteArray) : Bool := xs.any fun u => neqT u t && insB t u
def leastT (xs : List ByteArray) : List ByteArray := xs.filter fun t => !lessB xs t
def greatT (xs : List ByteArray) : List ByteArray := xs.filter fun t => !moreB xs t
def leastL (w : ByteArray) : List ByteArray := leastT (trapsL w)
def greatL (w : ByteArray) : List ByteArray := greatT (trapsL w).tail
theorem leastL_length (w : ByteArray) : (leastL w).length ≤ 243 := Nat.le_trans (List.length_filter_le _ _) (trapsL_length w)
theorem greatL_length (w : ByteArray) : (greatL w).length ≤ 243 := by
  refine Nat.le_trans (List.length_filter_le _ _) ?_
  have := trapsL_length w
  rw [List.length_tail]; omega
end Go.Sw
