/- Plain law: orbits and cycles; single steps of a state that rises; cycles lie between the least and the greatest fixed point. -/
import Derived.Test.YtkfagolmpbbckaaDoorLa
import Derived.Test.YtkfagolmpbbckaaDoorAt
import Derived.Test.YtkfagolmpbbckaaDoorCi
namespace Go.Sw
open Go

/-- the first p states from s are unlike, the next is the i-th again -/
structure Orb (N : Net) (s p i : Nat) : Prop where
  lt : i < p
  le : p ≤ 32
  back : iterN N p s = iterN N i s
  unlike : ∀ a b, a < b → b < p → iterN N a s ≠ iterN N b s
/-- the first k states from s -/
def orbL (N : Net) (s k : Nat) : List Nat := (List.range k).map fun a => iterN N a s
theorem orbL_length (N : Net) (s k : Nat) : (orbL N s k).length = k := by simp [orbL]
theorem orbL_succ (N : Net) (s k : Nat) : orbL N s (k + 1) = orbL N s k ++ [iterN N k s] := by simp [orbL, List.range_succ]
theorem orbL_get (N : Net) (s k a : Nat) (h : a < k) : (orbL N s k)[a]'(by rw [orbL_length]; exact h) = iterN N a s := by simp [orbL]
def unlikeP (N : Net) (s k : Nat) : Prop := ∀ a b, a < b → b < k → iterN N a s ≠ iterN N b s
theorem orbL_nodup {N : Net} {s k : Nat} (h : unlikeP N s k) : (orbL N s k).Nodup := by
  rw [List.nodup_iff_pairwise_ne, List.pairwise_iff_getElem]
  intro a b ha hb hab
  rw [orbL_length] at ha hb
  rw [orbL_get N s k a ha, orbL_get N s k b hb]
  exact h a b hab hb
theorem unlike_le {N : Net} {s k : Nat} (hs : s < pw N.n) (h : unlikeP N s k) : k ≤ pw N.n := by
  have := nodup_length (orbL_nodup h) (n := pw N.n) fun x hx => by
    unfold orbL at hx
    obtain ⟨a, _, rfl⟩ := List.mem_map.1 hx
    exact iterN_lt N a s hs
  rwa [orbL_length] at this
/-- the place of a state among the first k, counted from 1, or 0 -/
def placeN (N : Net) (s : Nat) : Nat → Nat → Nat
  | 0, _ => 0
  | k + 1, x => if iterN N k s = x then k + 1 else placeN N s k x
theorem place_zero {N : Net} {s k x : Nat} : placeN N s k x = 0 ↔ ∀ a, a < k → iterN N a s ≠ x := by
  induction k with
  | zero => exact ⟨fun _ a h => absurd h (Nat.not_lt_zero _), fun _ => rfl⟩
  | succ k ih =>
    rw [placeN]
    split
    · rename_i e
      exact ⟨fun h => by omega, fun h => absurd e (h k (Nat.lt_succ_self k))⟩
    · rename_i e
      rw [ih]
      constructor
      · intro h a ha
        by_cases e2 : a = k
        · subst e2; exact e
        · exact h a (by omega)
      · exact fun h a ha => h a (by omega)
theorem place_pos {N : Net} {s k x : Nat} (h : placeN N s k x ≠ 0) : ∃ a, a < k ∧ iterN N a s = x ∧ placeN N s k x = a + 1 := by
  induction k with
  | zero => exact absurd rfl h
  | succ k ih =>
    rw [placeN] at h ⊢
    split
    · rename_i e; exact ⟨k, Nat.lt_succ_self k, e, rfl⟩
    · rename_i e
      rw [if_neg e] at h
      obtain ⟨a, h1, h2, h3⟩ := ih h
      exact ⟨a, by omega, h2, h3⟩
theorem place_le {N : Net} {s k x : Nat} : placeN N s k x ≤ k := by
  by_cases e : placeN N s k x = 0
  · omega
  · obtain ⟨a, h1, _, h3⟩ := place_pos e; omega
theorem unlike_succ {N : Net} {s k : Nat} (h : unlikeP N s k) (hz : placeN N s k (iterN N k s) = 0) : unlikeP N s (k + 1) := fun a b hab hb => by
  by_cases e : b = k
  · subst e; exact place_zero.1 hz a hab
  · exact h a b hab (by omega)
theorem orb_end {N : Net} {s k : Nat} (hs : s < pw N.n) (h5 : N.n ≤ 5) (h : unlikeP N s k) (hz : placeN N s k (iterN N k s) ≠ 0) : ∃ i, placeN N s k (iterN N k s) = i + 1 ∧ Orb N s k i := by
  obtain ⟨a, h1, h2, h3⟩ := place_pos hz
  exact ⟨a, h3, h1, Nat.le_trans (unlike_le hs h) (pw_le h5).2, h2.symm, h⟩
/-- states of the cycle to which s leads -/
def CycW (N : Net) (s : Nat) (L : List Nat) : Prop := 0 < L.length ∧ L.length ≤ 32 ∧ L.Nodup ∧ ∀ x ∈ L, ∃ a q, x = iterN N a s ∧ 1 ≤ q ∧ iterN N q x = x
/-- the part of the orbit that comes again -/
def cycL (N : Net) (s p i : Nat) : List Nat := (orbL N s p).drop i
theorem orb_cyc {N : Net} {s p i : Nat} (h : Orb N s p i) : CycW N s (cycL N s p i) := by
  have hl := h.lt
  have hle := h.le
  unfold cycL
  refine ⟨by rw [List.length_drop, orbL_length]; omega, by rw [List.length_drop, orbL_length]; omega, (orbL_nodup h.unlike).sublist (List.drop_sublist _ _), fun x hx => ?_⟩
  obtain ⟨j, hj, rfl⟩ := List.getElem_of_mem hx
  rw [List.length_drop, orbL_length] at hj
  rw [List.getElem_drop, orbL_get N s p (i + j) (by omega)]
  refine ⟨i + j, p - i, rfl, by omega, ?_⟩
  rw [← iterN_add, show p - i + (i + j) = j + p by omega, iterN_add, h.back, ← iterN_add, Nat.add_comm]
theorem CycW.turn {N : Net} {s k : Nat} {L : List Nat} (h : CycW N s L) : CycW N s (L.drop k ++ L.take k) := by
  obtain ⟨h1, h2, h3, h4⟩ := h
  have hp : (L.drop k ++ L.take k).Perm L := (List.perm_append_comm).trans (by rw [List.take_append_drop])
  refine ⟨by rw [hp.length_eq]; exact h1, by rw [hp.length_eq]; exact h2, hp.nodup_iff.2 h3, fun x hx => h4 x (hp.mem_iff.1 hx)⟩
theorem CycW.lt {N : Net} {s : Nat} {L : List Nat} (h : CycW N s L) (hs : s < pw N.n) {x : Nat} (hx : x ∈ L) : x < pw N.n := by
  obtain ⟨a, _, rfl, _⟩ := h.2.2.2 x hx
  exact iterN_lt N a s hs
theorem iter_mul {N : Net} {x q : Nat} (h : iterN N q x = x) (m : Nat) : iterN N (m * q) x = x := by
  induction m with
  | zero => rw [Nat.zero_mul]; rfl
  | succ m ih => rw [Nat.succ_mul, iterN_add, h, ih]
theorem iter_late {N : Net} {s k : Nat} (hr : restP N 32 s) (hk : 32 ≤ k) : iterN N k s = limN N s := by
  unfold limN
  rw [show k = (k - 32) + 32 by omega, iterN_add]
  exact iterN_fix N _ _ hr.2
/-- of a state that comes to rest the cycle is where it comes to rest -/
theorem cyc_rest {N : Net} {s : Nat} {L : List Nat} (h : CycW N s L) (hr : restP N 32 s) : L = [limN N s] := by
  obtain ⟨h1, _, h3, h4⟩ := h
  have hall : ∀ x ∈ L, x = limN N s := fun x hx => by
    obtain ⟨a, q, e, hq, hx2⟩ := h4 x hx
    have h5 := iter_mul hx2 32
    rw [e, ← iterN_add, iter_late hr (by have : 32 * 1 ≤ 32 * q := Nat.mul_le_mul_left _ hq; omega)] at h5
    rw [e]; exact h5.symm
  match L, h1, h3, hall with
  | [x], _, _, hall => rw [hall x (by simp)]
  | x :: y :: r, _, h3, hall =>
    exfalso
    have e1 := hall x (by simp)
    have e2 := hall y (by simp)
    rw [List.nodup_cons] at h3
    exact h3.1 (by rw [e1, e2]; simp)
/-- the least and the greatest fixed point of a monotone network -/
theorem low_rise {N : Net} : riseP N 0 := ⟨Nat.two_pow_pos _, (leB_iff _ _).2 fun i hi => by rw [Nat.zero_testBit] at hi; exact absurd hi (by decide)⟩
theorem leB_top {n s : Nat} (h : s < pw n) : leB s (pw n - 1) = true := (leB_iff _ _).2 fun i hi => by
  have hin : i < n := by
    apply Classical.byContradiction
    intro hn
    have : s.testBit i = false := Nat.testBit_lt_two_pow (Nat.lt_of_lt_of_le h (Nat.pow_le_pow_right (by decide) (by omega)))
    rw [this] at hi; exact absurd hi (by decide)
  unfold pw
  rw [Nat.testBit_two_pow_sub_one, decide_eq_true hin]
theorem top_fall {N : Net} : fallP N (pw N.n - 1) := ⟨by have : 0 < pw N.n := Nat.two_pow_pos _; omega, leB_top (stepN_lt N _)⟩
theorem leB_zero (s : Nat) : leB 0 s = true := (leB_iff _ _).2 fun i hi => by rw [Nat.zero_testBit] at hi; exact absurd hi (by decide)
theorem cyc_between {N : Net} (h : monoN N = true) (h5 : N.n ≤ 5) {x q : Nat} (hx : x < pw N.n) (hq : 1 ≤ q) (hb : iterN N q x = x) : leB (limN N 0) x = true ∧ leB x (limN N (pw N.n - 1)) = true := by
  have hm := iter_mul hb 32
  have hge : 32 ≤ 32 * q := by have : 32 * 1 ≤ 32 * q := Nat.mul_le_mul_left _ hq; omega
  have h1 := iterN_mono h (32 * q) hx (leB_zero x)
  have ht : pw N.n - 1 < pw N.n := (top_fall (N := N)).1
  have h2 := iterN_mono h (32 * q) ht (leB_top hx)
  rw [hm, iter_late (rise_rest h h5 low_rise) hge] at h1
  rw [hm, iter_late (fall_rest h h5 top_fall) hge] at h2
  exact ⟨h1, h2⟩
/-- single steps lead a state that rises to where it comes to rest -/
theorem setN_up {N : Net} (h : monoN N = true) {s i : Nat} (hs : riseP N s) (hi : i < N.n) (h0 : s.testBit i = false) (h1 : N.f i s = true) : riseP N (setN s i true) ∧ leB (setN s i true) (stepN N s) = true ∧ s < setN s i true := by
  have hbit : ∀ j, (setN s i true).testBit j = if j = i then true else s.testBit j := fun j => by
    rw [setN_testBit]
  have hlt : setN s i true < pw N.n := setN_lt s i N.n true hs.1 hi
  have hle : leB s (setN s i true) = true := (leB_iff _ _).2 fun j hj => by
    rw [hbit]; split
    · rfl
    · exact hj
  have hup : leB (setN s i true) (stepN N s) = true := (leB_iff _ _).2 fun j hj => by
    rw [hbit] at hj
    split at hj
    · rename_i e; rw [e, stepN_testBit, decide_eq_true hi, h1]; rfl
    · exact (leB_iff _ _).1 hs.2 j hj
  refine ⟨⟨hlt, leB_trans hup (step_mono h hlt hle)⟩, hup, ?_⟩
  have h3 := leB_le hle
  have h4 : s ≠ setN s i true := fun e => by
    have := hbit i
    rw [← e, h0, if_pos rfl] at this
    exact absurd this (by decide)
  omega
theorem rise_AR {N : Net} (h : monoN N = true) (h5 : N.n ≤ 5) : ∀ (m s : Nat), 32 - s ≤ m → riseP N s → AR N s (limN N s) := by
  intro m
  induction m with
  | zero =>
    intro s hm hs
    have := hs.1
    have := pw_le h5
    omega
  | succ m ih =>
    intro s hm hs
    by_cases e : stepN N s = s
    · rw [lim_same e]; exact .refl s
    · obtain ⟨i, hi, hne⟩ := bit_ne_of (stepN_lt N s) hs.1 e
      have h0 : s.testBit i = false := by
        cases hb : s.testBit i
        · rfl
        · exact absurd ((leB_iff _ _).1 hs.2 i hb) (by rw [hb] at hne; simpa using hne)
      have h1 : N.f i s = true := by
        rw [h0, stepN_testBit, decide_eq_true hi, Bool.true_and] at hne
        simpa using hne
      obtain ⟨h2, h3, h4⟩ := setN_up h hs hi h0 h1
      have hlim : limN N (setN s i true) = limN N s := by
        apply leB_antisymm
        · refine lim_le h (lim_lt hs.1) (rise_rest h h5 hs).2 (leB_trans h3 ?_)
          have := rise_up h ⟨stepN_lt N s, step_mono h (stepN_lt N s) hs.2⟩ 31
          exact this
        · have hle : leB s (setN s i true) = true := (leB_iff _ _).2 fun j hj => by
            rw [setN_testBit]; split
            · rfl
            · exact hj
          exact iterN_mono h 32 h2.1 hle
      have := ih (setN s i true) (by omega) h2
      rw [hlim] at this
      refine .step hi ?_
      rw [h1]; exact this
end Go.Sw
