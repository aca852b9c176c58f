/- Plain words and lemmas: circuits of influences and their signs. -/
import Derived.Test.YtkfagolmpbbckaaDoorTu
namespace Go.Sw
open Go

/-- an influence as a number: 0 none, 1 plus, 2 minus, 3 both -/
def edgeC (N : Net) (i k : Nat) : Nat := (sgU N.n (N.f k) i).toNat + 2 * (sgD N.n (N.f k) i).toNat
theorem edgeC_sg (N : Net) (i k : Nat) : sg (sgU N.n (N.f k) i) (sgD N.n (N.f k) i) = ((edgeC N i k : Nat) : Int) := by
  unfold sg edgeC; omega
theorem edgeC_le (N : Net) (i k : Nat) : edgeC N i k ≤ 3 := by
  unfold edgeC
  cases sgU N.n (N.f k) i <;> cases sgD N.n (N.f k) i <;> decide
theorem edgeC_inf (N : Net) (i k : Nat) : infB N i k = decide (0 < edgeC N i k) := by
  unfold edgeC infB
  cases sgU N.n (N.f k) i <;> cases sgD N.n (N.f k) i <;> decide
/-- two influences one after the other -/
def timesC (a b : Nat) : Nat := if a = 3 ∨ b = 3 then 3 else if a = b then 1 else 2
theorem timesC_le (a b : Nat) : 1 ≤ timesC a b ∧ timesC a b ≤ 3 := by
  unfold timesC; split
  · omega
  · split <;> omega
theorem timesC_three (b : Nat) : timesC 3 b = 3 := by simp [timesC]
def lastN (way : List Nat) : Nat := way.getLastD 0
def headN (way : List Nat) : Nat := way.headD 0
def pairsL (l : List Nat) : List (Nat × Nat) := l.zip l.tail
theorem pairsL_snoc {l : List Nat} (h : l ≠ []) (k : Nat) : pairsL (l ++ [k]) = pairsL l ++ [(lastN l, k)] := by
  induction l with
  | nil => exact absurd rfl h
  | cons a r ih =>
    cases r with
    | nil => rfl
    | cons b r =>
      have := ih (by simp)
      show (a, b) :: pairsL (b :: r ++ [k]) = (a, b) :: pairsL (b :: r) ++ [(lastN (a :: b :: r), k)]
      rw [this]; rfl
theorem lastN_snoc (l : List Nat) (k : Nat) : lastN (l ++ [k]) = k := by unfold lastN; simp
theorem headN_snoc {l : List Nat} (h : l ≠ []) (k : Nat) : headN (l ++ [k]) = headN l := by
  cases l with
  | nil => exact absurd rfl h
  | cons a r => rfl
/-- the sign of a way, of a circuit -/
def wayC (N : Net) (way : List Nat) : Nat := (pairsL way).foldl (fun a e => timesC a (edgeC N e.1 e.2)) 1
theorem wayC_one (N : Net) (i : Nat) : wayC N [i] = 1 := rfl
theorem wayC_snoc (N : Net) {way : List Nat} (h : way ≠ []) (k : Nat) : wayC N (way ++ [k]) = timesC (wayC N way) (edgeC N (lastN way) k) := by
  unfold wayC; rw [pairsL_snoc h, List.foldl_append]; rfl
def circC (N : Net) (c : List Nat) : Nat := timesC (wayC N c) (edgeC N (lastN c) (headN c))
theorem circC_le (N : Net) (c : List Nat) : 1 ≤ circC N c ∧ circC N c ≤ 3 := timesC_le _ _
theorem wayC_le (N : Net) (c : List Nat) : 1 ≤ wayC N c ∧ wayC N c ≤ 3 := by
  unfold wayC
  have h : ∀ (l : List (Nat × Nat)) a, 1 ≤ a → a ≤ 3 → 1 ≤ l.foldl (fun a e => timesC a (edgeC N e.1 e.2)) a ∧ l.foldl (fun a e => timesC a (edgeC N e.1 e.2)) a ≤ 3 := by
    intro l
    induction l with
    | nil => intro a h1 h2; exact ⟨h1, h2⟩
    | cons e l ih => intro a _ _; exact ih _ (timesC_le _ _).1 (timesC_le _ _).2
  exact h _ 1 (by omega) (by omega)

/-- lists gathered from numbers below m -/
def subL {α : Type} (g : Nat → List α) (p : Nat → Bool) : Nat → List α
  | 0 => []
  | m + 1 => if p m then subL g p m ++ g m else subL g p m
theorem subL_none {α : Type} {g : Nat → List α} {p : Nat → Bool} {m : Nat} (h : ∀ k, k < m → p k = false) : subL g p m = [] := by
  induction m with
  | zero => rfl
  | succ m ih => rw [subL, h m (by omega), if_neg (by decide), ih fun k hk => h k (by omega)]
theorem subL_mem {α : Type} {g : Nat → List α} {p : Nat → Bool} {m : Nat} {x : α} : x ∈ subL g p m ↔ ∃ k, k < m ∧ p k = true ∧ x ∈ g k := by
  induction m with
  | zero => simp [subL]
  | succ m ih =>
    rw [subL]
    constructor
    · intro h
      split at h
      · rename_i hp
        rcases List.mem_append.1 h with h | h
        · obtain ⟨k, h1, h2⟩ := ih.1 h; exact ⟨k, by omega, h2⟩
        · exact ⟨m, by omega, hp, h⟩
      · obtain ⟨k, h1, h2⟩ := ih.1 h; exact ⟨k, by omega, h2⟩
    · rintro ⟨k, hk, hp, hx⟩
      by_cases e : k = m
      · subst e; rw [if_pos hp]; exact List.mem_append_right _ hx
      · have := ih.2 ⟨k, by omega, hp, hx⟩
        split
        · exact List.mem_append_left _ this
        · exact this
theorem subL_length {α : Type} {g : Nat → List α} {p : Nat → Bool} {m b : Nat} (h : ∀ k, k < m → (g k).length ≤ b) : (subL g p m).length ≤ m * b := by
  induction m with
  | zero => simp [subL]
  | succ m ih =>
    have h1 := ih fun k hk => h k (by omega)
    have h2 := h m (by omega)
    rw [subL, Nat.succ_mul]
    split
    · rw [List.length_append]; omega
    · omega
/-- may a way go on to a switch? -/
def goesB (N : Net) (way : List Nat) (k : Nat) : Bool := decide (headN way < k) && (infB N (lastN way) k && !way.contains k)
def closeB (N : Net) (way : List Nat) : Bool := infB N (lastN way) (headN way)
/-- the circuits that go on from a way -/
def walkL (N : Net) : Nat → List Nat → List (List Nat)
  | 0, _ => []
  | f + 1, way => (if closeB N way then [way] else []) ++ subL (fun k => walkL N f (way ++ [k])) (goesB N way) N.n
def circL (N : Net) : List (List Nat) := subL (fun i => walkL N N.n [i]) (fun _ => true) N.n
theorem walkL_length {N : Net} (h : N.n ≤ 5) (f : Nat) (way : List Nat) : (walkL N f way).length ≤ 6 ^ f := by
  induction f generalizing way with
  | zero => simp [walkL]
  | succ f ih =>
    rw [walkL, List.length_append]
    have h1 := subL_length (p := goesB N way) (m := N.n) (fun k _ => ih (way ++ [k]))
    have h2 : N.n * 6 ^ f ≤ 5 * 6 ^ f := Nat.mul_le_mul_right _ h
    have h3 : (if closeB N way then [way] else []).length ≤ 1 := by split <;> simp
    have h4 : 1 ≤ 6 ^ f := Nat.one_le_pow _ _ (by omega)
    rw [Nat.pow_succ]; omega
theorem circL_length {N : Net} (h : N.n ≤ 5) : (circL N).length ≤ 40000 := by
  have h1 := subL_length (p := fun _ => true) (m := N.n) (fun i _ => walkL_length h N.n [i])
  have h2 : 6 ^ N.n ≤ 6 ^ 5 := Nat.pow_le_pow_right (by omega) h
  have h3 : N.n * 6 ^ N.n ≤ 5 * 6 ^ 5 := Nat.mul_le_mul h h2
  unfold circL
  omega
/-- a way of different switches of a network, the least one first -/
def WayOk (N : Net) (way : List Nat) : Prop := way ≠ [] ∧ way.Nodup ∧ ∀ k ∈ way, k < N.n ∧ headN way ≤ k
theorem WayOk.one {N : Net} {i : Nat} (h : i < N.n) : WayOk N [i] := ⟨by simp, by simp, fun k hk => by
  obtain rfl : k = i := by simpa using hk
  exact ⟨h, Nat.le_refl _⟩⟩
theorem WayOk.snoc {N : Net} {way : List Nat} (h : WayOk N way) {k : Nat} (hk : k < N.n) (hg : goesB N way k = true) : WayOk N (way ++ [k]) := by
  obtain ⟨h1, h2, h3⟩ := h
  simp only [goesB, Bool.and_eq_true, decide_eq_true_eq, Bool.not_eq_true', List.contains_eq_mem, decide_eq_false_iff_not] at hg
  refine ⟨by simp, ?_, fun j hj => ?_⟩
  · rw [List.nodup_append]
    refine ⟨h2, by simp, fun a ha b hb e => ?_⟩
    obtain rfl : b = k := by simpa using hb
    exact hg.2.2 (e ▸ ha)
  · rw [headN_snoc h1]
    rcases List.mem_append.1 hj with hj | hj
    · exact h3 j hj
    · obtain rfl : j = k := by simpa using hj
      exact ⟨hk, by omega⟩
theorem WayOk.head {N : Net} {way : List Nat} (h : WayOk N way) : headN way < N.n := by
  obtain ⟨h1, _, h3⟩ := h
  cases way with
  | nil => exact absurd rfl h1
  | cons a r => exact (h3 a (List.mem_cons_self ..)).1
theorem WayOk.last {N : Net} {way : List Nat} (h : WayOk N way) : lastN way < N.n := by
  obtain ⟨h1, _, h3⟩ := h
  have : lastN way ∈ way := by
    unfold lastN
    rw [List.getLastD_eq_getLast?, List.getLast?_eq_some_getLast h1]
    exact List.getLast_mem h1
  exact (h3 _ this).1
theorem nodup_length {l : List Nat} {n : Nat} (h : l.Nodup) (hl : ∀ k ∈ l, k < n) : l.length ≤ n := by
  induction n generalizing l with
  | zero =>
    cases l with
    | nil => exact Nat.le_refl _
    | cons a r => exact absurd (hl a (List.mem_cons_self ..)) (by omega)
  | succ n ih =>
    by_cases hm : n ∈ l
    · have h1 := ih (h.erase n) fun k hk => by
        have h2 := (h.mem_erase_iff).1 hk
        have := hl k h2.2
        omega
      rw [List.length_erase_of_mem hm] at h1
      omega
    · have := ih h fun k hk => by
        have := hl k hk
        by_cases e : k = n
        · subst e; exact absurd hk hm
        · omega
      omega
theorem WayOk.length {N : Net} {way : List Nat} (h : WayOk N way) : way.length ≤ N.n := nodup_length h.2.1 fun k hk => (h.2.2 k hk).1
theorem subL_congr {α : Type} {g g' : Nat → List α} {p : Nat → Bool} {m : Nat} (h : ∀ k, k < m → p k = true → g k = g' k) : subL g p m = subL g' p m := by
  induction m with
  | zero => rfl
  | succ m ih =>
    rw [subL, subL, ih fun k hk hp => h k (by omega) hp]
    by_cases hp : p m = true
    · rw [if_pos hp, if_pos hp, h m (by omega) hp]
    · rw [if_neg hp, if_neg hp]
/-- the text of a circuit -/
def digT (way : List Nat) : List UInt8 := way.map fun k => UInt8.ofNat (48 + k)
def signT (c : Nat) : UInt8 := if c = 1 then 43 else if c = 2 then 45 else if c = 3 then 42 else 48
def circT (N : Net) (c : List Nat) : ByteArray := bs (digT c ++ [signT (circC N c)])
def circsL (w : ByteArray) : List ByteArray := if netOk w then (circL (netOf w)).map (circT (netOf w)) else []
theorem circsL_length (w : ByteArray) : (circsL w).length ≤ 40000 := by
  unfold circsL
  split
  · rename_i h
    rw [List.length_map]; exact circL_length (netOf_ok h).2
  · simp
/-- is a circuit of a sign? -/
def isC (c : Nat) (sign : ByteArray) : Bool := decide (c = 3) || sign == bs [signT c]
def plusB (sign : ByteArray) : Bool := sign == ⟨#[43]⟩ || sign == ⟨#[45]⟩
def hasB (w sign : ByteArray) : Bool := netOk w && (plusB sign && (circL (netOf w)).any fun c => isC (circC (netOf w) c) sign)
def flowB (w : ByteArray) : Bool := netOk w && (circL (netOf w)).isEmpty
/-- the switches of a list as a set -/
def setL : List Nat → Nat
  | [] => 0
  | k :: r => 2 ^ k ||| setL r
theorem setL_bit (l : List Nat) (j : Nat) : (setL l).testBit j = l.contains j := by
  induction l with
  | nil => simp [setL]
  | cons k r ih =>
    rw [setL, Nat.testBit_or, ih, Nat.testBit_two_pow, List.contains_cons]
    by_cases e : k = j
    · subst e; simp
    · have : ¬ j = k := fun h => e h.symm
      simp [e, this]
theorem setL_snoc (l : List Nat) (k : Nat) : setL (l ++ [k]) = setL l ||| 2 ^ k := by
  apply Nat.eq_of_testBit_eq
  intro j
  rw [Nat.testBit_or, setL_bit, setL_bit, Nat.testBit_two_pow]
  by_cases e : k = j
  · subst e; simp
  · have : ¬ j = k := fun h => e h.symm
    simp [e, this, List.contains_eq_mem]
theorem setL_lt {l : List Nat} {n : Nat} (h : ∀ k ∈ l, k < n) : setL l < pw n := by
  induction l with
  | nil => exact Nat.two_pow_pos n
  | cons k r ih =>
    exact Nat.or_lt_two_pow (Nat.pow_lt_pow_right (by omega) (h k (List.mem_cons_self ..))) (ih fun j hj => h j (List.mem_cons_of_mem _ hj))
end Go.Sw
