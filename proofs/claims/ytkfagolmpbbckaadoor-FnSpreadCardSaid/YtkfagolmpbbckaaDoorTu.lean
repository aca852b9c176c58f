/- Plain words and lemmas: networks that are alike, turned, without a switch; the texts of networks; the first number of a kind. -/
import Derived.Test.YtkfagolmpbbckaaDoorPu
namespace Go.Sw
open Go

/-- the same number of switches, and the same rules at their states -/
def Net.eqv (N M : Net) : Prop := N.n = M.n ∧ ∀ i, i < N.n → ∀ s, s < pw N.n → N.f i s = M.f i s
theorem Net.eqv.symm {N M : Net} (h : N.eqv M) : M.eqv N := ⟨h.1.symm, fun i hi s hs => (h.2 i (by rw [h.1]; exact hi) s (by rw [h.1]; exact hs)).symm⟩
theorem Net.eqv.refl (N : Net) : N.eqv N := ⟨rfl, fun _ _ _ _ => rfl⟩
theorem Net.eqv.trans {N M K : Net} (h : N.eqv M) (g : M.eqv K) : N.eqv K :=
  ⟨h.1.trans g.1, fun i hi s hs => (h.2 i hi s hs).trans (g.2 i (by rw [← h.1]; exact hi) s (by rw [← h.1]; exact hs))⟩
theorem ofBits_congr {n : Nat} {p q : Nat → Bool} (h : ∀ i, i < n → p i = q i) : ofBits n p = ofBits n q := by
  apply Nat.eq_of_testBit_eq
  intro j
  rw [ofBits_testBit, ofBits_testBit]
  by_cases hj : j < n
  · rw [h j hj]
  · simp [hj]
theorem Net.eqv.step {N M : Net} (h : N.eqv M) {s : Nat} (hs : s < pw N.n) : stepN N s = stepN M s := by
  unfold stepN
  rw [← h.1]
  exact ofBits_congr fun i hi => h.2 i hi s hs
theorem anyB_congr {p q : Nat → Bool} {k : Nat} (h : ∀ s, s < k → p s = q s) : anyB p k = anyB q k :=
  anyB_congr2 (fun s hs hp => ⟨s, hs, by rw [← h s hs]; exact hp⟩) (fun s hs hp => ⟨s, hs, by rw [h s hs]; exact hp⟩)
theorem or_two_lt {s i n : Nat} (hs : s < pw n) (hi : i < n) : s ||| 2 ^ i < pw n := Nat.or_lt_two_pow hs (Nat.pow_lt_pow_right (by omega) hi)
theorem sgU_congr {n : Nat} {f g : Nat → Bool} {i : Nat} (hi : i < n) (h : ∀ s, s < pw n → f s = g s) : sgU n f i = sgU n g i :=
  anyB_congr fun s hs => by unfold upB; rw [h s hs, h _ (or_two_lt hs hi)]
theorem sgD_congr {n : Nat} {f g : Nat → Bool} {i : Nat} (hi : i < n) (h : ∀ s, s < pw n → f s = g s) : sgD n f i = sgD n g i :=
  anyB_congr fun s hs => by unfold downB; rw [h s hs, h _ (or_two_lt hs hi)]
theorem Net.eqv.mono {N M : Net} (h : N.eqv M) : monoN N = monoN M := by
  rw [Bool.eq_iff_iff, monoN_iff, monoN_iff, ← h.1]
  constructor
  · intro g j i hj hi
    rw [← sgD_congr hj (h.2 i hi)]; exact g j i hj hi
  · intro g j i hj hi
    rw [sgD_congr hj (h.2 i hi)]; exact g j i hj hi
theorem Net.eqv.inf {N M : Net} (h : N.eqv M) {i k : Nat} (hi : i < N.n) (hk : k < N.n) : infB N i k = infB M i k := by
  unfold infB
  rw [sgU_congr hi (h.2 k hk), sgD_congr hi (h.2 k hk), h.1]
theorem Net.eqv.free {N M : Net} (h : N.eqv M) {i : Nat} (hi : i < N.n) : freeB N i = freeB M i := by
  unfold freeB
  rw [h.inf hi hi, h.1]
theorem Net.eqv.texts {N M : Net} (h : N.eqv M) : netTexts N = netTexts M := by
  unfold netTexts
  rw [← h.1]
  exact List.map_congr_left fun i hi => tabText_congr _ _ _ (h.2 i (List.mem_range.1 hi))
theorem Net.eqv.lift {N M : Net} (h : N.eqv M) {i s : Nat} (hi : i < N.n) (hs : s < pw (N.n - 1)) : liftN N i s = liftN M i s := by
  have hlt := putN_lt s i (N.n - 1) hs
  rw [show N.n - 1 + 1 = N.n by omega] at hlt
  unfold liftN
  rw [h.2 i hi _ hlt]
theorem liftN_lt (N : Net) (i s : Nat) (hi : i < N.n) (hs : s < pw (N.n - 1)) : liftN N i s < pw N.n := by
  have hlt := putN_lt s i (N.n - 1) hs
  rw [show N.n - 1 + 1 = N.n by omega] at hlt
  exact setN_lt _ _ _ _ hlt hi

/-! ### the text of a network -/
def joinL : List (List UInt8) → List UInt8
  | [] => []
  | [p] => p
  | p :: q :: r => p ++ 44 :: joinL (q :: r)
theorem joinL_cons (p : List UInt8) (r : List (List UInt8)) (h : r ≠ []) : joinL (p :: r) = p ++ 44 :: joinL r := by
  cases r with
  | nil => exact absurd rfl h
  | cons q r => rfl
theorem joinL_snoc (ps : List (List UInt8)) (p : List UInt8) (h : ps ≠ []) : joinL (ps ++ [p]) = joinL ps ++ 44 :: p := by
  induction ps with
  | nil => exact absurd rfl h
  | cons q r ih =>
    by_cases e : r = []
    · subst e; rfl
    · rw [List.cons_append, joinL_cons _ _ (by simp), ih e, joinL_cons _ _ e, List.append_assoc]; rfl
theorem cuts_join (ps : List (List UInt8)) (h : ps ≠ []) (hc : ∀ p ∈ ps, ∀ b ∈ p, b ≠ 44) : cuts 44 (joinL ps) = ps := by
  induction ps with
  | nil => exact absurd rfl h
  | cons q r ih =>
    by_cases e : r = []
    · subst e; exact cuts_none 44 q (hc q (List.mem_cons_self ..))
    · rw [joinL_cons _ _ e, cuts_append 44 _ _ (hc q (List.mem_cons_self ..)), ih e fun p hp => hc p (List.mem_cons_of_mem _ hp)]
/-- the text of a network -/
def netText (N : Net) : ByteArray := bs (joinL ((netTexts N).map (·.data.toList)))
theorem Net.eqv.text {N M : Net} (h : N.eqv M) : netText N = netText M := by unfold netText; rw [h.texts]
theorem tab_no_comma (n : Nat) (f : Nat → Bool) : ∀ b ∈ (tabText n f).data.toList, b ≠ 44 := by
  intro b hb
  simp only [tabText, bs_data, List.mem_map] at hb
  obtain ⟨s, _, rfl⟩ := hb
  split <;> decide
theorem partsOf_text {N : Net} (h : 1 ≤ N.n) : partsOf (netText N) = netTexts N := by
  unfold partsOf netText
  rw [bs_data, cuts_join, List.map_map]
  · have : (bs ∘ fun x : ByteArray => x.data.toList) = id := by funext x; exact bs_of x
    rw [this, List.map_id]
  · intro e
    have h2 := congrArg List.length e
    rw [List.length_map, netTexts_length] at h2
    simp at h2; omega
  · intro p hp
    obtain ⟨t, ht, rfl⟩ := List.mem_map.1 hp
    obtain ⟨i, _, rfl⟩ := List.mem_map.1 ht
    exact tab_no_comma _ _
theorem bitAt_text {n : Nat} {f : Nat → Bool} {s : Nat} (hs : s < pw n) : bitAt (tabText n f) s = f s := by
  have h2 : s < (tabText n f).size := by rw [tabText_size]; exact hs
  have h3 : s < (tabText n f).data.toList.length := by simpa using h2
  unfold bitAt
  rw [List.getD_eq_getElem?_getD, List.getElem?_eq_getElem h3, Option.getD_some, byte_at _ s h2, tabText_get n f s hs]
  cases f s <;> decide
theorem netOk_text {N : Net} (h1 : 1 ≤ N.n) (h5 : N.n ≤ 5) : netOk (netText N) = true := by
  unfold netOk
  rw [partsOf_text h1, netTexts_length, List.all_eq_true]
  intro p hp
  obtain ⟨i, _, rfl⟩ := List.mem_map.1 hp
  rw [partOk_iff, tabText_size, logN_pw h1 h5]
  exact ⟨tabOk_text h1 h5 _, rfl⟩
theorem netOf_text {N : Net} (h1 : 1 ≤ N.n) : (netOf (netText N)).eqv N := by
  have hl : (netOf (netText N)).n = N.n := by
    show (partsOf (netText N)).length = N.n
    rw [partsOf_text h1, netTexts_length]
  refine ⟨hl, fun i hi s hs => ?_⟩
  rw [hl] at hi hs
  show bitAt ((partsOf (netText N)).getD i ByteArray.empty) s = N.f i s
  rw [partsOf_text h1, List.getD_eq_getElem?_getD, List.getElem?_eq_getElem (by rw [netTexts_length]; exact hi), Option.getD_some, netTexts_get N i hi]
  exact bitAt_text hs
theorem joinL_length (ps : List (List UInt8)) (m : Nat) (h : ∀ p ∈ ps, p.length ≤ m) : (joinL ps).length ≤ ps.length * (m + 1) := by
  induction ps with
  | nil => simp [joinL]
  | cons q r ih =>
    have h1 := h q (List.mem_cons_self ..)
    have h2 := ih fun p hp => h p (List.mem_cons_of_mem _ hp)
    rw [List.length_cons, Nat.add_mul]
    by_cases e : r = []
    · subst e; simp [joinL]; omega
    · rw [joinL_cons _ _ e, List.length_append, List.length_cons]; omega
theorem netText_size {N : Net} (h5 : N.n ≤ 5) : (netText N).size ≤ 165 := by
  unfold netText
  rw [bs_size]
  have hp := pw_le h5
  have := joinL_length ((netTexts N).map (·.data.toList)) 32 (fun p hp' => by
    obtain ⟨t, ht, rfl⟩ := List.mem_map.1 hp'
    obtain ⟨i, _, rfl⟩ := List.mem_map.1 ht
    have : (tabText N.n (N.f i)).data.toList.length = (tabText N.n (N.f i)).size := by simp
    rw [this, tabText_size]; exact hp.2)
  rw [List.length_map, netTexts_length] at this
  omega

/-! ### networks of a told step, turned, without a switch -/
/-- the rules of a network of which a step is told -/
def stepF (n : Nat) (g : Nat → Nat) (i : Nat) : Nat → Bool := upto (pw n) fun s => (g s).testBit i
def turnN (N : Net) (set : Nat) : Net := ⟨N.n, fun i s => (N.f i (s ^^^ set) ^^ set.testBit i)⟩
theorem xor_lt {n s t : Nat} (hs : s < pw n) (ht : t < pw n) : s ^^^ t < pw n := Nat.xor_lt_two_pow hs ht
theorem two_lt {n k : Nat} (hk : k < n) : 2 ^ k < pw n := Nat.pow_lt_pow_right (by omega) hk
theorem turn_step (N : Net) (set : Nat) : Net.eqv ⟨N.n, stepF N.n fun s => stepN N (s ^^^ set) ^^^ set⟩ (turnN N set) := by
  refine ⟨rfl, fun i hi s hs => ?_⟩
  have hi : i < N.n := hi
  have hs : s < pw N.n := hs
  show upto (pw N.n) (fun s => (stepN N (s ^^^ set) ^^^ set).testBit i) s = (N.f i (s ^^^ set) ^^ set.testBit i)
  unfold upto
  rw [decide_eq_true hs, Bool.true_and]
  show (stepN N (s ^^^ set) ^^^ set).testBit i = _
  rw [Nat.testBit_xor, stepN_testBit, decide_eq_true hi, Bool.true_and]
theorem turn_turn {N M : Net} {set k : Nat} (h : M.eqv (turnN N set)) (hk : k < N.n) : (turnN M (2 ^ k)).eqv (turnN N (set ^^^ 2 ^ k)) := by
  have hn : M.n = N.n := h.1
  refine ⟨hn, fun i hi s hs => ?_⟩
  have hi : i < M.n := hi
  have hs : s < pw M.n := hs
  show (M.f i (s ^^^ 2 ^ k) ^^ (2 ^ k).testBit i) = (N.f i (s ^^^ (set ^^^ 2 ^ k)) ^^ (set ^^^ 2 ^ k).testBit i)
  rw [h.2 i hi _ (xor_lt hs (two_lt (by omega)))]
  show ((N.f i ((s ^^^ 2 ^ k) ^^^ set) ^^ set.testBit i) ^^ (2 ^ k).testBit i) = _
  rw [Nat.testBit_xor, Nat.xor_assoc, Nat.xor_comm (2 ^ k) set, Bool.xor_assoc]
theorem turn_zero (N : Net) : (turnN N 0).eqv N := by
  refine ⟨rfl, fun i hi s hs => ?_⟩
  show (N.f i (s ^^^ 0) ^^ (0 : Nat).testBit i) = N.f i s
  simp
/-- the first switches of a set -/
theorem mod_next {set k : Nat} : set % 2 ^ (k + 1) = if set.testBit k then (set % 2 ^ k) ^^^ 2 ^ k else set % 2 ^ k := by
  apply Nat.eq_of_testBit_eq
  intro j
  rw [Nat.testBit_mod_two_pow]
  split
  · rename_i h
    rw [Nat.testBit_xor, Nat.testBit_mod_two_pow, Nat.testBit_two_pow]
    by_cases e : k = j
    · subst e; simp [h]
    · have : (j < k + 1) = (j < k) := by simp; omega
      simp [e, this]
  · rename_i h
    rw [Nat.testBit_mod_two_pow]
    by_cases e : j = k
    · subst e; simp at h; simp [h]
    · have : (j < k + 1) = (j < k) := by simp; omega
      simp [this]
/-- the number of a switch in a network without i -/
def skip (i k : Nat) : Nat := if k < i then k else k + 1
theorem skip_lt {i k n : Nat} (hk : k < n - 1) : skip i k < n := by unfold skip; split <;> omega
theorem dropN_testBit (s i j : Nat) : (dropN s i).testBit j = s.testBit (skip i j) := by
  rw [← drop_or, Nat.testBit_or, Nat.testBit_mod_two_pow, Nat.mul_comm, Nat.testBit_two_pow_mul, Nat.testBit_div_two_pow]
  unfold skip
  by_cases h : j < i
  · have : ¬ i ≤ j := by omega
    simp [h, this]
  · have h2 : i ≤ j := by omega
    have h3 : j - i + (i + 1) = j + 1 := by omega
    simp [h, h2, h3]
def remN (N : Net) (i : Nat) : Net := ⟨N.n - 1, fun k s => N.f (skip i k) (liftN N i s)⟩
theorem rem_step (N : Net) (i : Nat) : Net.eqv ⟨N.n - 1, stepF (N.n - 1) fun s => dropN (stepN N (liftN N i s)) i⟩ (remN N i) := by
  refine ⟨rfl, fun k hk s hs => ?_⟩
  have hk : k < N.n - 1 := hk
  have hs : s < pw (N.n - 1) := hs
  show upto (pw (N.n - 1)) (fun s => (dropN (stepN N (liftN N i s)) i).testBit k) s = N.f (skip i k) (liftN N i s)
  unfold upto
  rw [decide_eq_true hs, Bool.true_and]
  show (dropN (stepN N (liftN N i s)) i).testBit k = _
  rw [dropN_testBit, stepN_testBit, decide_eq_true (skip_lt hk), Bool.true_and]
theorem Net.eqv.rem {N M : Net} (h : N.eqv M) {i : Nat} (hi : i < N.n) : (remN N i).eqv (remN M i) := by
  refine ⟨by show N.n - 1 = M.n - 1; rw [h.1], fun k hk s hs => ?_⟩
  have hk : k < N.n - 1 := hk
  have hs : s < pw (N.n - 1) := hs
  show N.f (skip i k) (liftN N i s) = M.f (skip i k) (liftN M i s)
  rw [h.2 _ (skip_lt hk) _ (liftN_lt N i s hi hs), h.lift hi hs]

/-! ### the first number below m with a property, or -1 -/
def firstI (p : Nat → Bool) : Nat → Int
  | 0 => -1
  | m + 1 => if firstI p m < 0 then (if p m then (m : Int) else -1) else firstI p m
theorem firstI_none {p : Nat → Bool} {m : Nat} (h : ∀ s, s < m → p s = false) : firstI p m = -1 := by
  induction m with
  | zero => rfl
  | succ m ih => rw [firstI, ih fun s hs => h s (by omega), if_pos (by decide), h m (by omega)]; rfl
theorem firstI_some {p : Nat → Bool} {m k : Nat} (hk : k < m) (hp : p k = true) (h : ∀ s, s < k → p s = false) : firstI p m = k := by
  induction m with
  | zero => omega
  | succ m ih =>
    rw [firstI]
    by_cases e : k = m
    · subst e
      rw [firstI_none h, if_pos (by decide), if_pos hp]
    · rw [ih (by omega), if_neg (by omega)]
theorem firstI_cases (p : Nat → Bool) (m : Nat) : (firstI p m = -1 ∧ ∀ s, s < m → p s = false) ∨ ∃ k, k < m ∧ firstI p m = k ∧ p k = true ∧ ∀ s, s < k → p s = false := by
  induction m with
  | zero => exact .inl ⟨rfl, fun s h => by omega⟩
  | succ m ih =>
    rcases ih with ⟨h1, h2⟩ | ⟨k, hk, _, hp, hl⟩
    · cases e : p m
      · left
        have hall : ∀ s, s < m + 1 → p s = false := fun s hs => by
          by_cases e2 : s = m
          · subst e2; exact e
          · exact h2 s (by omega)
        exact ⟨firstI_none hall, hall⟩
      · exact .inr ⟨m, by omega, firstI_some (by omega) e h2, e, h2⟩
    · exact .inr ⟨k, by omega, firstI_some (by omega) hp hl, hp, hl⟩
/-- what TurnsToMonotone says -/
def turnsI (w : ByteArray) : Int := if netOk w then firstI (fun set => monoN (turnN (netOf w) set)) (pw (netOf w).n) else -1
/-- what RemoveSwitch says -/
def remB (w : ByteArray) (i : Int) : Bool := swB w i && freeB (netOf w) i.toNat
def remT (w : ByteArray) (i : Int) : ByteArray := if remB w i then netText (remN (netOf w) i.toNat) else ByteArray.empty
end Go.Sw
