/- Texts cut at commas; networks as texts; no program in sight. -/
import Derived.Test.YtkfagolmpbbckaaDoorKit
import Derived.Lib.SplitLaws
namespace Go.Sw
open Go

/-- a list of bytes as a text -/
def bs (l : List UInt8) : ByteArray := ⟨l.toArray⟩
@[simp] theorem bs_data (l : List UInt8) : (bs l).data.toList = l := by simp [bs]
@[simp] theorem bs_size (l : List UInt8) : (bs l).size = l.length := by simp [bs, ByteArray.size]
theorem bs_of (f : ByteArray) : bs f.data.toList = f := by cases f; simp [bs]
theorem ba_ext {f g : ByteArray} (h : f.data.toList = g.data.toList) : f = g := by rw [← bs_of f, ← bs_of g, h]

/-- the pieces of a list between the signs c -/
def cuts (c : UInt8) : List UInt8 → List (List UInt8)
  | [] => [[]]
  | b :: l => if b = c then [] :: cuts c l else (b :: (cuts c l).headD []) :: (cuts c l).tail
theorem cuts_ne (c : UInt8) (l : List UInt8) : cuts c l ≠ [] := by
  cases l with
  | nil => simp [cuts]
  | cons b l => unfold cuts; split <;> simp
theorem cuts_length (c : UInt8) (l : List UInt8) : (cuts c l).length = l.count c + 1 := by
  induction l with
  | nil => rfl
  | cons b l ih =>
    unfold cuts
    by_cases h : b = c
    · subst h; simp [ih]
    · simp only [if_neg h, List.length_cons, List.length_tail, ih, List.count_cons_of_ne (by simpa using h)]; omega
theorem cuts_cons_head (c : UInt8) (l : List UInt8) : cuts c l = (cuts c l).headD [] :: (cuts c l).tail := by
  cases h : cuts c l with
  | nil => exact absurd h (cuts_ne c l)
  | cons a t => rfl
/-- a piece without the sign ahead of the first sign -/
theorem cuts_append (c : UInt8) (p l : List UInt8) (h : ∀ b ∈ p, b ≠ c) : cuts c (p ++ c :: l) = p :: cuts c l := by
  induction p with
  | nil => simp [cuts]
  | cons b p ih =>
    have hb := h b (List.mem_cons_self ..)
    have := ih (fun x hx => h x (List.mem_cons_of_mem _ hx))
    rw [List.cons_append, cuts, if_neg hb, this]; rfl
theorem cuts_none (c : UInt8) (p : List UInt8) (h : ∀ b ∈ p, b ≠ c) : cuts c p = [p] := by
  induction p with
  | nil => rfl
  | cons b p ih =>
    rw [cuts, if_neg (h b (List.mem_cons_self ..)), ih (fun x hx => h x (List.mem_cons_of_mem _ hx))]; rfl
theorem cuts_mem (c : UInt8) (l : List UInt8) : ∀ p ∈ cuts c l, p.length ≤ l.length := by
  induction l with
  | nil => intro p hp; simp [cuts] at hp; simp [hp]
  | cons b l ih =>
    intro p hp
    unfold cuts at hp
    split at hp
    · rcases List.mem_cons.1 hp with rfl | hp
      · simp
      · have := ih p hp; simp; omega
    · rcases List.mem_cons.1 hp with rfl | hp
      · have := ih ((cuts c l).headD []) (by rw [cuts_cons_head c l]; exact List.mem_cons_self ..)
        simpa using this
      · have := ih p (List.mem_of_mem_tail hp)
        simp; omega

theorem index_at (c : UInt8) (p l : List UInt8) (h : ∀ b ∈ p, b ≠ c) : Lib.index (p ++ c :: l) [c] = (p.length : Int) := by
  induction p with
  | nil => simp [Lib.index]
  | cons b p ih =>
    have hb := h b (List.mem_cons_self ..)
    have := ih (fun x hx => h x (List.mem_cons_of_mem _ hx))
    have hp : ([c].isPrefixOf (b :: (p ++ c :: l))) = false := by simp [List.isPrefixOf, Ne.symm hb]
    rw [List.cons_append, Lib.index, hp, this]
    have h1 : ((p.length : Int) == -1) = false := by rw [beq_eq_false_iff_ne]; omega
    simp [h1]
/-- what strings.Split gives at one sign -/
theorem splitK_cuts (c : UInt8) : ∀ (k : Nat) (l : List UInt8), l.count c = k → Lib.splitK [c] 0 k l = cuts c l
  | 0, l, h => by
    have hn : ∀ b ∈ l, b ≠ c := fun b hb e => by subst e; exact absurd (List.count_pos_iff.2 hb) (by omega)
    rw [cuts_none c l hn]; rfl
  | k + 1, l, h => by
    have hm : c ∈ l := List.count_pos_iff.1 (by omega)
    obtain ⟨p, t, hpt, hp⟩ := List.eq_append_cons_of_mem hm
    have hp' : ∀ b ∈ p, b ≠ c := fun b hb e => hp (e ▸ hb)
    subst hpt
    have hc : t.count c = k := by
      have : p.count c = 0 := List.count_eq_zero.2 hp
      simp [List.count_append, this] at h; exact h
    unfold Lib.splitK
    have h1 : ((p.length : Int) == -1) = false := by rw [beq_eq_false_iff_ne]; omega
    rw [index_at c p t hp', h1]
    simp only [Bool.false_eq_true, if_false, Int.toNat_natCast, List.length_singleton]
    rw [cuts_append c p t hp', ← splitK_cuts c k t hc]
    have e1 : List.take (p.length + 0) (p ++ c :: t) = p := by simp
    have e2 : List.drop (p.length + 1) (p ++ c :: t) = t := by
      rw [List.drop_append, List.drop_eq_nil_of_le (by omega)]; simp
    rw [e1, e2]

/-- the pieces of a text between commas -/
def partsOf (w : ByteArray) : List ByteArray := (cuts 44 w.data.toList).map bs
theorem partsOf_length (w : ByteArray) : (partsOf w).length = w.data.toList.count 44 + 1 := by simp [partsOf, cuts_length]
theorem partsOf_split (w : ByteArray) : Lib.splitB ⟨#[44]⟩ 0 (Lib.countB w ⟨#[44]⟩) w = partsOf w := by
  have hc : Lib.countB w ⟨#[44]⟩ = w.data.toList.count 44 := Lib.count_one 44 _
  have h := Lib.splitB_data ⟨#[44]⟩ 0 (Lib.countB w ⟨#[44]⟩) w
  rw [hc] at h ⊢
  have h2 : Lib.splitK [44] 0 (w.data.toList.count 44) w.data.toList = cuts 44 w.data.toList := splitK_cuts 44 _ _ rfl
  have h3 : (Lib.splitB ⟨#[44]⟩ 0 (w.data.toList.count 44) w).map (·.data.toList) = cuts 44 w.data.toList := by rw [h]; exact h2
  unfold partsOf
  rw [← h3, List.map_map]
  have : (bs ∘ fun x : ByteArray => x.data.toList) = id := by funext x; exact bs_of x
  rw [this, List.map_id]
theorem count_parts (w : ByteArray) : Lib.countB w ⟨#[44]⟩ + 1 = (partsOf w).length := by
  rw [partsOf_length]; exact congrArg (· + 1) (Lib.count_one 44 _)
theorem parts_le (w : ByteArray) : ∀ p ∈ partsOf w, p.size ≤ w.size := by
  intro p hp
  obtain ⟨l, hl, rfl⟩ := List.mem_map.1 hp
  have := cuts_mem 44 _ l hl
  simpa using this

/-- a network: how many switches; the rule of each, for each state -/
structure Net where
  n : Nat
  f : Nat → Nat → Bool
/-- is each piece a table of as many inputs as there are pieces? -/
def partOk (m : Nat) (p : ByteArray) : Bool := tabOk p && decide (logN p.size = m)
def netOk (w : ByteArray) : Bool := (partsOf w).all (partOk (partsOf w).length)
/-- the network that a text is, if it is one -/
def netOf (w : ByteArray) : Net := ⟨(partsOf w).length, fun i s => bitAt ((partsOf w).getD i ByteArray.empty) s⟩
theorem partOk_iff (m : Nat) (p : ByteArray) : partOk m p = true ↔ tabOk p = true ∧ logN p.size = m := by simp [partOk]
theorem tabOk_pos {p : ByteArray} (h : tabOk p = true) : 1 ≤ logN p.size ∧ logN p.size ≤ 5 ∧ p.size = pw (logN p.size) := by
  unfold tabOk at h
  simp only [Bool.and_eq_true, decide_eq_true_eq] at h
  rcases logN_spec p.size with h0 | h0
  · omega
  · exact h0
theorem parts_pos (w : ByteArray) : 1 ≤ (partsOf w).length := by rw [partsOf_length]; omega
theorem netOk_n {w : ByteArray} (h : netOk w = true) : 1 ≤ (partsOf w).length ∧ (partsOf w).length ≤ 5 := by
  refine ⟨parts_pos w, ?_⟩
  have hp := List.all_eq_true.1 h _ (List.getElem_mem (show 0 < (partsOf w).length from parts_pos w))
  obtain ⟨h1, h2⟩ := (partOk_iff _ _).1 hp
  have := tabOk_pos h1
  omega

/-- the text of a table -/
def tabText (n : Nat) (f : Nat → Bool) : ByteArray := bs ((List.range (pw n)).map fun s => if f s then 49 else 48)
/-- the texts of a network's tables -/
def netTexts (N : Net) : List ByteArray := (List.range N.n).map fun i => tabText N.n (N.f i)
theorem netTexts_length (N : Net) : (netTexts N).length = N.n := by simp [netTexts]
theorem netTexts_get (N : Net) (i : Nat) (h : i < N.n) : (netTexts N)[i]'(by rw [netTexts_length]; exact h) = tabText N.n (N.f i) := by simp [netTexts]
theorem tabText_size (n : Nat) (f : Nat → Bool) : (tabText n f).size = pw n := by simp [tabText]
theorem tabText_get (n : Nat) (f : Nat → Bool) (s : Nat) (h : s < pw n) : (tabText n f)[s]'(by rw [tabText_size]; exact h) = if f s then 49 else 48 := by
  rw [← byte_at _ s (by rw [tabText_size]; exact h)]
  simp [tabText]
theorem tabText_congr (n : Nat) (f g : Nat → Bool) (h : ∀ s, s < pw n → f s = g s) : tabText n f = tabText n g := by
  unfold tabText
  congr 1
  exact List.map_congr_left fun s hs => by rw [h s (List.mem_range.1 hs)]
theorem tabText_of {p : ByteArray} {n : Nat} (h : partOk n p = true) : tabText n (bitAt p) = p := by
  obtain ⟨h1, h2⟩ := (partOk_iff _ _).1 h
  have h3 := (tabOk_pos h1).2.2
  rw [h2] at h3
  apply ba_ext
  apply List.ext_getElem
  · simp [tabText, h3]
  · intro s hs1 hs2
    have hsp : s < p.size := by simpa using hs2
    have e : bitAt p s = (p[s] == 49) := by
      unfold bitAt
      rw [List.getD_eq_getElem?_getD, List.getElem?_eq_getElem hs2, Option.getD_some, byte_at p s hsp]
    have hb : isBit p[s] = true := by
      unfold tabOk at h1
      rw [Bool.and_eq_true] at h1
      have := List.all_eq_true.1 h1.2 _ (List.getElem_mem hs2)
      rwa [byte_at p s hsp] at this
    rw [byte_at p s hsp]
    simp only [tabText, bs_data, List.getElem_map, List.getElem_range, e]
    simp only [isBit, Bool.or_eq_true, beq_iff_eq] at hb
    rcases hb with hb | hb <;> rw [hb] <;> decide
theorem netTexts_of {w : ByteArray} (h : netOk w = true) : netTexts (netOf w) = partsOf w := by
  apply List.ext_getElem
  · rw [netTexts_length]; rfl
  · intro i h1 h2
    rw [netTexts_get _ _ h2]
    have hp := List.all_eq_true.1 h _ (List.getElem_mem h2)
    have := tabText_of hp
    show tabText (partsOf w).length (fun s => bitAt ((partsOf w).getD i ByteArray.empty) s) = _
    rw [List.getD_eq_getElem?_getD, List.getElem?_eq_getElem h2]
    exact this
theorem netOf_ok {w : ByteArray} (h : netOk w = true) : 1 ≤ (netOf w).n ∧ (netOf w).n ≤ 5 := netOk_n h

/-- the number with the digits that p tells -/
def ofBits (n : Nat) (p : Nat → Bool) : Nat := match n with
  | 0 => 0
  | k + 1 => ofBits k p + (p k).toNat * 2 ^ k
theorem ofBits_lt (n : Nat) (p : Nat → Bool) : ofBits n p < pw n := by
  induction n with
  | zero => simp [ofBits, pw]
  | succ k ih =>
    show ofBits k p + (p k).toNat * 2 ^ k < 2 ^ (k + 1)
    have ih : ofBits k p < 2 ^ k := ih
    have : (p k).toNat ≤ 1 := by cases p k <;> simp
    have h2 : (p k).toNat * 2 ^ k ≤ 1 * 2 ^ k := Nat.mul_le_mul_right _ this
    rw [Nat.pow_succ]; omega
theorem ofBits_testBit (n : Nat) (p : Nat → Bool) (i : Nat) : (ofBits n p).testBit i = (decide (i < n) && p i) := by
  induction n with
  | zero => simp [ofBits]
  | succ k ih =>
    unfold ofBits
    have hlt := ofBits_lt k p
    unfold pw at hlt
    rw [Nat.add_comm, Nat.mul_comm, Nat.testBit_two_pow_mul_add _ hlt]
    by_cases h : i < k
    · simp [h, ih]; omega
    · by_cases e : i = k
      · subst e; cases p i <;> simp
      · have : ¬ i < k + 1 := by omega
        simp only [h, this, if_false, decide_false, Bool.false_and]
        cases p k
        · simp
        · simp only [Bool.toNat_true]
          exact Nat.testBit_lt_two_pow (Nat.lt_of_lt_of_le (by decide : 1 < 2 ^ 1) (Nat.pow_le_pow_right (by omega) (by omega)))
/-- the state after a step of all switches -/
def stepN (N : Net) (s : Nat) : Nat := ofBits N.n fun i => N.f i s
theorem stepN_lt (N : Net) (s : Nat) : stepN N s < pw N.n := ofBits_lt _ _
/-- all switches that are 1 in s are so in t -/
def leB (s t : Nat) : Bool := (s &&& t) == s
/-- a text is a network, a number one of its states -/
def stB (w : ByteArray) (s : Int) : Bool := netOk w && (decide (0 ≤ s) && decide (s < (pw (netOf w).n : Nat)))
/-- .. one of its switches -/
def swB (w : ByteArray) (i : Int) : Bool := netOk w && (decide (0 ≤ i) && decide (i < ((netOf w).n : Nat)))
theorem i64_andNot (a b : Nat) (ha : a < 2 ^ 62) (hb : b < 2 ^ 62) : bits .andNot .i64 (a : Int) (b : Int) = ((a ^^^ (a &&& b) : Nat) : Int) := by
  have e : ∀ x y : BitVec 64, x &&& ~~~y = x ^^^ (x &&& y) := by
    intro x y
    ext i h
    simp only [BitVec.getElem_and, BitVec.getElem_not, BitVec.getElem_xor]
    cases x[i] <;> cases y[i] <;> rfl
  have h1 : a ^^^ (a &&& b) < 2 ^ 62 := Nat.xor_lt_two_pow ha (Nat.lt_of_le_of_lt Nat.and_le_left ha)
  simp only [bits]
  show IntKind.i64.wrap ((BitVec.ofInt 64 (a:Int) &&& ~~~ BitVec.ofInt 64 (b:Int)).toNat : Int) = _
  rw [e, BitVec.toNat_xor, BitVec.toNat_and, ofInt64 a ha, ofInt64 b hb]; exact wraps_i64 _ (by omega) (by omega)
theorem andNot_zero (a b : Nat) : (((a ^^^ (a &&& b) : Nat) : Int) == 0) = leB a b := by
  rw [Bool.eq_iff_iff]
  simp only [beq_iff_eq, leB]
  constructor
  · intro h
    have h : a ^^^ (a &&& b) = 0 := by omega
    have := congrArg (· ^^^ (a &&& b)) h
    simp only [Nat.xor_assoc, Nat.xor_self, Nat.xor_zero, Nat.zero_xor] at this
    simp [← this]
  · intro h
    rw [h]; simp

/-- a state in which the switch i has a value -/
def setN (s i : Nat) (v : Bool) : Nat := (s ^^^ (s &&& 2 ^ i)) ||| (v.toNat * 2 ^ i)
theorem set_facts (s i : Nat) (v : Bool) (hs : s < 32) (hi : i < 5) :
    bits .andNot .i64 (s : Int) ((2 : Int) ^ i) = ((s ^^^ (s &&& 2 ^ i) : Nat) : Int) ∧
    bits .or .i64 ((s ^^^ (s &&& 2 ^ i) : Nat) : Int) (((v.toNat : Nat) : Int) * 2 ^ i) = ((setN s i v : Nat) : Int) := by
  have hp := pow2_leN i (by omega)
  refine ⟨?_, ?_⟩
  · rw [pow_cast]; exact i64_andNot s (2 ^ i) (by omega) (by omega)
  · have e : (((v.toNat : Nat) : Int) * 2 ^ i) = ((v.toNat * 2 ^ i : Nat) : Int) := by simp
    rw [e]
    have h1 : s ^^^ (s &&& 2 ^ i) < 2 ^ 5 := Nat.xor_lt_two_pow hs (Nat.lt_of_le_of_lt Nat.and_le_left hs)
    have h2 : v.toNat * 2 ^ i ≤ 32 := by cases v <;> simp <;> omega
    exact i64_or _ _ (by omega) (by omega)
theorem setN_testBit (s i : Nat) (v : Bool) (j : Nat) : (setN s i v).testBit j = if j = i then v else s.testBit j := by
  unfold setN
  rw [Nat.testBit_or, Nat.testBit_xor, Nat.testBit_and, Nat.testBit_two_pow]
  by_cases h : j = i
  · subst h
    cases v <;> simp
  · have h' : i ≠ j := fun e => h e.symm
    cases v <;> simp [h, h']
theorem setN_lt (s i n : Nat) (v : Bool) (hs : s < pw n) (hi : i < n) : setN s i v < pw n := by
  unfold setN pw at *
  have h1 : s ^^^ (s &&& 2 ^ i) < 2 ^ n := Nat.xor_lt_two_pow hs (Nat.lt_of_le_of_lt Nat.and_le_left hs)
  have h2 : 2 ^ i < 2 ^ n := Nat.pow_lt_pow_right (by omega) hi
  exact Nat.or_lt_two_pow h1 (by cases v <;> simp <;> omega)
/-- what the reference says of a length: how many inputs, or -1 -/
def lnI (m : Nat) : Int := if 0 < logN m then (logN m : Int) else -1

/-- the state after a step of the switches of a set, as far as the switch k -/
def setStep (N : Net) (s which : Nat) : Nat → Nat
  | 0 => s
  | k + 1 => if which.testBit k then setN (setStep N s which k) k (N.f k s) else setStep N s which k
theorem setStep_testBit (N : Net) (s which k j : Nat) : (setStep N s which k).testBit j = if j < k ∧ which.testBit j = true then N.f j s else s.testBit j := by
  induction k with
  | zero => simp [setStep]
  | succ k ih =>
    unfold setStep
    by_cases hw : which.testBit k = true
    · rw [if_pos hw, setN_testBit, ih]
      by_cases e : j = k
      · subst e; simp [hw]
      · have : (j < k + 1) = (j < k) := by simp; omega
        simp [e, this]
    · rw [if_neg hw, ih]
      by_cases e : j = k
      · subst e; simp [hw]
      · have : (j < k + 1) = (j < k) := by simp; omega
        simp [this]
theorem setStep_lt (N : Net) (s which k n : Nat) (hs : s < pw n) (hk : k ≤ n) : setStep N s which k < pw n := by
  induction k with
  | zero => exact hs
  | succ k ih =>
    unfold setStep
    split
    · exact setN_lt _ _ _ _ (ih (by omega)) (by omega)
    · exact ih (by omega)
theorem pw_testBit (n j : Nat) : (pw n - 1).testBit j = decide (j < n) := by unfold pw; exact Nat.testBit_two_pow_sub_one ..
theorem testBit_high {s n j : Nat} (hs : s < pw n) (hj : n ≤ j) : s.testBit j = false :=
  Nat.testBit_lt_two_pow (Nat.lt_of_lt_of_le hs (Nat.pow_le_pow_right (by omega) hj))
theorem stepN_testBit (N : Net) (s j : Nat) : (stepN N s).testBit j = (decide (j < N.n) && N.f j s) := ofBits_testBit _ _ _
theorem setStep_all (N : Net) (s : Nat) (hs : s < pw N.n) : setStep N s (pw N.n - 1) N.n = stepN N s := by
  apply Nat.eq_of_testBit_eq
  intro j
  rw [setStep_testBit, stepN_testBit, pw_testBit]
  by_cases h : j < N.n
  · simp [h]
  · simp [h, testBit_high hs (by omega : N.n ≤ j)]
theorem setStep_one (N : Net) (s i : Nat) (hi : i < N.n) : setStep N s (2 ^ i) N.n = setN s i (N.f i s) := by
  apply Nat.eq_of_testBit_eq
  intro j
  rw [setStep_testBit, setN_testBit, Nat.testBit_two_pow]
  by_cases h : j = i
  · subst h; simp [hi]
  · have : i ≠ j := fun e => h e.symm
    simp [h, this]
theorem stB_yes {w : ByteArray} {x : Int} (h : stB w x = true) : netOk w = true ∧ 0 ≤ x ∧ x < (pw (netOf w).n : Nat) := by
  simpa [stB] using h
theorem stB_no {w : ByteArray} {x : Int} (h : stB w x = false) (hok : netOk w = true) : x < 0 ∨ ((pw (netOf w).n : Nat) : Int) ≤ x := by
  simp only [stB, hok, Bool.true_and, Bool.and_eq_false_iff, decide_eq_false_iff_not] at h
  omega
theorem swB_yes {w : ByteArray} {x : Int} (h : swB w x = true) : netOk w = true ∧ 0 ≤ x ∧ x < ((netOf w).n : Nat) := by
  simpa [swB] using h
theorem swB_no {w : ByteArray} {x : Int} (h : swB w x = false) (hok : netOk w = true) : x < 0 ∨ (((netOf w).n : Nat) : Int) ≤ x := by
  simp only [swB, hok, Bool.true_and, Bool.and_eq_false_iff, decide_eq_false_iff_not] at h
  omega

/-! ### signs -/
def upB (f : Nat → Bool) (i s : Nat) : Bool := !s.testBit i && (!f s && f (s ||| 2 ^ i))
def downB (f : Nat → Bool) (i s : Nat) : Bool := !s.testBit i && (f s && !f (s ||| 2 ^ i))
/-- can the input i turn the table on; off? -/
def sgU (n : Nat) (f : Nat → Bool) (i : Nat) : Bool := anyB (upB f i) (pw n)
def sgD (n : Nat) (f : Nat → Bool) (i : Nat) : Bool := anyB (downB f i) (pw n)
/-- the sign as a text, as a number -/
def sgT (u d : Bool) : ByteArray := if u then (if d then ⟨#[42]⟩ else ⟨#[43]⟩) else (if d then ⟨#[45]⟩ else ⟨#[48]⟩)
def sg (u d : Bool) : Int := (u.toNat : Int) + 2 * (d.toNat : Int)
theorem sg_or1 (u d : Bool) : bits .or .i64 (sg u d) 1 = sg true d := by cases u <;> cases d <;> decide
theorem sg_or2 (u d : Bool) : bits .or .i64 (sg u d) 2 = sg u true := by cases u <;> cases d <;> decide
/-- as the reference asks: over all states -/
def upS (f : Nat → Bool) (i s : Nat) : Bool := !f (setN s i false) && f (setN s i true)
def downS (f : Nat → Bool) (i s : Nat) : Bool := f (setN s i false) && !f (setN s i true)
theorem setN_false_of {s i : Nat} (h : s.testBit i = false) : setN s i false = s := by
  apply Nat.eq_of_testBit_eq
  intro j
  rw [setN_testBit]
  by_cases e : j = i
  · subst e; simp [h]
  · simp [e]
theorem setN_true_or (s i : Nat) : setN s i true = s ||| 2 ^ i := by
  apply Nat.eq_of_testBit_eq
  intro j
  rw [setN_testBit, Nat.testBit_or, Nat.testBit_two_pow]
  by_cases e : j = i
  · subst e; simp
  · have : i ≠ j := fun h => e h.symm
    simp [e, this]
theorem setN_setN (s i : Nat) (a b : Bool) : setN (setN s i a) i b = setN s i b := by
  apply Nat.eq_of_testBit_eq
  intro j
  rw [setN_testBit, setN_testBit, setN_testBit]
  by_cases e : j = i <;> simp [e]
theorem setN_bit (s i : Nat) (a : Bool) : (setN s i a).testBit i = a := by rw [setN_testBit]; simp
theorem anyB_congr2 {p q : Nat → Bool} {k : Nat} (h1 : ∀ s, s < k → p s = true → ∃ t, t < k ∧ q t = true) (h2 : ∀ s, s < k → q s = true → ∃ t, t < k ∧ p t = true) : anyB p k = anyB q k := by
  rw [Bool.eq_iff_iff, anyB_iff, anyB_iff]
  exact ⟨fun ⟨s, hs, hp⟩ => h1 s hs hp, fun ⟨s, hs, hp⟩ => h2 s hs hp⟩
theorem sgU_spec (n : Nat) (f : Nat → Bool) (i : Nat) (hi : i < n) : anyB (upS f i) (pw n) = sgU n f i := by
  refine anyB_congr2 (fun s hs h => ⟨setN s i false, setN_lt _ _ _ _ hs hi, ?_⟩) (fun s hs h => ⟨s, hs, ?_⟩)
  · unfold upB
    rw [setN_bit, ← setN_true_or, setN_setN]; exact h
  · unfold upB at h
    simp only [Bool.and_eq_true, Bool.not_eq_true'] at h
    unfold upS
    rw [setN_false_of h.1, setN_true_or, h.2.1, h.2.2]; rfl
theorem sgD_spec (n : Nat) (f : Nat → Bool) (i : Nat) (hi : i < n) : anyB (downS f i) (pw n) = sgD n f i := by
  refine anyB_congr2 (fun s hs h => ⟨setN s i false, setN_lt _ _ _ _ hs hi, ?_⟩) (fun s hs h => ⟨s, hs, ?_⟩)
  · unfold downB
    rw [setN_bit, ← setN_true_or, setN_setN]; exact h
  · unfold downB at h
    simp only [Bool.and_eq_true, Bool.not_eq_true'] at h
    unfold downS
    rw [setN_false_of h.1, setN_true_or, h.2.1, h.2.2]; rfl

/-! ### what the functions on texts come to -/
def stepI (w : ByteArray) (x : Int) : Int := if stB w x then (stepN (netOf w) x.toNat : Nat) else -1
def restI (w : ByteArray) (x : Int) : Int := if stB w x then (stepN (netOf w) x.toNat ^^^ x.toNat : Nat) else -1
def fallB (w : ByteArray) (x : Int) : Bool := stB w x && leB (stepN (netOf w) x.toNat) x.toNat
def riseB (w : ByteArray) (x : Int) : Bool := stB w x && leB x.toNat (stepN (netOf w) x.toNat)

theorem step_or (k : Nat) (p : Nat → Bool) (hk : k ≤ 5) : bits .or .i64 ((ofBits k p : Nat) : Int) (b2 (p k) * 2 ^ k) = ((ofBits k p + (p k).toNat * 2 ^ k : Nat) : Int) := by
  have h1 := ofBits_lt k p
  have h2 := pw_le hk
  have e : b2 (p k) * 2 ^ k = (((p k).toNat * 2 ^ k : Nat) : Int) := by cases p k <;> simp [b2]
  have h3 : (p k).toNat * 2 ^ k ≤ 32 := by have := pow2_leN k hk; cases p k <;> simp <;> omega
  rw [e, i64_or _ _ (by omega) (by omega), Nat.or_comm, nat_join k _ _ (by simp) h1, Nat.add_comm]

theorem tabOk_text {n : Nat} (h1 : 1 ≤ n) (h5 : n ≤ 5) (f : Nat → Bool) : tabOk (tabText n f) = true := by
  refine tab_good _ (by rw [tabText_size, logN_pw h1 h5]; omega) fun m hm => ?_
  rw [tabText_size] at hm
  rw [tabText_get n f m hm]
  cases f m <;> rfl
theorem lnI_pw {n : Nat} (h1 : 1 ≤ n) (h5 : n ≤ 5) : lnI (pw n) = n := by rw [lnI, logN_pw h1 h5, if_pos (by omega)]
/-- the sign of an influence, as a text -/
def infT (w : ByteArray) (a b : Int) : ByteArray :=
  if swB w a && swB w b then sgT (sgU (netOf w).n ((netOf w).f b.toNat) a.toNat) (sgD (netOf w).n ((netOf w).f b.toNat) a.toNat) else ByteArray.empty
/-- no switch acts by minus -/
def monoN (N : Net) : Bool := (List.range N.n).all fun j => (List.range N.n).all fun i => !sgD N.n (N.f i) j
def monoB (w : ByteArray) : Bool := netOk w && monoN (netOf w)
theorem monoN_iff (N : Net) : monoN N = true ↔ ∀ j i, j < N.n → i < N.n → sgD N.n (N.f i) j = false := by
  simp only [monoN, List.all_eq_true, List.mem_range, Bool.not_eq_true']
  exact ⟨fun h j i hj hi => h j hj i hi, fun h j hj i hi => h j i hj hi⟩
theorem monoN_bad {N : Net} {j i : Nat} (hj : j < N.n) (hi : i < N.n) (h : sgD N.n (N.f i) j = true) : monoN N = false := by
  cases e : monoN N with
  | false => rfl
  | true => rw [(monoN_iff N).1 e j i hj hi] at h; cases h
theorem sg_gt (u d : Bool) : decide ((1 : Int) < sg u d) = d := by cases u <;> cases d <;> decide
end Go.Sw
