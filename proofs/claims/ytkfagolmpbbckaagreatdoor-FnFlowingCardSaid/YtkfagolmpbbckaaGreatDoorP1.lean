/- Plain words and small lemmas that all texts of mine lean on: bits of states, powers of two, the cells of a table; no condition beyond those typed. Texts cut at commas; networks as texts; no program in sight. Plain words and lemmas: where steps lead to, states that rise or fall in a monotone network, joins. Plain words and lemmas: removing switches, and what a switch acts on in any number of steps. Plain words and lemmas: networks that are alike, turned, without a switch; the texts of networks; the first number of a kind. Plain words and lemmas: circuits of influences and their signs. Plain words and lemmas: the sign of a circuit, switch by switch. Plain words and lemmas: terms, their states, traps, the least term of some states. -/
import Derived.WalkKit
import Derived.WalkSmall
import Derived.BigQuiet
import Derived.Deep.QuietTactic
import Derived.Lib.Hide
import Derived.Lib.SplitLaws
namespace Go.Sw
open Go

theorem ret_int {k : IntKind} {a b : Int} (h : a = b) : Ending.returned (.int k a) = .returned (.int k b) := by rw [h]
def b2 (b : Bool) : Int := if b then 1 else 0
theorem b2_true : b2 true = 1 := rfl
theorem b2_false : b2 false = 0 := rfl
/-- the cells of a table -/
def tlist (n : Nat) (f : Nat → Bool) : List Value := Value.int .i64 n :: (List.range 32).map fun k => Value.int .u8 (b2 (f k))
def tcells (n : Nat) (f : Nat → Bool) : Array Value := (tlist n f).toArray
theorem tlist_length (n : Nat) (f : Nat → Bool) : (tlist n f).length = 33 := by simp [tlist]
theorem tcells_size (n : Nat) (f : Nat → Bool) : (tcells n f).size = 33 := by simp [tcells, tlist]
@[go_sem] theorem tcells_zero (n : Nat) (f : Nat → Bool) : (tcells n f)[0]? = some (.int .i64 n) := by simp [tcells, tlist]
theorem tcells_bit (n : Nat) (f : Nat → Bool) (k : Nat) (h : k < 32) : (tcells n f)[1 + k]? = some (.int .u8 (b2 (f k))) := by
  rw [Nat.add_comm]; simp [tcells, tlist, h]
theorem tcells_congr (n : Nat) (f g : Nat → Bool) (h : ∀ k, k < 32 → f k = g k) : tcells n f = tcells n g := by
  unfold tcells tlist
  congr 2
  exact List.map_congr_left fun k hk => by rw [h k (List.mem_range.1 hk)]
theorem tcells_one (n : Nat) (f : Nat → Bool) : (tcells n f).all (·.oneCell') = true := by
  rw [Array.all_eq_true_iff_forall_mem]
  intro v hv
  simp only [tcells, tlist, List.mem_toArray, List.mem_cons, List.mem_map] at hv
  rcases hv with rfl | ⟨_, _, rfl⟩ <;> rfl
theorem tcells_set (n : Nat) (f : Nat → Bool) (k : Nat) (b : Bool) (h : k < 32) :
    (tcells n f).setIfInBounds (1 + k) (.int .u8 (b2 b)) = tcells n (fun s => if s = k then b else f s) := by
  apply Array.ext_getElem?
  intro i
  rcases i with _ | i
  · simp [tcells_zero]
  · rw [show i + 1 = 1 + i from Nat.add_comm i 1]
    by_cases hi : i < 32
    · rw [tcells_bit _ _ i hi]
      by_cases e : i = k
      · subst e; rw [Array.getElem?_setIfInBounds_self_of_lt (by rw [tcells_size]; omega)]; simp
      · rw [Array.getElem?_setIfInBounds_ne (by omega), tcells_bit _ _ i hi]; simp [e]
    · rw [Array.getElem?_eq_none (by simp [tcells_size]; omega), Array.getElem?_eq_none (by simp [tcells_size]; omega)]
/-- the values of a function below a number, false from there on -/
def upto (k : Nat) (g : Nat → Bool) : Nat → Bool := fun s => decide (s < k) && g s
theorem upto_zero (g : Nat → Bool) : upto 0 g = fun _ => false := by funext s; simp [upto]
theorem upto_succ (k : Nat) (g : Nat → Bool) : (fun s => if s = k then g k else upto k g s) = upto (k + 1) g := by
  funext s
  unfold upto
  by_cases e : s = k
  · subst e; simp
  · have : (decide (s < k + 1)) = decide (s < k) := by simp; omega
    simp [e, this]

def anyB (p : Nat → Bool) : Nat → Bool
  | 0 => false
  | k + 1 => anyB p k || p k
theorem anyB_iff (p : Nat → Bool) (k : Nat) : anyB p k = true ↔ ∃ s, s < k ∧ p s = true := by
  induction k with
  | zero => simp [anyB]
  | succ k ih =>
    simp only [anyB, Bool.or_eq_true, ih]
    constructor
    · rintro (⟨s, h, hp⟩ | h)
      · exact ⟨s, by omega, hp⟩
      · exact ⟨k, by omega, h⟩
    · rintro ⟨s, h, hp⟩
      by_cases e : s = k
      · exact .inr (e ▸ hp)
      · exact .inl ⟨s, by omega, hp⟩
theorem pow2_le (n : Nat) (hn : n ≤ 5) : (1 : Int) ≤ 2 ^ n ∧ (2 : Int) ^ n ≤ 32 := by
  rcases n with _ | _ | _ | _ | _ | _ | n <;> simp_all <;> omega
theorem pow2_leN (n : Nat) (hn : n ≤ 5) : 1 ≤ 2 ^ n ∧ 2 ^ n ≤ 32 := by
  rcases n with _ | _ | _ | _ | _ | _ | n <;> simp_all <;> omega
theorem wraps_i64 (n : Int) (h₀ : 0 ≤ n) (h₁ : n < 2 ^ 62) : IntKind.i64.wrap n = n := IntWalk.i64_in _ (by omega)
theorem ofInt64 (a : Nat) (ha : a < 2 ^ 62) : (BitVec.ofInt 64 (a : Int)).toNat = a := by
  rw [BitVec.toNat_ofInt]; omega
theorem i64_and (a b : Nat) (ha : a < 2 ^ 62) (hb : b < 2 ^ 62) : bits .and .i64 (a : Int) (b : Int) = ((a &&& b : Nat) : Int) := by
  have h1 : a &&& b < 2 ^ 62 := Nat.lt_of_le_of_lt Nat.and_le_left ha
  simp only [bits, BitVec.toNat_and]
  show IntKind.i64.wrap (((BitVec.ofInt 64 (a:Int)).toNat &&& (BitVec.ofInt 64 (b:Int)).toNat : Nat) : Int) = _
  rw [ofInt64 a ha, ofInt64 b hb]; exact wraps_i64 _ (by omega) (by omega)
theorem i64_or (a b : Nat) (ha : a < 2 ^ 62) (hb : b < 2 ^ 62) : bits .or .i64 (a : Int) (b : Int) = ((a ||| b : Nat) : Int) := by
  have h1 : a ||| b < 2 ^ 62 := Nat.or_lt_two_pow ha hb
  simp only [bits, BitVec.toNat_or]
  show IntKind.i64.wrap (((BitVec.ofInt 64 (a:Int)).toNat ||| (BitVec.ofInt 64 (b:Int)).toNat : Nat) : Int) = _
  rw [ofInt64 a ha, ofInt64 b hb]; exact wraps_i64 _ (by omega) (by omega)
theorem i64_xor (a b : Nat) (ha : a < 2 ^ 62) (hb : b < 2 ^ 62) : bits .xor .i64 (a : Int) (b : Int) = ((a ^^^ b : Nat) : Int) := by
  have h1 : a ^^^ b < 2 ^ 62 := Nat.xor_lt_two_pow ha hb
  simp only [bits, BitVec.toNat_xor]
  show IntKind.i64.wrap (((BitVec.ofInt 64 (a:Int)).toNat ^^^ (BitVec.ofInt 64 (b:Int)).toNat : Nat) : Int) = _
  rw [ofInt64 a ha, ofInt64 b hb]; exact wraps_i64 _ (by omega) (by omega)
theorem and_one (x : Int) : bits .and .i64 x 1 = x % 2 := by
  simp only [bits, BitVec.toNat_and]
  show IntKind.i64.wrap (((BitVec.ofInt 64 x).toNat &&& (BitVec.ofInt 64 1).toNat : Nat) : Int) = _
  have e : (BitVec.ofInt 64 1).toNat = 1 := by decide
  rw [e, Nat.and_one_is_mod, BitVec.toNat_ofInt, IntWalk.i64_in _ (by omega)]
  omega
theorem div_pow_mod (k i : Nat) : ((k : Int) / 2 ^ i) % 2 = ((k.testBit i).toNat : Int) := by
  rw [Nat.toNat_testBit]; simp
@[go_sem] theorem bit_test (k i : Nat) : bits .and .i64 ((k : Int) / 2 ^ i) 1 = ((k.testBit i).toNat : Int) := by rw [and_one, div_pow_mod]
@[go_sem] theorem toNat_beq_one (b : Bool) : (((b.toNat : Nat) : Int) == 1) = b := by cases b <;> rfl
@[go_sem] theorem toNat_beq_zero (b : Bool) : (((b.toNat : Nat) : Int) == 0) = !b := by cases b <;> rfl
theorem pow_cast (i : Nat) : ((2 : Int) ^ i) = ((2 ^ i : Nat) : Int) := by simp
theorem or_pow (k i : Nat) (hk : k < 2 ^ 60) (hi : i ≤ 60) : bits .or .i64 (k : Int) ((2 : Int) ^ i) = ((k ||| 2 ^ i : Nat) : Int) := by
  rw [pow_cast]; exact i64_or k (2 ^ i) (by omega) (Nat.pow_lt_pow_right (by omega) (by omega))
theorem or_pow_lt (k i n : Nat) (hk : k < 2 ^ n) (hi : i < n) : k ||| 2 ^ i < 2 ^ n := Nat.or_lt_two_pow hk (Nat.pow_lt_pow_right (by omega) hi)
/-- how many states n switches have -/
def pw (n : Nat) : Nat := 2 ^ n
theorem pw_le {n : Nat} (hn : n ≤ 5) : 1 ≤ pw n ∧ pw n ≤ 32 := pow2_leN n hn
theorem pw_cast (n : Nat) : ((2 : Int) ^ n) = ((pw n : Nat) : Int) := by simp [pw]

/-- a number lies between two others -/
def inI (n lo hi : Int) : Bool := decide (lo ≤ n) && decide (n ≤ hi)
/-- a state without its switch i -/
def dropN (s i : Nat) : Nat := s / 2 ^ (i + 1) * 2 ^ i + s % 2 ^ i
theorem drop_le (s i : Nat) : s / 2 ^ (i + 1) * 2 ^ i ≤ s := by
  rw [Nat.pow_succ, ← Nat.div_div_eq_div_mul]
  calc s / 2 ^ i / 2 * 2 ^ i ≤ s / 2 ^ i * 2 ^ i := Nat.mul_le_mul_right _ (Nat.div_le_self _ _)
    _ ≤ s := Nat.div_mul_le_self _ _
theorem drop_or (s i : Nat) : s % 2 ^ i ||| s / 2 ^ (i + 1) * 2 ^ i = dropN s i := by
  rw [Nat.or_comm, nat_join i _ _ (by simp) (Nat.mod_lt _ (Nat.two_pow_pos i)), dropN]
theorem and_mask (s i : Nat) (hs : s < 2 ^ 60) (hi : i ≤ 60) : bits .and .i64 (s : Int) ((2 : Int) ^ i - 1) = (s : Int) % 2 ^ i := by
  have h1 : 1 ≤ 2 ^ i := Nat.one_le_two_pow
  have h2 : 2 ^ i ≤ 2 ^ 60 := Nat.pow_le_pow_right (by omega) hi
  have e : ((2 : Int) ^ i - 1) = ((2 ^ i - 1 : Nat) : Int) := by rw [Int.natCast_sub h1]; simp
  rw [e, i64_and s _ (by omega) (by omega), Nat.and_two_pow_sub_one_eq_mod]; simp
theorem drop_facts (s i : Nat) (hs : s < 32) (hi : i < 5) : bits .and .i64 (s : Int) ((2 : Int) ^ i - 1) = (s : Int) % 2 ^ i ∧ (0 : Int) ≤ (s : Int) / 2 ^ (i + 1) * 2 ^ i ∧ (s : Int) / 2 ^ (i + 1) * 2 ^ i < 32
    ∧ bits .or .i64 ((s : Int) % 2 ^ i) ((s : Int) / 2 ^ (i + 1) * 2 ^ i) = (dropN s i : Nat) := by
  have h2 := drop_le s i
  have e : ((s : Int) / 2 ^ (i + 1) * 2 ^ i) = ((s / 2 ^ (i + 1) * 2 ^ i : Nat) : Int) := by simp
  have e' : ((s : Int) % 2 ^ i) = ((s % 2 ^ i : Nat) : Int) := by simp
  have h3 := Nat.mod_le s (2 ^ i)
  refine ⟨and_mask s i (by omega) (by omega), by omega, by omega, ?_⟩
  rw [e, e', i64_or _ _ (by omega) (by omega), drop_or]

section laws
variable {P : Program} {ops : Array Oper} {rest : List Oper} {o : Oper} {a : Act} {w w' : World} {Q : Exit → Act → World → Prop} {v : Value}
/-- an operation that comes to a value -/
theorem wpList_val (hg : o.guard = none) (hr : (execOp a.eval o).run P w = .ok (.value v) w') (h : wpList P ops Q rest (a.put o.dst v) w') : wpList P ops Q (o :: rest) a w :=
  wpList_plain hg fun _ hK => by unfold Oper.wp; rw [hr]; exact hK _ _ h
theorem wpList_skip' (hg : o.guard = none) (hr : (execOp a.eval o).run P w = .ok .skip w') (h : wpList P ops Q rest (a.put o.dst undef) w') : wpList P ops Q (o :: rest) a w :=
  wpList_plain hg fun _ hK => by unfold Oper.wp; rw [hr]; exact hK _ _ h
theorem wpList_alloc' (hg : o.guard = none) (t : TypeId) (ho : o.op = .alloc t) (hr : (Instr.alloc t true (.tuple #[])).run P w = .ok v w')
    (h : wpList P ops Q rest (a.put o.dst v) w') : wpList P ops Q (o :: rest) a w :=
  wpList_val hg (by unfold execOp; simp only [ho, Sem.run_bind, Sem.run_pure, Result.andThen_ok, hr]) h
theorem map_parts (f : Nat × Operand → Nat × Value) (parts : Array (Nat × Operand)) {l : List (Nat × Value)} (h : parts.toList.map f = l) : parts.map f = l.toArray := by
  subst h; cases parts; simp
theorem wpList_build' (hg : o.guard = none) (t : TypeId) (parts : Array (Nat × Operand)) (ho : o.op = .build t parts) {l : List (Nat × Value)} (hp : parts.toList.map (fun (i, x) => (i, a.eval x)) = l)
    (hr : (Instr.build t l.toArray).run P w = .ok v w') (h : wpList P ops Q rest (a.put o.dst v) w') : wpList P ops Q (o :: rest) a w :=
  wpList_val hg (by unfold execOp; simp only [ho, map_parts _ _ hp, Sem.run_bind, Sem.run_pure, Result.andThen_ok, hr]) h
theorem wpList_buildSlice' (hg : o.guard = none) (t : TypeId) (n : Nat) (parts : Array (Nat × Operand)) (ho : o.op = .buildSlice t n parts) {l : List (Nat × Value)} (hp : parts.toList.map (fun (i, x) => (i, a.eval x)) = l)
    (hr : (Instr.buildSlice t n l.toArray).run P w = .ok v w') (h : wpList P ops Q rest (a.put o.dst v) w') : wpList P ops Q (o :: rest) a w :=
  wpList_val hg (by unfold execOp; simp only [ho, map_parts _ _ hp, Sem.run_bind, Sem.run_pure, Result.andThen_ok, hr]) h
theorem wpList_load' (hg : o.guard = none) (t : TypeId) (x : Operand) (ho : o.op = .load t x) {p : Value} (hx : a.eval x = p) (hr : (Instr.loadAt t p).run P w = .ok v w')
    (h : wpList P ops Q rest (a.put o.dst v) w') : wpList P ops Q (o :: rest) a w :=
  wpList_val hg (by subst hx; unfold execOp; simp only [ho, Sem.run_bind, Sem.run_pure, Result.andThen_ok, hr]) h
theorem wpList_store' (hg : o.guard = none) (t : TypeId) (x y : Operand) (ho : o.op = .store t x y) {p u : Value} (hx : a.eval x = p) (hy : a.eval y = u) (hr : (Instr.storeAt t p u).run P w = .ok () w')
    (h : wpList P ops Q rest (a.put o.dst undef) w') : wpList P ops Q (o :: rest) a w :=
  wpList_skip' hg (by subst hx; subst hy; unfold execOp; simp only [ho, Sem.run_bind, Sem.run_pure, Result.andThen_ok, hr]) h
/-- a guarded load whose guard says yes -/
theorem wpList_loadG (hgd : Region.wanted o (yielded ops a.tmps) = true) (t : TypeId) (x : Operand) (ho : o.op = .load t x) {p : Value} (hx : a.eval x = p) (hr : (Instr.loadAt t p).run P w = .ok v w')
    (h : wpList P ops Q rest (a.put o.dst v) w') : wpList P ops Q (o :: rest) a w :=
  wpList_step fun K hK => by
    rw [if_pos hgd]
    unfold Oper.wp
    have : (execOp a.eval o).run P w = .ok (.value v) w' := by subst hx; unfold execOp; simp only [ho, Sem.run_bind, Sem.run_pure, Result.andThen_ok, hr]
    rw [this]; exact hK _ _ h
end laws
theorem block_lt {w : World} {b : Nat} {o : Obj} (h : w.heap[b]? = some o) : b < w.heap.size := (Array.getElem?_eq_some_iff.1 h).1
theorem below_setRow {B : Nat} {a w : World} (h : RowKit.Below B a w) {g : Nat} (hg : B ≤ g) (cs : Array Value) : RowKit.Below B a (w.setRow g cs) :=
  h.trans ⟨rfl, rfl, rfl, by simp, fun k hk => setRow_other w g k cs (by omega)⟩

/-! ### tables as texts -/
/-- of how many inputs a table of a length is; 0: of none -/
def logN (m : Nat) : Nat := if m = 2 then 1 else if m = 4 then 2 else if m = 8 then 3 else if m = 16 then 4 else if m = 32 then 5 else 0
def isBit (b : UInt8) : Bool := b == 48 || b == 49
/-- a text is a table -/
def tabOk (f : ByteArray) : Bool := decide (0 < logN f.size) && f.data.toList.all isBit
/-- the value of a table for a state -/
def bitAt (f : ByteArray) (s : Nat) : Bool := f.data.toList.getD s 48 == 49
theorem logN_spec (m : Nat) : (logN m = 0 ∧ ∀ n, 1 ≤ n → n ≤ 5 → m ≠ pw n) ∨ (1 ≤ logN m ∧ logN m ≤ 5 ∧ m = pw (logN m)) := by
  unfold logN pw
  by_cases h1 : m = 2
  · right; simp [h1]
  by_cases h2 : m = 4
  · right; simp [h2]
  by_cases h3 : m = 8
  · right; simp [h3]
  by_cases h4 : m = 16
  · right; simp [h4]
  by_cases h5 : m = 32
  · right; simp [h5]
  left
  refine ⟨by simp [h1, h2, h3, h4, h5], fun n hn hn5 => ?_⟩
  have : n = 1 ∨ n = 2 ∨ n = 3 ∨ n = 4 ∨ n = 5 := by omega
  rcases this with rfl | rfl | rfl | rfl | rfl <;> simpa
theorem pw_inj {a b : Nat} (ha : 1 ≤ a) (ha5 : a ≤ 5) (hb : 1 ≤ b) (hb5 : b ≤ 5) (h : pw a = pw b) : a = b := by
  have h1 : a = 1 ∨ a = 2 ∨ a = 3 ∨ a = 4 ∨ a = 5 := by omega
  have h2 : b = 1 ∨ b = 2 ∨ b = 3 ∨ b = 4 ∨ b = 5 := by omega
  rcases h1 with rfl | rfl | rfl | rfl | rfl <;> rcases h2 with rfl | rfl | rfl | rfl | rfl <;> simp_all [pw]
theorem logN_pw {n : Nat} (h1 : 1 ≤ n) (h5 : n ≤ 5) : logN (pw n) = n := by
  have : n = 1 ∨ n = 2 ∨ n = 3 ∨ n = 4 ∨ n = 5 := by omega
  rcases this with rfl | rfl | rfl | rfl | rfl <;> rfl

theorem bit_no (v : UInt8) (h : isBit v = false) : ((v.toNat : Int) != 48) = true ∧ ((v.toNat : Int) != 49) = true := by
  simp only [isBit, Bool.or_eq_false_iff, beq_eq_false_iff_ne, ne_eq, ← UInt8.toNat_inj] at h
  simp only [bne_iff_ne, ne_eq]
  have h48 : (48 : UInt8).toNat = 48 := rfl
  have h49 : (49 : UInt8).toNat = 49 := rfl
  exact ⟨fun e => h.1 (by omega), fun e => h.2 (by omega)⟩
theorem bit_yes (v : UInt8) (h : isBit v = true) : (v = 48 ∧ ((v.toNat : Int) != 48) = false) ∨ (((v.toNat : Int) != 48) = true ∧ ((v.toNat : Int) != 49) = false) := by
  simp only [isBit, Bool.or_eq_true, beq_iff_eq] at h
  rcases h with rfl | rfl
  · exact .inl ⟨rfl, rfl⟩
  · exact .inr ⟨rfl, rfl⟩
theorem byte_at (f : ByteArray) (j : Nat) (h : j < f.size) : f.data.toList[j]'(by simpa using h) = f[j] := by
  simp [ByteArray.getElem_eq_getElem_data]
theorem tab_bad (f : ByteArray) (j : Nat) (h : j < f.size) (hb : isBit f[j] = false) : tabOk f = false := by
  unfold tabOk
  rw [Bool.and_eq_false_iff]
  right
  rw [List.all_eq_false]
  exact ⟨f.data.toList[j]'(by simpa using h), List.getElem_mem _, by rw [byte_at f j h, hb]; decide⟩
theorem tab_good (f : ByteArray) (h0 : 0 < logN f.size) (hb : ∀ m (h : m < f.size), isBit f[m] = true) : tabOk f = true := by
  unfold tabOk
  simp only [h0, decide_true, Bool.true_and, List.all_eq_true]
  intro x hx
  obtain ⟨m, hm, rfl⟩ := List.getElem_of_mem hx
  have hm' : m < f.size := by simpa using hm
  rw [byte_at f m hm']; exact hb m hm'

theorem bitAt_upto (f : ByteArray) (s : Nat) : upto f.size (bitAt f) s = bitAt f s := by
  unfold upto
  by_cases h : s < f.size
  · simp [h]
  · have : bitAt f s = false := by
      unfold bitAt
      rw [List.getD_eq_getElem?_getD, List.getElem?_eq_none (by simpa using h)]; rfl
    simp [h, this]
theorem bitAt_b2 (f : ByteArray) (s : Nat) (h : s < f.size) (hb : isBit f[s] = true) : ((f[s].toNat : Int) - 48) = b2 (bitAt f s) ∧ 48 ≤ f[s].toNat ∧ f[s].toNat ≤ 49 := by
  have e : bitAt f s = (f[s] == 49) := by
    unfold bitAt
    rw [List.getD_eq_getElem?_getD, List.getElem?_eq_getElem (by simpa using h), Option.getD_some, byte_at f s h]
  rw [e]
  simp only [isBit, Bool.or_eq_true, beq_iff_eq] at hb
  rcases hb with hb | hb <;> rw [hb] <;> decide

theorem enters_fn {P : Program} {f : FuncId} {fn : Func} {c : Code} (hf : P.funcs[f]? = some fn) (hname : (fn.name == "runtime.NumGoroutine") = false) (hb : fn.body = some c) :
    ∀ args w, (callFunc f args).run P w = .ok (.enter f args) w := by
  intro args w
  have h1 : fn.name ≠ "runtime.NumGoroutine" := by simpa using hname
  simp [callFunc, hf, h1, hb, mark]

theorem own_below {w w1 : World} {base e size n : Nat} {v : Value} {xs : List Value} (h : w.ownsRow base e size v n xs) (hb : RowKit.Below w.heap.size w w1) : w1.ownsRow base e size v n xs :=
  h.kept (row := none) ⟨hb.os, hb.tape, hb.output, hb.size, fun k hk _ => hb.block k hk⟩ (by cases hv : v.ownBlock <;> simp)

theorem own_ge {w : World} {base e size n : Nat} {v : Value} {xs : List Value} (h : w.ownsRow base e size v n xs) {g : Nat} (hg : v.ownBlock = some g) : base ≤ g := by
  rcases h.2 with ⟨rfl, _⟩ | ⟨g', cap, cur, rfl, hb, _⟩
  · simp [Value.ownBlock] at hg
  · simp [Value.ownBlock] at hg
    omega
theorem own_slice {w : World} {base e size n : Nat} {v : Value} {xs : List Value} (h : w.ownsRow base e size v n xs) (hn : 1 ≤ n) :
    ∃ g cap, v = .slice (some ⟨g, 0, none⟩) n cap ∧ base ≤ g ∧ g < w.heap.size := by
  rcases h.2 with ⟨rfl, hz⟩ | ⟨g', cap, cur, rfl, hb, hg, _⟩
  · omega
  · exact ⟨g', cap, rfl, hb, block_lt hg⟩
theorem cell_new {w : World} {b t : Nat} {v : Value} (hb : b = w.heap.size) : (w.alloc (.cells #[v] t)).cell? ⟨b, 0, none⟩ = some v := by
  subst hb
  rw [cell_of_row _ _ _ _ _ _ (heap_alloc_new _ _)]; rfl
end Go.Sw

namespace Go.Sw
open Go

/-- a list of bytes as a text -/
def bs (l : List UInt8) : ByteArray := ⟨l.toArray⟩
@[simp] theorem bs_data (l : List UInt8) : (bs l).data.toList = l := by simp [bs]
@[simp] theorem bs_size (l : List UInt8) : (bs l).size = l.length := by simp [bs, ByteArray.size]
theorem bs_of (f : ByteArray) : bs f.data.toList = f := by cases f; simp [bs]
theorem ba_ext {f g : ByteArray} (h : f.data.toList = g.data.toList) : f = g := by rw [← bs_of f, ← bs_of g, h]

/-- the pieces of a list between the signs c -/
def cuts (c : UInt8) : List UInt8 → List (List UInt8)
  | [] => [[]]
  | b :: l => if b = c then [] :: cuts c l else (b :: (cuts c l).headD []) :: (cuts c l).tail
theorem cuts_ne (c : UInt8) (l : List UInt8) : cuts c l ≠ [] := by
  cases l with
  | nil => simp [cuts]
  | cons b l => unfold cuts; split <;> simp
theorem cuts_length (c : UInt8) (l : List UInt8) : (cuts c l).length = l.count c + 1 := by
  induction l with
  | nil => rfl
  | cons b l ih =>
    unfold cuts
    by_cases h : b = c
    · subst h; simp [ih]
    · simp only [if_neg h, List.length_cons, List.length_tail, ih, List.count_cons_of_ne (by simpa using h)]; omega
theorem cuts_cons_head (c : UInt8) (l : List UInt8) : cuts c l = (cuts c l).headD [] :: (cuts c l).tail := by
  cases h : cuts c l with
  | nil => exact absurd h (cuts_ne c l)
  | cons a t => rfl
/-- a piece without the sign ahead of the first sign -/
theorem cuts_append (c : UInt8) (p l : List UInt8) (h : ∀ b ∈ p, b ≠ c) : cuts c (p ++ c :: l) = p :: cuts c l := by
  induction p with
  | nil => simp [cuts]
  | cons b p ih =>
    have hb := h b (List.mem_cons_self ..)
    have := ih (fun x hx => h x (List.mem_cons_of_mem _ hx))
    rw [List.cons_append, cuts, if_neg hb, this]; rfl
theorem cuts_none (c : UInt8) (p : List UInt8) (h : ∀ b ∈ p, b ≠ c) : cuts c p = [p] := by
  induction p with
  | nil => rfl
  | cons b p ih =>
    rw [cuts, if_neg (h b (List.mem_cons_self ..)), ih (fun x hx => h x (List.mem_cons_of_mem _ hx))]; rfl
theorem cuts_mem (c : UInt8) (l : List UInt8) : ∀ p ∈ cuts c l, p.length ≤ l.length := by
  induction l with
  | nil => intro p hp; simp [cuts] at hp; simp [hp]
  | cons b l ih =>
    intro p hp
    unfold cuts at hp
    split at hp
    · rcases List.mem_cons.1 hp with rfl | hp
      · simp
      · have := ih p hp; simp; omega
    · rcases List.mem_cons.1 hp with rfl | hp
      · have := ih ((cuts c l).headD []) (by rw [cuts_cons_head c l]; exact List.mem_cons_self ..)
        simpa using this
      · have := ih p (List.mem_of_mem_tail hp)
        simp; omega

theorem index_at (c : UInt8) (p l : List UInt8) (h : ∀ b ∈ p, b ≠ c) : Lib.index (p ++ c :: l) [c] = (p.length : Int) := by
  induction p with
  | nil => simp [Lib.index]
  | cons b p ih =>
    have hb := h b (List.mem_cons_self ..)
    have := ih (fun x hx => h x (List.mem_cons_of_mem _ hx))
    have hp : ([c].isPrefixOf (b :: (p ++ c :: l))) = false := by simp [List.isPrefixOf, Ne.symm hb]
    rw [List.cons_append, Lib.index, hp, this]
    have h1 : ((p.length : Int) == -1) = false := by rw [beq_eq_false_iff_ne]; omega
    simp [h1]
/-- what strings.Split gives at one sign -/
theorem splitK_cuts (c : UInt8) : ∀ (k : Nat) (l : List UInt8), l.count c = k → Lib.splitK [c] 0 k l = cuts c l
  | 0, l, h => by
    have hn : ∀ b ∈ l, b ≠ c := fun b hb e => by subst e; exact absurd (List.count_pos_iff.2 hb) (by omega)
    rw [cuts_none c l hn]; rfl
  | k + 1, l, h => by
    have hm : c ∈ l := List.count_pos_iff.1 (by omega)
    obtain ⟨p, t, hpt, hp⟩ := List.eq_append_cons_of_mem hm
    have hp' : ∀ b ∈ p, b ≠ c := fun b hb e => hp (e ▸ hb)
    subst hpt
    have hc : t.count c = k := by
      have : p.count c = 0 := List.count_eq_zero.2 hp
      simp [List.count_append, this] at h; exact h
    unfold Lib.splitK
    have h1 : ((p.length : Int) == -1) = false := by rw [beq_eq_false_iff_ne]; omega
    rw [index_at c p t hp', h1]
    simp only [Bool.false_eq_true, if_false, Int.toNat_natCast, List.length_singleton]
    rw [cuts_append c p t hp', ← splitK_cuts c k t hc]
    have e1 : List.take (p.length + 0) (p ++ c :: t) = p := by simp
    have e2 : List.drop (p.length + 1) (p ++ c :: t) = t := by
      rw [List.drop_append, List.drop_eq_nil_of_le (by omega)]; simp
    rw [e1, e2]

/-- the pieces of a text between commas -/
def partsOf (w : ByteArray) : List ByteArray := (cuts 44 w.data.toList).map bs
theorem partsOf_length (w : ByteArray) : (partsOf w).length = w.data.toList.count 44 + 1 := by simp [partsOf, cuts_length]
theorem partsOf_split (w : ByteArray) : Lib.splitB ⟨#[44]⟩ 0 (Lib.countB w ⟨#[44]⟩) w = partsOf w := by
  have hc : Lib.countB w ⟨#[44]⟩ = w.data.toList.count 44 := Lib.count_one 44 _
  have h := Lib.splitB_data ⟨#[44]⟩ 0 (Lib.countB w ⟨#[44]⟩) w
  rw [hc] at h ⊢
  have h2 : Lib.splitK [44] 0 (w.data.toList.count 44) w.data.toList = cuts 44 w.data.toList := splitK_cuts 44 _ _ rfl
  have h3 : (Lib.splitB ⟨#[44]⟩ 0 (w.data.toList.count 44) w).map (·.data.toList) = cuts 44 w.data.toList := by rw [h]; exact h2
  unfold partsOf
  rw [← h3, List.map_map]
  have : (bs ∘ fun x : ByteArray => x.data.toList) = id := by funext x; exact bs_of x
  rw [this, List.map_id]
theorem count_parts (w : ByteArray) : Lib.countB w ⟨#[44]⟩ + 1 = (partsOf w).length := by
  rw [partsOf_length]; exact congrArg (· + 1) (Lib.count_one 44 _)
theorem parts_le (w : ByteArray) : ∀ p ∈ partsOf w, p.size ≤ w.size := by
  intro p hp
  obtain ⟨l, hl, rfl⟩ := List.mem_map.1 hp
  have := cuts_mem 44 _ l hl
  simpa using this

/-- a network: how many switches; the rule of each, for each state -/
structure Net where
  n : Nat
  f : Nat → Nat → Bool
/-- is each piece a table of as many inputs as there are pieces? -/
def partOk (m : Nat) (p : ByteArray) : Bool := tabOk p && decide (logN p.size = m)
def netOk (w : ByteArray) : Bool := (partsOf w).all (partOk (partsOf w).length)
/-- the network that a text is, if it is one -/
def netOf (w : ByteArray) : Net := ⟨(partsOf w).length, fun i s => bitAt ((partsOf w).getD i ByteArray.empty) s⟩
theorem partOk_iff (m : Nat) (p : ByteArray) : partOk m p = true ↔ tabOk p = true ∧ logN p.size = m := by simp [partOk]
theorem tabOk_pos {p : ByteArray} (h : tabOk p = true) : 1 ≤ logN p.size ∧ logN p.size ≤ 5 ∧ p.size = pw (logN p.size) := by
  unfold tabOk at h
  simp only [Bool.and_eq_true, decide_eq_true_eq] at h
  rcases logN_spec p.size with h0 | h0
  · omega
  · exact h0
theorem parts_pos (w : ByteArray) : 1 ≤ (partsOf w).length := by rw [partsOf_length]; omega
theorem netOk_n {w : ByteArray} (h : netOk w = true) : 1 ≤ (partsOf w).length ∧ (partsOf w).length ≤ 5 := by
  refine ⟨parts_pos w, ?_⟩
  have hp := List.all_eq_true.1 h _ (List.getElem_mem (show 0 < (partsOf w).length from parts_pos w))
  obtain ⟨h1, h2⟩ := (partOk_iff _ _).1 hp
  have := tabOk_pos h1
  omega

/-- the text of a table -/
def tabText (n : Nat) (f : Nat → Bool) : ByteArray := bs ((List.range (pw n)).map fun s => if f s then 49 else 48)
/-- the texts of a network's tables -/
def netTexts (N : Net) : List ByteArray := (List.range N.n).map fun i => tabText N.n (N.f i)
theorem netTexts_length (N : Net) : (netTexts N).length = N.n := by simp [netTexts]
theorem netTexts_get (N : Net) (i : Nat) (h : i < N.n) : (netTexts N)[i]'(by rw [netTexts_length]; exact h) = tabText N.n (N.f i) := by simp [netTexts]
theorem tabText_size (n : Nat) (f : Nat → Bool) : (tabText n f).size = pw n := by simp [tabText]
theorem tabText_get (n : Nat) (f : Nat → Bool) (s : Nat) (h : s < pw n) : (tabText n f)[s]'(by rw [tabText_size]; exact h) = if f s then 49 else 48 := by
  rw [← byte_at _ s (by rw [tabText_size]; exact h)]
  simp [tabText]
theorem tabText_congr (n : Nat) (f g : Nat → Bool) (h : ∀ s, s < pw n → f s = g s) : tabText n f = tabText n g := by
  unfold tabText
  congr 1
  exact List.map_congr_left fun s hs => by rw [h s (List.mem_range.1 hs)]
theorem tabText_of {p : ByteArray} {n : Nat} (h : partOk n p = true) : tabText n (bitAt p) = p := by
  obtain ⟨h1, h2⟩ := (partOk_iff _ _).1 h
  have h3 := (tabOk_pos h1).2.2
  rw [h2] at h3
  apply ba_ext
  apply List.ext_getElem
  · simp [tabText, h3]
  · intro s hs1 hs2
    have hsp : s < p.size := by simpa using hs2
    have e : bitAt p s = (p[s] == 49) := by
      unfold bitAt
      rw [List.getD_eq_getElem?_getD, List.getElem?_eq_getElem hs2, Option.getD_some, byte_at p s hsp]
    have hb : isBit p[s] = true := by
      unfold tabOk at h1
      rw [Bool.and_eq_true] at h1
      have := List.all_eq_true.1 h1.2 _ (List.getElem_mem hs2)
      rwa [byte_at p s hsp] at this
    rw [byte_at p s hsp]
    simp only [tabText, bs_data, List.getElem_map, List.getElem_range, e]
    simp only [isBit, Bool.or_eq_true, beq_iff_eq] at hb
    rcases hb with hb | hb <;> rw [hb] <;> decide
theorem netTexts_of {w : ByteArray} (h : netOk w = true) : netTexts (netOf w) = partsOf w := by
  apply List.ext_getElem
  · rw [netTexts_length]; rfl
  · intro i h1 h2
    rw [netTexts_get _ _ h2]
    have hp := List.all_eq_true.1 h _ (List.getElem_mem h2)
    have := tabText_of hp
    show tabText (partsOf w).length (fun s => bitAt ((partsOf w).getD i ByteArray.empty) s) = _
    rw [List.getD_eq_getElem?_getD, List.getElem?_eq_getElem h2]
    exact this
theorem netOf_ok {w : ByteArray} (h : netOk w = true) : 1 ≤ (netOf w).n ∧ (netOf w).n ≤ 5 := netOk_n h

/-- the number with the digits that p tells -/
def ofBits (n : Nat) (p : Nat → Bool) : Nat := match n with
  | 0 => 0
  | k + 1 => ofBits k p + (p k).toNat * 2 ^ k
theorem ofBits_lt (n : Nat) (p : Nat → Bool) : ofBits n p < pw n := by
  induction n with
  | zero => simp [ofBits, pw]
  | succ k ih =>
    show ofBits k p + (p k).toNat * 2 ^ k < 2 ^ (k + 1)
    have ih : ofBits k p < 2 ^ k := ih
    have : (p k).toNat ≤ 1 := by cases p k <;> simp
    have h2 : (p k).toNat * 2 ^ k ≤ 1 * 2 ^ k := Nat.mul_le_mul_right _ this
    rw [Nat.pow_succ]; omega
theorem ofBits_testBit (n : Nat) (p : Nat → Bool) (i : Nat) : (ofBits n p).testBit i = (decide (i < n) && p i) := by
  induction n with
  | zero => simp [ofBits]
  | succ k ih =>
    unfold ofBits
    have hlt := ofBits_lt k p
    unfold pw at hlt
    rw [Nat.add_comm, Nat.mul_comm, Nat.testBit_two_pow_mul_add _ hlt]
    by_cases h : i < k
    · simp [h, ih]; omega
    · by_cases e : i = k
      · subst e; cases p i <;> simp
      · have : ¬ i < k + 1 := by omega
        simp only [h, this, if_false, decide_false, Bool.false_and]
        cases p k
        · simp
        · simp only [Bool.toNat_true]
          exact Nat.testBit_lt_two_pow (Nat.lt_of_lt_of_le (by decide : 1 < 2 ^ 1) (Nat.pow_le_pow_right (by omega) (by omega)))
/-- the state after a step of all switches -/
def stepN (N : Net) (s : Nat) : Nat := ofBits N.n fun i => N.f i s
theorem stepN_lt (N : Net) (s : Nat) : stepN N s < pw N.n := ofBits_lt _ _
/-- all switches that are 1 in s are so in t -/
def leB (s t : Nat) : Bool := (s &&& t) == s
/-- a text is a network, a number one of its states -/
def stB (w : ByteArray) (s : Int) : Bool := netOk w && (decide (0 ≤ s) && decide (s < (pw (netOf w).n : Nat)))
/-- .. one of its switches -/
def swB (w : ByteArray) (i : Int) : Bool := netOk w && (decide (0 ≤ i) && decide (i < ((netOf w).n : Nat)))
theorem i64_andNot (a b : Nat) (ha : a < 2 ^ 62) (hb : b < 2 ^ 62) : bits .andNot .i64 (a : Int) (b : Int) = ((a ^^^ (a &&& b) : Nat) : Int) := by
  have e : ∀ x y : BitVec 64, x &&& ~~~y = x ^^^ (x &&& y) := by
    intro x y
    ext i h
    simp only [BitVec.getElem_and, BitVec.getElem_not, BitVec.getElem_xor]
    cases x[i] <;> cases y[i] <;> rfl
  have h1 : a ^^^ (a &&& b) < 2 ^ 62 := Nat.xor_lt_two_pow ha (Nat.lt_of_le_of_lt Nat.and_le_left ha)
  simp only [bits]
  show IntKind.i64.wrap ((BitVec.ofInt 64 (a:Int) &&& ~~~ BitVec.ofInt 64 (b:Int)).toNat : Int) = _
  rw [e, BitVec.toNat_xor, BitVec.toNat_and, ofInt64 a ha, ofInt64 b hb]; exact wraps_i64 _ (by omega) (by omega)
theorem andNot_zero (a b : Nat) : (((a ^^^ (a &&& b) : Nat) : Int) == 0) = leB a b := by
  rw [Bool.eq_iff_iff]
  simp only [beq_iff_eq, leB]
  constructor
  · intro h
    have h : a ^^^ (a &&& b) = 0 := by omega
    have := congrArg (· ^^^ (a &&& b)) h
    simp only [Nat.xor_assoc, Nat.xor_self, Nat.xor_zero, Nat.zero_xor] at this
    simp [← this]
  · intro h
    rw [h]; simp

/-- a state in which the switch i has a value -/
def setN (s i : Nat) (v : Bool) : Nat := (s ^^^ (s &&& 2 ^ i)) ||| (v.toNat * 2 ^ i)
theorem set_facts (s i : Nat) (v : Bool) (hs : s < 32) (hi : i < 5) :
    bits .andNot .i64 (s : Int) ((2 : Int) ^ i) = ((s ^^^ (s &&& 2 ^ i) : Nat) : Int) ∧
    bits .or .i64 ((s ^^^ (s &&& 2 ^ i) : Nat) : Int) (((v.toNat : Nat) : Int) * 2 ^ i) = ((setN s i v : Nat) : Int) := by
  have hp := pow2_leN i (by omega)
  refine ⟨?_, ?_⟩
  · rw [pow_cast]; exact i64_andNot s (2 ^ i) (by omega) (by omega)
  · have e : (((v.toNat : Nat) : Int) * 2 ^ i) = ((v.toNat * 2 ^ i : Nat) : Int) := by simp
    rw [e]
    have h1 : s ^^^ (s &&& 2 ^ i) < 2 ^ 5 := Nat.xor_lt_two_pow hs (Nat.lt_of_le_of_lt Nat.and_le_left hs)
    have h2 : v.toNat * 2 ^ i ≤ 32 := by cases v <;> simp <;> omega
    exact i64_or _ _ (by omega) (by omega)
theorem setN_testBit (s i : Nat) (v : Bool) (j : Nat) : (setN s i v).testBit j = if j = i then v else s.testBit j := by
  unfold setN
  rw [Nat.testBit_or, Nat.testBit_xor, Nat.testBit_and, Nat.testBit_two_pow]
  by_cases h : j = i
  · subst h
    cases v <;> simp
  · have h' : i ≠ j := fun e => h e.symm
    cases v <;> simp [h, h']
theorem setN_lt (s i n : Nat) (v : Bool) (hs : s < pw n) (hi : i < n) : setN s i v < pw n := by
  unfold setN pw at *
  have h1 : s ^^^ (s &&& 2 ^ i) < 2 ^ n := Nat.xor_lt_two_pow hs (Nat.lt_of_le_of_lt Nat.and_le_left hs)
  have h2 : 2 ^ i < 2 ^ n := Nat.pow_lt_pow_right (by omega) hi
  exact Nat.or_lt_two_pow h1 (by cases v <;> simp <;> omega)
/-- what the reference says of a length: how many inputs, or -1 -/
def lnI (m : Nat) : Int := if 0 < logN m then (logN m : Int) else -1

/-- the state after a step of the switches of a set, as far as the switch k -/
def setStep (N : Net) (s which : Nat) : Nat → Nat
  | 0 => s
  | k + 1 => if which.testBit k then setN (setStep N s which k) k (N.f k s) else setStep N s which k
theorem setStep_testBit (N : Net) (s which k j : Nat) : (setStep N s which k).testBit j = if j < k ∧ which.testBit j = true then N.f j s else s.testBit j := by
  induction k with
  | zero => simp [setStep]
  | succ k ih =>
    unfold setStep
    by_cases hw : which.testBit k = true
    · rw [if_pos hw, setN_testBit, ih]
      by_cases e : j = k
      · subst e; simp [hw]
      · have : (j < k + 1) = (j < k) := by simp; omega
        simp [e, this]
    · rw [if_neg hw, ih]
      by_cases e : j = k
      · subst e; simp [hw]
      · have : (j < k + 1) = (j < k) := by simp; omega
        simp [this]
theorem setStep_lt (N : Net) (s which k n : Nat) (hs : s < pw n) (hk : k ≤ n) : setStep N s which k < pw n := by
  induction k with
  | zero => exact hs
  | succ k ih =>
    unfold setStep
    split
    · exact setN_lt _ _ _ _ (ih (by omega)) (by omega)
    · exact ih (by omega)
theorem pw_testBit (n j : Nat) : (pw n - 1).testBit j = decide (j < n) := by unfold pw; exact Nat.testBit_two_pow_sub_one ..
theorem testBit_high {s n j : Nat} (hs : s < pw n) (hj : n ≤ j) : s.testBit j = false :=
  Nat.testBit_lt_two_pow (Nat.lt_of_lt_of_le hs (Nat.pow_le_pow_right (by omega) hj))
theorem stepN_testBit (N : Net) (s j : Nat) : (stepN N s).testBit j = (decide (j < N.n) && N.f j s) := ofBits_testBit _ _ _
theorem setStep_all (N : Net) (s : Nat) (hs : s < pw N.n) : setStep N s (pw N.n - 1) N.n = stepN N s := by
  apply Nat.eq_of_testBit_eq
  intro j
  rw [setStep_testBit, stepN_testBit, pw_testBit]
  by_cases h : j < N.n
  · simp [h]
  · simp [h, testBit_high hs (by omega : N.n ≤ j)]
theorem setStep_one (N : Net) (s i : Nat) (hi : i < N.n) : setStep N s (2 ^ i) N.n = setN s i (N.f i s) := by
  apply Nat.eq_of_testBit_eq
  intro j
  rw [setStep_testBit, setN_testBit, Nat.testBit_two_pow]
  by_cases h : j = i
  · subst h; simp [hi]
  · have : i ≠ j := fun e => h e.symm
    simp [h, this]
theorem stB_yes {w : ByteArray} {x : Int} (h : stB w x = true) : netOk w = true ∧ 0 ≤ x ∧ x < (pw (netOf w).n : Nat) := by
  simpa [stB] using h
theorem stB_no {w : ByteArray} {x : Int} (h : stB w x = false) (hok : netOk w = true) : x < 0 ∨ ((pw (netOf w).n : Nat) : Int) ≤ x := by
  simp only [stB, hok, Bool.true_and, Bool.and_eq_false_iff, decide_eq_false_iff_not] at h
  omega
theorem swB_yes {w : ByteArray} {x : Int} (h : swB w x = true) : netOk w = true ∧ 0 ≤ x ∧ x < ((netOf w).n : Nat) := by
  simpa [swB] using h
theorem swB_no {w : ByteArray} {x : Int} (h : swB w x = false) (hok : netOk w = true) : x < 0 ∨ (((netOf w).n : Nat) : Int) ≤ x := by
  simp only [swB, hok, Bool.true_and, Bool.and_eq_false_iff, decide_eq_false_iff_not] at h
  omega

/-! ### signs -/
def upB (f : Nat → Bool) (i s : Nat) : Bool := !s.testBit i && (!f s && f (s ||| 2 ^ i))
def downB (f : Nat → Bool) (i s : Nat) : Bool := !s.testBit i && (f s && !f (s ||| 2 ^ i))
/-- can the input i turn the table on; off? -/
def sgU (n : Nat) (f : Nat → Bool) (i : Nat) : Bool := anyB (upB f i) (pw n)
def sgD (n : Nat) (f : Nat → Bool) (i : Nat) : Bool := anyB (downB f i) (pw n)
/-- the sign as a text, as a number -/
def sgT (u d : Bool) : ByteArray := if u then (if d then ⟨#[42]⟩ else ⟨#[43]⟩) else (if d then ⟨#[45]⟩ else ⟨#[48]⟩)
def sg (u d : Bool) : Int := (u.toNat : Int) + 2 * (d.toNat : Int)
theorem sg_or1 (u d : Bool) : bits .or .i64 (sg u d) 1 = sg true d := by cases u <;> cases d <;> decide
theorem sg_or2 (u d : Bool) : bits .or .i64 (sg u d) 2 = sg u true := by cases u <;> cases d <;> decide
/-- as the reference asks: over all states -/
def upS (f : Nat → Bool) (i s : Nat) : Bool := !f (setN s i false) && f (setN s i true)
def downS (f : Nat → Bool) (i s : Nat) : Bool := f (setN s i false) && !f (setN s i true)
theorem setN_false_of {s i : Nat} (h : s.testBit i = false) : setN s i false = s := by
  apply Nat.eq_of_testBit_eq
  intro j
  rw [setN_testBit]
  by_cases e : j = i
  · subst e; simp [h]
  · simp [e]
theorem setN_true_or (s i : Nat) : setN s i true = s ||| 2 ^ i := by
  apply Nat.eq_of_testBit_eq
  intro j
  rw [setN_testBit, Nat.testBit_or, Nat.testBit_two_pow]
  by_cases e : j = i
  · subst e; simp
  · have : i ≠ j := fun h => e h.symm
    simp [e, this]
theorem setN_setN (s i : Nat) (a b : Bool) : setN (setN s i a) i b = setN s i b := by
  apply Nat.eq_of_testBit_eq
  intro j
  rw [setN_testBit, setN_testBit, setN_testBit]
  by_cases e : j = i <;> simp [e]
theorem setN_bit (s i : Nat) (a : Bool) : (setN s i a).testBit i = a := by rw [setN_testBit]; simp
theorem anyB_congr2 {p q : Nat → Bool} {k : Nat} (h1 : ∀ s, s < k → p s = true → ∃ t, t < k ∧ q t = true) (h2 : ∀ s, s < k → q s = true → ∃ t, t < k ∧ p t = true) : anyB p k = anyB q k := by
  rw [Bool.eq_iff_iff, anyB_iff, anyB_iff]
  exact ⟨fun ⟨s, hs, hp⟩ => h1 s hs hp, fun ⟨s, hs, hp⟩ => h2 s hs hp⟩
theorem sgU_spec (n : Nat) (f : Nat → Bool) (i : Nat) (hi : i < n) : anyB (upS f i) (pw n) = sgU n f i := by
  refine anyB_congr2 (fun s hs h => ⟨setN s i false, setN_lt _ _ _ _ hs hi, ?_⟩) (fun s hs h => ⟨s, hs, ?_⟩)
  · unfold upB
    rw [setN_bit, ← setN_true_or, setN_setN]; exact h
  · unfold upB at h
    simp only [Bool.and_eq_true, Bool.not_eq_true'] at h
    unfold upS
    rw [setN_false_of h.1, setN_true_or, h.2.1, h.2.2]; rfl
theorem sgD_spec (n : Nat) (f : Nat → Bool) (i : Nat) (hi : i < n) : anyB (downS f i) (pw n) = sgD n f i := by
  refine anyB_congr2 (fun s hs h => ⟨setN s i false, setN_lt _ _ _ _ hs hi, ?_⟩) (fun s hs h => ⟨s, hs, ?_⟩)
  · unfold downB
    rw [setN_bit, ← setN_true_or, setN_setN]; exact h
  · unfold downB at h
    simp only [Bool.and_eq_true, Bool.not_eq_true'] at h
    unfold downS
    rw [setN_false_of h.1, setN_true_or, h.2.1, h.2.2]; rfl

/-! ### what the functions on texts come to -/
def stepI (w : ByteArray) (x : Int) : Int := if stB w x then (stepN (netOf w) x.toNat : Nat) else -1
def restI (w : ByteArray) (x : Int) : Int := if stB w x then (stepN (netOf w) x.toNat ^^^ x.toNat : Nat) else -1
def fallB (w : ByteArray) (x : Int) : Bool := stB w x && leB (stepN (netOf w) x.toNat) x.toNat
def riseB (w : ByteArray) (x : Int) : Bool := stB w x && leB x.toNat (stepN (netOf w) x.toNat)

theorem step_or (k : Nat) (p : Nat → Bool) (hk : k ≤ 5) : bits .or .i64 ((ofBits k p : Nat) : Int) (b2 (p k) * 2 ^ k) = ((ofBits k p + (p k).toNat * 2 ^ k : Nat) : Int) := by
  have h1 := ofBits_lt k p
  have h2 := pw_le hk
  have e : b2 (p k) * 2 ^ k = (((p k).toNat * 2 ^ k : Nat) : Int) := by cases p k <;> simp [b2]
  have h3 : (p k).toNat * 2 ^ k ≤ 32 := by have := pow2_leN k hk; cases p k <;> simp <;> omega
  rw [e, i64_or _ _ (by omega) (by omega), Nat.or_comm, nat_join k _ _ (by simp) h1, Nat.add_comm]

theorem tabOk_text {n : Nat} (h1 : 1 ≤ n) (h5 : n ≤ 5) (f : Nat → Bool) : tabOk (tabText n f) = true := by
  refine tab_good _ (by rw [tabText_size, logN_pw h1 h5]; omega) fun m hm => ?_
  rw [tabText_size] at hm
  rw [tabText_get n f m hm]
  cases f m <;> rfl
theorem lnI_pw {n : Nat} (h1 : 1 ≤ n) (h5 : n ≤ 5) : lnI (pw n) = n := by rw [lnI, logN_pw h1 h5, if_pos (by omega)]
/-- the sign of an influence, as a text -/
def infT (w : ByteArray) (a b : Int) : ByteArray :=
  if swB w a && swB w b then sgT (sgU (netOf w).n ((netOf w).f b.toNat) a.toNat) (sgD (netOf w).n ((netOf w).f b.toNat) a.toNat) else ByteArray.empty
/-- no switch acts by minus -/
def monoN (N : Net) : Bool := (List.range N.n).all fun j => (List.range N.n).all fun i => !sgD N.n (N.f i) j
def monoB (w : ByteArray) : Bool := netOk w && monoN (netOf w)
theorem monoN_iff (N : Net) : monoN N = true ↔ ∀ j i, j < N.n → i < N.n → sgD N.n (N.f i) j = false := by
  simp only [monoN, List.all_eq_true, List.mem_range, Bool.not_eq_true']
  exact ⟨fun h j i hj hi => h j hj i hi, fun h j hj i hi => h j i hj hi⟩
theorem monoN_bad {N : Net} {j i : Nat} (hj : j < N.n) (hi : i < N.n) (h : sgD N.n (N.f i) j = true) : monoN N = false := by
  cases e : monoN N with
  | false => rfl
  | true => rw [(monoN_iff N).1 e j i hj hi] at h; cases h
theorem sg_gt (u d : Bool) : decide ((1 : Int) < sg u d) = d := by cases u <;> cases d <;> decide
end Go.Sw

namespace Go.Sw
open Go

/-- so many steps of all switches -/
def iterN (N : Net) : Nat → Nat → Nat
  | 0, s => s
  | k + 1, s => iterN N k (stepN N s)
theorem iterN_succ (N : Net) (k s : Nat) : iterN N (k + 1) s = stepN N (iterN N k s) := by
  induction k generalizing s with
  | zero => rfl
  | succ k ih => exact ih (stepN N s)
theorem iterN_add (N : Net) (a b s : Nat) : iterN N (a + b) s = iterN N a (iterN N b s) := by
  induction a with
  | zero => simp [iterN]
  | succ a ih => rw [show a + 1 + b = (a + b) + 1 by omega, iterN_succ, iterN_succ, ih]
theorem iterN_fix (N : Net) (k t : Nat) (h : stepN N t = t) : iterN N k t = t := by
  induction k with
  | zero => rfl
  | succ k ih => rw [iterN, h, ih]
/-- where 32 steps lead to -/
def limN (N : Net) (s : Nat) : Nat := iterN N 32 s
theorem limN_of (N : Net) (s t k : Nat) (hk : k ≤ 32) (h : iterN N k s = t) (hf : stepN N t = t) : limN N s = t := by
  unfold limN
  rw [show 32 = (32 - k) + k by omega, iterN_add, h, iterN_fix N _ _ hf]
theorem iterN_lt (N : Net) (k s : Nat) (hs : s < pw N.n) : iterN N k s < pw N.n := by
  induction k generalizing s with
  | zero => exact hs
  | succ k ih => exact ih _ (stepN_lt N s)

theorem leB_iff (s t : Nat) : leB s t = true ↔ ∀ i, s.testBit i = true → t.testBit i = true := by
  unfold leB
  simp only [beq_iff_eq]
  constructor
  · intro h i hi
    rw [← h, Nat.testBit_and, Bool.and_eq_true] at hi
    exact hi.2
  · intro h
    apply Nat.eq_of_testBit_eq
    intro i
    rw [Nat.testBit_and]
    cases e : s.testBit i
    · rfl
    · rw [h i e]; rfl
theorem leB_le {s t : Nat} (h : leB s t = true) : s ≤ t := by
  have : s &&& t = s := by simpa [leB] using h
  rw [← this]; exact Nat.and_le_right
theorem leB_refl (s : Nat) : leB s s = true := (leB_iff _ _).2 fun _ h => h
theorem leB_trans {a b c : Nat} (h1 : leB a b = true) (h2 : leB b c = true) : leB a c = true :=
  (leB_iff _ _).2 fun i h => (leB_iff _ _).1 h2 i ((leB_iff _ _).1 h1 i h)
theorem leB_antisymm {a b : Nat} (h1 : leB a b = true) (h2 : leB b a = true) : a = b := Nat.le_antisymm (leB_le h1) (leB_le h2)
theorem or_testBit_two (s k j : Nat) : (s ||| 2 ^ k).testBit j = if j = k then true else s.testBit j := by
  rw [Nat.testBit_or, Nat.testBit_two_pow]
  by_cases e : j = k
  · subst e; simp
  · have : ¬ k = j := fun h => e h.symm
    simp [e, this]
theorem anyB_false {p : Nat → Bool} {k : Nat} (h : anyB p k = false) (s : Nat) (hs : s < k) : p s = false := by
  cases e : p s with
  | false => rfl
  | true =>
    have := (anyB_iff p k).2 ⟨s, hs, e⟩
    rw [h] at this; exact absurd this (by decide)
/-- a rule in which no switch acts by minus keeps the order -/
theorem rule_mono {n : Nat} {f : Nat → Bool} (h : ∀ j, j < n → sgD n f j = false) {s t : Nat} (ht : t < pw n) (hle : leB s t = true) (hs : f s = true) : f t = true := by
  have hsn : s < pw n := Nat.lt_of_le_of_lt (leB_le hle) ht
  have key : ∀ k, k ≤ n → f (s ||| t % 2 ^ k) = true := by
    intro k hk
    induction k with
    | zero => simpa [Nat.mod_one] using hs
    | succ k ih =>
      have ih := ih (by omega)
      by_cases hb : (s ||| t % 2 ^ k).testBit k = false ∧ t.testBit k = true
      · have e : s ||| t % 2 ^ (k + 1) = (s ||| t % 2 ^ k) ||| 2 ^ k := by
          apply Nat.eq_of_testBit_eq
          intro j
          rw [or_testBit_two, Nat.testBit_or, Nat.testBit_or, Nat.testBit_mod_two_pow, Nat.testBit_mod_two_pow]
          by_cases ej : j = k
          · subst ej; simp [hb.2]
          · have : (j < k + 1) = (j < k) := by simp; omega
            simp [ej, this]
        have hlt : s ||| t % 2 ^ k < pw n := Nat.or_lt_two_pow hsn (Nat.lt_of_le_of_lt (Nat.mod_le _ _) ht)
        have hd := anyB_false (h k (by omega)) _ hlt
        unfold downB at hd
        rw [hb.1, ih] at hd
        rw [e]
        simpa using hd
      · have e : s ||| t % 2 ^ (k + 1) = s ||| t % 2 ^ k := by
          apply Nat.eq_of_testBit_eq
          intro j
          rw [Nat.testBit_or, Nat.testBit_or, Nat.testBit_mod_two_pow, Nat.testBit_mod_two_pow]
          by_cases ej : j = k
          · subst ej
            rw [Nat.testBit_or, Nat.testBit_mod_two_pow] at hb
            simp at hb
            cases e1 : s.testBit j
            · simp [hb e1]
            · simp
          · have : (j < k + 1) = (j < k) := by simp; omega
            simp [this]
        rw [e]; exact ih
  have := key n (Nat.le_refl _)
  have e : s ||| t % 2 ^ n = t := by
    rw [Nat.mod_eq_of_lt (show t < 2 ^ n from ht)]
    apply Nat.eq_of_testBit_eq
    intro j
    rw [Nat.testBit_or]
    cases e : s.testBit j
    · rfl
    · rw [(leB_iff _ _).1 hle j e]; rfl
  rwa [e] at this
theorem step_mono {N : Net} (h : monoN N = true) {s t : Nat} (ht : t < pw N.n) (hle : leB s t = true) : leB (stepN N s) (stepN N t) = true := by
  rw [leB_iff]
  intro i hi
  rw [stepN_testBit, Bool.and_eq_true, decide_eq_true_eq] at hi ⊢
  exact ⟨hi.1, rule_mono (fun j hj => (monoN_iff N).1 h j i hj hi.1) ht hle hi.2⟩
/-- a state that rises: how far it can -/
def riseP (N : Net) (s : Nat) : Prop := s < pw N.n ∧ leB s (stepN N s) = true
def fallP (N : Net) (s : Nat) : Prop := s < pw N.n ∧ leB (stepN N s) s = true
theorem riseP_step {N : Net} (h : monoN N = true) {s : Nat} (hs : riseP N s) (hne : stepN N s ≠ s) : riseP N (stepN N s) ∧ 32 - stepN N s + 1 ≤ 32 - s ∨ 5 < N.n := by
  by_cases h5 : N.n ≤ 5
  · have hp := pw_le h5
    have hlt := stepN_lt N s
    refine .inl ⟨⟨hlt, step_mono h hlt hs.2⟩, ?_⟩
    have := leB_le hs.2
    omega
  · exact .inr (by omega)
theorem fallP_step {N : Net} (h : monoN N = true) {s : Nat} (hs : fallP N s) (hne : stepN N s ≠ s) : fallP N (stepN N s) ∧ stepN N s + 1 ≤ s := by
  have := leB_le hs.2
  exact ⟨⟨stepN_lt N s, step_mono h hs.1 hs.2⟩, by omega⟩
/-- states from which steps come to rest in so many steps -/
def restP (N : Net) (m s : Nat) : Prop := s < pw N.n ∧ stepN N (iterN N m s) = iterN N m s
theorem rise_rest {N : Net} (h : monoN N = true) (h5 : N.n ≤ 5) {s : Nat} (hs : riseP N s) : restP N 32 s := by
  refine ⟨hs.1, ?_⟩
  have key : ∀ m s, riseP N s → 32 - s ≤ m → stepN N (iterN N m s) = iterN N m s := by
    intro m
    induction m with
    | zero => intro s hs hm; have := pw_le h5; have := hs.1; omega
    | succ m ih =>
      intro s hs hm
      by_cases e : stepN N s = s
      · rw [iterN_fix N _ _ e, e]
      · obtain h1 | h1 := riseP_step h hs e
        · exact ih _ h1.1 (by omega)
        · omega
  exact key 32 s hs (by omega)
theorem fall_rest {N : Net} (h : monoN N = true) (h5 : N.n ≤ 5) {s : Nat} (hs : fallP N s) : restP N 32 s := by
  refine ⟨hs.1, ?_⟩
  have key : ∀ m s, fallP N s → s ≤ m → stepN N (iterN N m s) = iterN N m s := by
    intro m
    induction m with
    | zero =>
      intro s hs hm
      by_cases e : stepN N s = s
      · exact e
      · have := (fallP_step h hs e).2; omega
    | succ m ih =>
      intro s hs hm
      by_cases e : stepN N s = s
      · rw [iterN_fix N _ _ e, e]
      · have := fallP_step h hs e
        exact ih _ this.1 (by omega)
  exact key 32 s hs (by have := hs.1; have := pw_le h5; omega)
theorem restP_step {N : Net} {m s : Nat} (h : restP N m s) (hne : stepN N s ≠ s) : 0 < m ∧ restP N (m - 1) (stepN N s) := by
  rcases m with _ | m
  · exact absurd h.2 hne
  · exact ⟨by omega, stepN_lt N s, h.2⟩

/-- what RiseFrom and its like say -/
def riseI (w : ByteArray) (x : Int) : Int := if monoB w && riseB w x then (limN (netOf w) x.toNat : Nat) else -1
def fallI (w : ByteArray) (x : Int) : Int := if monoB w && fallB w x then (limN (netOf w) x.toNat : Nat) else -1
def greatI (w : ByteArray) : Int := if netOk w then fallI w ((pw (netOf w).n - 1 : Nat)) else -1
def bothB (w : ByteArray) (x y : Int) : Bool := restI w x == 0 && restI w y == 0
def joinI (w : ByteArray) (x y : Int) : Int := if bothB w x y then riseI w ((x.toNat ||| y.toNat : Nat)) else -1
def meetI (w : ByteArray) (x y : Int) : Int := if bothB w x y then fallI w ((x.toNat &&& y.toNat : Nat)) else -1
theorem riseB_P {w : ByteArray} {x : Nat} (h : riseB w x = true) : riseP (netOf w) x := by
  simp only [riseB, Bool.and_eq_true, Int.toNat_natCast] at h
  have := (stB_yes h.1).2.2
  exact ⟨by omega, h.2⟩
theorem fallB_P {w : ByteArray} {x : Nat} (h : fallB w x = true) : fallP (netOf w) x := by
  simp only [fallB, Bool.and_eq_true, Int.toNat_natCast] at h
  have := (stB_yes h.1).2.2
  exact ⟨by omega, h.2⟩
theorem rest_zero {w : ByteArray} {x : Int} (h : restI w x = 0) : stB w x = true := by
  unfold restI at h
  cases e : stB w x
  · rw [e, if_neg (by decide)] at h; exact absurd h (by decide)
  · rfl
end Go.Sw

namespace Go.Sw
open Go

/-- a state with a switch of the value 0 put in -/
def putN (s i : Nat) : Nat := s % 2 ^ i ||| s / 2 ^ i * 2 ^ (i + 1)
theorem putN_testBit (s i j : Nat) : (putN s i).testBit j = if j < i then s.testBit j else if j = i then false else s.testBit (j - 1) := by
  unfold putN
  rw [Nat.testBit_or, Nat.testBit_mod_two_pow, Nat.mul_comm, Nat.testBit_two_pow_mul, Nat.testBit_div_two_pow]
  by_cases h : j < i
  · have : ¬ i + 1 ≤ j := by omega
    simp [h, this]
  · by_cases e : j = i
    · subst e
      simp only [show ¬ j + 1 ≤ j by omega, Nat.lt_irrefl, decide_false, Bool.false_and, Bool.or_false, if_false, if_true]
    · have : i + 1 ≤ j := by omega
      simp only [h, e, this, decide_false, decide_true, Bool.false_and, Bool.true_and, Bool.false_or, if_false]
      congr 1; omega
theorem put_le (s i : Nat) : s / 2 ^ i * 2 ^ (i + 1) ≤ 2 * s := by
  have := Nat.div_mul_le_self s (2 ^ i)
  rw [Nat.pow_succ, ← Nat.mul_assoc]; omega
theorem putN_lt (s i n : Nat) (hs : s < pw n) : putN s i < pw (n + 1) := by
  have h1 := put_le s i
  have h2 := Nat.mod_le s (2 ^ i)
  have h3 : pw (n + 1) = 2 * pw n := by unfold pw; rw [Nat.pow_succ]; omega
  unfold putN
  exact Nat.or_lt_two_pow (show s % 2 ^ i < pw (n + 1) by omega) (show s / 2 ^ i * 2 ^ (i + 1) < pw (n + 1) by omega)
theorem put_facts (s i : Nat) (hs : s < 16) (hi : i < 5) : bits .and .i64 (s : Int) ((2 : Int) ^ i - 1) = (s : Int) % 2 ^ i ∧ (0 : Int) ≤ (s : Int) / 2 ^ i * 2 ^ (i + 1) ∧ (s : Int) / 2 ^ i * 2 ^ (i + 1) < 32
    ∧ bits .or .i64 ((s : Int) % 2 ^ i) ((s : Int) / 2 ^ i * 2 ^ (i + 1)) = (putN s i : Nat) ∧ bits .or .i64 ((s : Int) % 2 ^ i) 0 = (s : Int) % 2 ^ i := by
  have h2 := put_le s i
  have e : ((s : Int) / 2 ^ i * 2 ^ (i + 1)) = ((s / 2 ^ i * 2 ^ (i + 1) : Nat) : Int) := by simp
  have e' : ((s : Int) % 2 ^ i) = ((s % 2 ^ i : Nat) : Int) := by simp
  have h3 := Nat.mod_le s (2 ^ i)
  refine ⟨and_mask s i (by omega) (by omega), by omega, by omega, ?_, ?_⟩
  · rw [e, e', i64_or _ _ (by omega) (by omega)]; rfl
  · rw [e', show (0 : Int) = ((0 : Nat) : Int) from rfl, i64_or _ _ (by omega) (by omega), Nat.or_zero]
/-- the switch i acts on the rule of k -/
def infB (N : Net) (i k : Nat) : Bool := sgU N.n (N.f k) i || sgD N.n (N.f k) i
theorem sg_zero (u d : Bool) : (sg u d == 0) = !(u || d) := by cases u <;> cases d <;> decide
theorem sg_pos (u d : Bool) : decide (0 < sg u d) = (u || d) := by cases u <;> cases d <;> decide
/-- a switch that can be removed -/
def freeB (N : Net) (i : Nat) : Bool := decide (1 < N.n) && !infB N i i
/-- a state with a removed switch put in -/
def liftN (N : Net) (i s : Nat) : Nat := setN (putN s i) i (N.f i (putN s i))
def liftB (w : ByteArray) (i s : Int) : Bool := swB w i && (freeB (netOf w) i.toNat && (decide (0 ≤ s) && decide (s < (pw ((netOf w).n - 1) : Nat))))
def liftI (w : ByteArray) (i s : Int) : Int := if liftB w i s then (liftN (netOf w) i.toNat s.toNat : Nat) else -1
theorem pw_half {n : Nat} (h : 1 ≤ n) : pw n = 2 * pw (n - 1) := by
  obtain ⟨m, rfl⟩ : ∃ m, n = m + 1 := ⟨n - 1, by omega⟩
  unfold pw; rw [Nat.pow_succ, Nat.add_sub_cancel]; omega
/-- the switches below k that can be removed -/
def freeL (N : Net) : Nat → List Int
  | 0 => []
  | k + 1 => if freeB N k then freeL N k ++ [(k : Int)] else freeL N k
theorem freeL_length (N : Net) (k : Nat) : (freeL N k).length ≤ k := by
  induction k with
  | zero => exact Nat.le_refl _
  | succ k ih =>
    unfold freeL
    split
    · rw [List.length_append]; simp; omega
    · omega
def remL (w : ByteArray) : List Int := if netOk w then freeL (netOf w) (netOf w).n else []
theorem remL_length (w : ByteArray) : (remL w).length ≤ 5 := by
  unfold remL
  split
  · rename_i h
    have := freeL_length (netOf w) (netOf w).n
    have := (netOf_ok h).2
    omega
  · simp

/-! ### what a switch acts on -/
/-- directly or by way of others -/
inductive Reach (N : Net) (i : Nat) : Nat → Prop
  | one {t : Nat} : t < N.n → infB N i t = true → Reach N i t
  | more {k t : Nat} : Reach N i k → t < N.n → infB N k t = true → Reach N i t
theorem Reach.lt {N : Net} {i t : Nat} (h : Reach N i t) : t < N.n := by cases h <;> assumption
theorem Reach.trans {N : Net} {i k t : Nat} (h : Reach N i k) (h2 : Reach N k t) : Reach N i t := by
  induction h2 with
  | one ht hb => exact .more h ht hb
  | more _ ht hb ih => exact .more ih ht hb
/-- the set of the switches that it acts on -/
noncomputable def reachN (N : Net) (i : Nat) : Nat := ofBits N.n fun t => @decide (Reach N i t) (Classical.propDecidable _)
theorem reachN_lt (N : Net) (i : Nat) : reachN N i < pw N.n := ofBits_lt _ _
theorem reachN_bit (N : Net) (i t : Nat) : (reachN N i).testBit t = true ↔ Reach N i t := by
  unfold reachN
  rw [ofBits_testBit, Bool.and_eq_true, decide_eq_true_eq]
  exact ⟨fun h => @of_decide_eq_true _ (Classical.propDecidable _) h.2, fun h => ⟨h.lt, @decide_eq_true _ (Classical.propDecidable _) h⟩⟩
/-- a set all of which is acted on -/
def within (N : Net) (i s : Nat) : Prop := s < pw N.n ∧ ∀ t, s.testBit t = true → Reach N i t
/-- a set that is told whole -/
theorem reach_eq {N : Net} {i s : Nat} (h : within N i s) (h1 : ∀ t, t < N.n → infB N i t = true → s.testBit t = true) (h2 : ∀ k t, k < N.n → t < N.n → s.testBit k = true → infB N k t = true → s.testBit t = true) : s = reachN N i := by
  apply Nat.eq_of_testBit_eq
  intro t
  rw [Bool.eq_iff_iff, reachN_bit]
  refine ⟨h.2 t, fun hr => ?_⟩
  induction hr with
  | one ht hb => exact h1 _ ht hb
  | more hr ht hb ih => exact h2 _ _ hr.lt ht ih hb
/-- the switches on which one acts directly -/
def actsN (N : Net) (i : Nat) : Nat := ofBits N.n (infB N i)
theorem actsN_lt (N : Net) (i : Nat) : actsN N i < pw N.n := ofBits_lt _ _
theorem actsN_bit (N : Net) (i t : Nat) : (actsN N i).testBit t = (decide (t < N.n) && infB N i t) := ofBits_testBit _ _ _
theorem ofBits_or {k : Nat} {p : Nat → Bool} (h : p k = true) : ofBits k p ||| 2 ^ k = ofBits (k + 1) p := by
  apply Nat.eq_of_testBit_eq
  intro j
  rw [Nat.testBit_or, Nat.testBit_two_pow, ofBits_testBit, ofBits_testBit]
  by_cases e : j = k
  · subst e; simp [h]
  · have h1 : ¬ k = j := fun h => e h.symm
    have h2 : (j < k + 1) = (j < k) := by simp; omega
    simp [h1, h2]
theorem ofBits_skip {k : Nat} {p : Nat → Bool} (h : p k = false) : ofBits (k + 1) p = ofBits k p := by
  show ofBits k p + (p k).toNat * 2 ^ k = ofBits k p
  rw [h]; simp
/-- one set lies in another -/
def subS (s t : Nat) : Prop := ∀ j, s.testBit j = true → t.testBit j = true
theorem subS_le {s t : Nat} (h : subS s t) : s ≤ t := by
  have e : s &&& t = s := by
    apply Nat.eq_of_testBit_eq
    intro j
    rw [Nat.testBit_and]
    cases hb : s.testBit j
    · rfl
    · rw [h j hb]; rfl
  rw [← e]; exact Nat.and_le_right
theorem subS_or (s t : Nat) : subS s (s ||| t) := fun j h => by rw [Nat.testBit_or, h]; rfl
theorem subS.trans {a b c : Nat} (h : subS a b) (k : subS b c) : subS a c := fun j hj => k j (h j hj)
/-- all on which the first k switches of s act lie in nx -/
def grownTo (N : Net) (s nx k : Nat) : Prop := ∀ k', k' < k → s.testBit k' = true → ∀ t, t < N.n → infB N k' t = true → nx.testBit t = true
theorem within_acts (N : Net) (i : Nat) : within N i (actsN N i) := ⟨actsN_lt N i, fun t h => by
  rw [actsN_bit, Bool.and_eq_true, decide_eq_true_eq] at h; exact .one h.1 h.2⟩
theorem within_or {N : Net} {i s t : Nat} (h : within N i s) (k : within N i t) : within N i (s ||| t) := ⟨Nat.or_lt_two_pow h.1 k.1, fun j hj => by
  rw [Nat.testBit_or, Bool.or_eq_true] at hj
  exact hj.elim (h.2 j) (k.2 j)⟩
theorem within_acts_of {N : Net} {i s k : Nat} (h : within N i s) (hb : s.testBit k = true) : within N i (actsN N k) := ⟨actsN_lt N k, fun t ht => by
  rw [actsN_bit, Bool.and_eq_true, decide_eq_true_eq] at ht; exact .more (h.2 k hb) ht.1 ht.2⟩
theorem within_one {N : Net} {i s k t : Nat} (h : within N i s) (ht : t < N.n) (hb : k = i ∨ s.testBit k = true) (hi : infB N k t = true) : within N i (s ||| 2 ^ t) :=
  ⟨Nat.or_lt_two_pow h.1 (Nat.pow_lt_pow_right (by omega) ht), fun j hj => by
    rw [Nat.testBit_or, Nat.testBit_two_pow, Bool.or_eq_true, decide_eq_true_eq] at hj
    rcases hj with hj | rfl
    · exact h.2 j hj
    · rcases hb with rfl | hb
      · exact .one ht hi
      · exact .more (h.2 k hb) ht hi⟩
theorem grownTo_next {N : Net} {s nx k : Nat} (h : grownTo N s nx k) : s.testBit k = true → grownTo N s (nx ||| actsN N k) (k + 1) := fun _ k' hk hb t ht hi => by
  rw [Nat.testBit_or]
  by_cases e : k' = k
  · subst e
    rw [actsN_bit, hi]; simp [ht]
  · rw [h k' (by omega) hb t ht hi]; rfl
theorem grownTo_skip {N : Net} {s nx k : Nat} (h : grownTo N s nx k) (hb : s.testBit k = false) : grownTo N s nx (k + 1) := fun k' hk hb' t ht hi => by
  by_cases e : k' = k
  · subst e; rw [hb] at hb'; cases hb'
  · exact h k' (by omega) hb' t ht hi
theorem reach_done {N : Net} {i s : Nat} (h : within N i s) (ha : subS (actsN N i) s) (hg : grownTo N s s N.n) : s = reachN N i :=
  reach_eq h (fun t ht hb => ha t (by rw [actsN_bit, hb]; simp [ht])) fun k t hk ht hb hi => hg k hk hb t ht hi
noncomputable def actsI (w : ByteArray) (i : Int) : Int := if swB w i then (reachN (netOf w) i.toNat : Nat) else -1

/-! ### groups -/
/-- two switches act on each other -/
noncomputable def mutB (N : Net) (i k : Nat) : Bool := (reachN N i).testBit k && (reachN N k).testBit i
theorem mutB_iff (N : Net) (i k : Nat) : mutB N i k = true ↔ Reach N i k ∧ Reach N k i := by
  unfold mutB; rw [Bool.and_eq_true, reachN_bit, reachN_bit]
theorem mutB_symm {N : Net} {i k : Nat} (h : mutB N i k = true) : mutB N k i = true := (mutB_iff _ _ _).2 ((mutB_iff _ _ _).1 h).symm
theorem mutB_trans {N : Net} {i k t : Nat} (h : mutB N i k = true) (g : mutB N k t = true) : mutB N i t = true := by
  rw [mutB_iff] at *
  exact ⟨h.1.trans g.1, g.2.trans h.2⟩
theorem mutB_lt {N : Net} {i k : Nat} (h : mutB N i k = true) : k < N.n := ((mutB_iff _ _ _).1 h).1.lt
/-- the group of a switch -/
noncomputable def grpN (N : Net) (i : Nat) : Nat := 2 ^ i ||| ofBits N.n (mutB N i)
theorem grpN_bit (N : Net) (i t : Nat) : (grpN N i).testBit t = true ↔ t = i ∨ mutB N i t = true := by
  unfold grpN
  rw [Nat.testBit_or, Nat.testBit_two_pow, ofBits_testBit, Bool.or_eq_true, Bool.and_eq_true, decide_eq_true_eq, decide_eq_true_eq]
  exact ⟨fun h => h.imp (fun e => e.symm) And.right, fun h => h.imp (fun e => e.symm) fun h => ⟨mutB_lt h, h⟩⟩
theorem grpN_lt (N : Net) (i : Nat) (hi : i < N.n) : grpN N i < pw N.n := Nat.or_lt_two_pow (Nat.pow_lt_pow_right (by omega) hi) (ofBits_lt _ _)
/-- the switches whose groups are told when i have been looked at, and the groups -/
noncomputable def grpD (N : Net) : Nat → Nat
  | 0 => 0
  | i + 1 => if (grpD N i).testBit i then grpD N i else grpD N i ||| grpN N i
noncomputable def grpL (N : Net) : Nat → List Int
  | 0 => []
  | i + 1 => if (grpD N i).testBit i then grpL N i else grpL N i ++ [((grpN N i : Nat) : Int)]
theorem grpD_lt (N : Net) (i : Nat) (hi : i ≤ N.n) : grpD N i < pw N.n := by
  induction i with
  | zero => show 0 < 2 ^ N.n; exact Nat.two_pow_pos _
  | succ i ih =>
    unfold grpD
    split
    · exact ih (by omega)
    · exact Nat.or_lt_two_pow (ih (by omega)) (grpN_lt N i (by omega))
theorem grpL_length (N : Net) (i : Nat) : (grpL N i).length ≤ i := by
  induction i with
  | zero => exact Nat.le_refl _
  | succ i ih =>
    unfold grpL
    split
    · omega
    · rw [List.length_append]; simp; omega
theorem grpD_has (N : Net) (i j : Nat) (h : j < i) : (grpD N i).testBit j = true := by
  induction i with
  | zero => omega
  | succ i ih =>
    unfold grpD
    by_cases e : j = i
    · subst e
      split
      · assumption
      · rw [Nat.testBit_or, (grpN_bit N j j).2 (.inl rfl), Bool.or_true]
    · split
      · exact ih (by omega)
      · rw [Nat.testBit_or, ih (by omega)]; rfl
theorem grpD_closed (N : Net) (i t u : Nat) (h : (grpD N i).testBit t = true) (hm : mutB N t u = true) : (grpD N i).testBit u = true := by
  induction i with
  | zero => simp [grpD] at h
  | succ i ih =>
    unfold grpD at h ⊢
    split at h
    · rename_i hb
      rw [if_pos hb]; exact ih h
    · rename_i hb
      rw [if_neg hb]
      rw [Nat.testBit_or, Bool.or_eq_true] at h ⊢
      rcases h with h | h
      · exact .inl (ih h)
      · rw [grpN_bit] at h
        rcases h with rfl | h
        · exact .inr ((grpN_bit _ _ _).2 (.inr hm))
        · exact .inr ((grpN_bit _ _ _).2 (.inr (mutB_trans h hm)))
theorem grp_new {N : Net} {i : Nat} (h : (grpD N i).testBit i = false) (j : Nat) (hj : j < i) : mutB N i j = false := by
  cases e : mutB N i j with
  | false => rfl
  | true =>
    have := grpD_closed N i j i (grpD_has N i j hj) (mutB_symm e)
    rw [h] at this; cases this
/-- as the reference gathers a group: from the next switch on -/
noncomputable def laterB (N : Net) (i k : Nat) : Bool := decide (i < k) && mutB N i k
theorem later_zero (N : Net) (i : Nat) : ofBits (i + 1) (laterB N i) = 0 := by
  apply Nat.eq_of_testBit_eq
  intro j
  rw [ofBits_testBit, Nat.zero_testBit]
  by_cases h : j < i + 1
  · have : ¬ i < j := by omega
    simp [laterB, this]
  · simp [h]
theorem grp_or (N : Net) (i j : Nat) : (2 ^ i ||| ofBits N.n (mutB N i)).testBit j = (grpN N i).testBit j := rfl
theorem grp_later {N : Net} {i : Nat} (h : (grpD N i).testBit i = false) : 2 ^ i ||| ofBits N.n (laterB N i) = grpN N i := by
  apply Nat.eq_of_testBit_eq
  intro j
  unfold grpN
  rw [Nat.testBit_or, Nat.testBit_or, Nat.testBit_two_pow, ofBits_testBit, ofBits_testBit]
  by_cases e : i = j
  · simp [e]
  · by_cases hlt : i < j
    · simp [laterB, hlt]
    · have := grp_new h j (by omega)
      simp [laterB, this]
theorem or_next {a k : Nat} {p : Nat → Bool} (h : p k = true) : (a ||| ofBits k p) ||| 2 ^ k = a ||| ofBits (k + 1) p := by
  rw [Nat.or_assoc, ofBits_or h]
theorem or_ofBits_lt {i k n : Nat} {p : Nat → Bool} (hi : i < n) (hk : k ≤ n) : 2 ^ i ||| ofBits k p < pw n :=
  Nat.or_lt_two_pow (Nat.pow_lt_pow_right (by omega) hi) (Nat.lt_of_lt_of_le (ofBits_lt k p) (Nat.pow_le_pow_right (by omega) hk))
noncomputable def groupsL (w : ByteArray) : List Int := if netOk w then grpL (netOf w) (netOf w).n else []
theorem groupsL_length (w : ByteArray) : (groupsL w).length ≤ 5 := by
  unfold groupsL
  split
  · rename_i h
    have := grpL_length (netOf w) (netOf w).n
    have := (netOf_ok h).2
    omega
  · simp
end Go.Sw

namespace Go.Sw
open Go

/-- the same number of switches, and the same rules at their states -/
def Net.eqv (N M : Net) : Prop := N.n = M.n ∧ ∀ i, i < N.n → ∀ s, s < pw N.n → N.f i s = M.f i s
theorem Net.eqv.symm {N M : Net} (h : N.eqv M) : M.eqv N := ⟨h.1.symm, fun i hi s hs => (h.2 i (by rw [h.1]; exact hi) s (by rw [h.1]; exact hs)).symm⟩
theorem Net.eqv.refl (N : Net) : N.eqv N := ⟨rfl, fun _ _ _ _ => rfl⟩
theorem Net.eqv.trans {N M K : Net} (h : N.eqv M) (g : M.eqv K) : N.eqv K :=
  ⟨h.1.trans g.1, fun i hi s hs => (h.2 i hi s hs).trans (g.2 i (by rw [← h.1]; exact hi) s (by rw [← h.1]; exact hs))⟩
theorem ofBits_congr {n : Nat} {p q : Nat → Bool} (h : ∀ i, i < n → p i = q i) : ofBits n p = ofBits n q := by
  apply Nat.eq_of_testBit_eq
  intro j
  rw [ofBits_testBit, ofBits_testBit]
  by_cases hj : j < n
  · rw [h j hj]
  · simp [hj]
theorem Net.eqv.step {N M : Net} (h : N.eqv M) {s : Nat} (hs : s < pw N.n) : stepN N s = stepN M s := by
  unfold stepN
  rw [← h.1]
  exact ofBits_congr fun i hi => h.2 i hi s hs
theorem anyB_congr {p q : Nat → Bool} {k : Nat} (h : ∀ s, s < k → p s = q s) : anyB p k = anyB q k :=
  anyB_congr2 (fun s hs hp => ⟨s, hs, by rw [← h s hs]; exact hp⟩) (fun s hs hp => ⟨s, hs, by rw [h s hs]; exact hp⟩)
theorem or_two_lt {s i n : Nat} (hs : s < pw n) (hi : i < n) : s ||| 2 ^ i < pw n := Nat.or_lt_two_pow hs (Nat.pow_lt_pow_right (by omega) hi)
theorem sgU_congr {n : Nat} {f g : Nat → Bool} {i : Nat} (hi : i < n) (h : ∀ s, s < pw n → f s = g s) : sgU n f i = sgU n g i :=
  anyB_congr fun s hs => by unfold upB; rw [h s hs, h _ (or_two_lt hs hi)]
theorem sgD_congr {n : Nat} {f g : Nat → Bool} {i : Nat} (hi : i < n) (h : ∀ s, s < pw n → f s = g s) : sgD n f i = sgD n g i :=
  anyB_congr fun s hs => by unfold downB; rw [h s hs, h _ (or_two_lt hs hi)]
theorem Net.eqv.mono {N M : Net} (h : N.eqv M) : monoN N = monoN M := by
  rw [Bool.eq_iff_iff, monoN_iff, monoN_iff, ← h.1]
  constructor
  · intro g j i hj hi
    rw [← sgD_congr hj (h.2 i hi)]; exact g j i hj hi
  · intro g j i hj hi
    rw [sgD_congr hj (h.2 i hi)]; exact g j i hj hi
theorem Net.eqv.inf {N M : Net} (h : N.eqv M) {i k : Nat} (hi : i < N.n) (hk : k < N.n) : infB N i k = infB M i k := by
  unfold infB
  rw [sgU_congr hi (h.2 k hk), sgD_congr hi (h.2 k hk), h.1]
theorem Net.eqv.free {N M : Net} (h : N.eqv M) {i : Nat} (hi : i < N.n) : freeB N i = freeB M i := by
  unfold freeB
  rw [h.inf hi hi, h.1]
theorem Net.eqv.texts {N M : Net} (h : N.eqv M) : netTexts N = netTexts M := by
  unfold netTexts
  rw [← h.1]
  exact List.map_congr_left fun i hi => tabText_congr _ _ _ (h.2 i (List.mem_range.1 hi))
theorem Net.eqv.lift {N M : Net} (h : N.eqv M) {i s : Nat} (hi : i < N.n) (hs : s < pw (N.n - 1)) : liftN N i s = liftN M i s := by
  have hlt := putN_lt s i (N.n - 1) hs
  rw [show N.n - 1 + 1 = N.n by omega] at hlt
  unfold liftN
  rw [h.2 i hi _ hlt]
theorem liftN_lt (N : Net) (i s : Nat) (hi : i < N.n) (hs : s < pw (N.n - 1)) : liftN N i s < pw N.n := by
  have hlt := putN_lt s i (N.n - 1) hs
  rw [show N.n - 1 + 1 = N.n by omega] at hlt
  exact setN_lt _ _ _ _ hlt hi

/-! ### the text of a network -/
def joinL : List (List UInt8) → List UInt8
  | [] => []
  | [p] => p
  | p :: q :: r => p ++ 44 :: joinL (q :: r)
theorem joinL_cons (p : List UInt8) (r : List (List UInt8)) (h : r ≠ []) : joinL (p :: r) = p ++ 44 :: joinL r := by
  cases r with
  | nil => exact absurd rfl h
  | cons q r => rfl
theorem joinL_snoc (ps : List (List UInt8)) (p : List UInt8) (h : ps ≠ []) : joinL (ps ++ [p]) = joinL ps ++ 44 :: p := by
  induction ps with
  | nil => exact absurd rfl h
  | cons q r ih =>
    by_cases e : r = []
    · subst e; rfl
    · rw [List.cons_append, joinL_cons _ _ (by simp), ih e, joinL_cons _ _ e, List.append_assoc]; rfl
theorem cuts_join (ps : List (List UInt8)) (h : ps ≠ []) (hc : ∀ p ∈ ps, ∀ b ∈ p, b ≠ 44) : cuts 44 (joinL ps) = ps := by
  induction ps with
  | nil => exact absurd rfl h
  | cons q r ih =>
    by_cases e : r = []
    · subst e; exact cuts_none 44 q (hc q (List.mem_cons_self ..))
    · rw [joinL_cons _ _ e, cuts_append 44 _ _ (hc q (List.mem_cons_self ..)), ih e fun p hp => hc p (List.mem_cons_of_mem _ hp)]
/-- the text of a network -/
def netText (N : Net) : ByteArray := bs (joinL ((netTexts N).map (·.data.toList)))
theorem Net.eqv.text {N M : Net} (h : N.eqv M) : netText N = netText M := by unfold netText; rw [h.texts]
theorem tab_no_comma (n : Nat) (f : Nat → Bool) : ∀ b ∈ (tabText n f).data.toList, b ≠ 44 := by
  intro b hb
  simp only [tabText, bs_data, List.mem_map] at hb
  obtain ⟨s, _, rfl⟩ := hb
  split <;> decide
theorem partsOf_text {N : Net} (h : 1 ≤ N.n) : partsOf (netText N) = netTexts N := by
  unfold partsOf netText
  rw [bs_data, cuts_join, List.map_map]
  · have : (bs ∘ fun x : ByteArray => x.data.toList) = id := by funext x; exact bs_of x
    rw [this, List.map_id]
  · intro e
    have h2 := congrArg List.length e
    rw [List.length_map, netTexts_length] at h2
    simp at h2; omega
  · intro p hp
    obtain ⟨t, ht, rfl⟩ := List.mem_map.1 hp
    obtain ⟨i, _, rfl⟩ := List.mem_map.1 ht
    exact tab_no_comma _ _
theorem bitAt_text {n : Nat} {f : Nat → Bool} {s : Nat} (hs : s < pw n) : bitAt (tabText n f) s = f s := by
  have h2 : s < (tabText n f).size := by rw [tabText_size]; exact hs
  have h3 : s < (tabText n f).data.toList.length := by simpa using h2
  unfold bitAt
  rw [List.getD_eq_getElem?_getD, List.getElem?_eq_getElem h3, Option.getD_some, byte_at _ s h2, tabText_get n f s hs]
  cases f s <;> decide
theorem netOk_text {N : Net} (h1 : 1 ≤ N.n) (h5 : N.n ≤ 5) : netOk (netText N) = true := by
  unfold netOk
  rw [partsOf_text h1, netTexts_length, List.all_eq_true]
  intro p hp
  obtain ⟨i, _, rfl⟩ := List.mem_map.1 hp
  rw [partOk_iff, tabText_size, logN_pw h1 h5]
  exact ⟨tabOk_text h1 h5 _, rfl⟩
theorem netOf_text {N : Net} (h1 : 1 ≤ N.n) : (netOf (netText N)).eqv N := by
  have hl : (netOf (netText N)).n = N.n := by
    show (partsOf (netText N)).length = N.n
    rw [partsOf_text h1, netTexts_length]
  refine ⟨hl, fun i hi s hs => ?_⟩
  rw [hl] at hi hs
  show bitAt ((partsOf (netText N)).getD i ByteArray.empty) s = N.f i s
  rw [partsOf_text h1, List.getD_eq_getElem?_getD, List.getElem?_eq_getElem (by rw [netTexts_length]; exact hi), Option.getD_some, netTexts_get N i hi]
  exact bitAt_text hs
theorem joinL_length (ps : List (List UInt8)) (m : Nat) (h : ∀ p ∈ ps, p.length ≤ m) : (joinL ps).length ≤ ps.length * (m + 1) := by
  induction ps with
  | nil => simp [joinL]
  | cons q r ih =>
    have h1 := h q (List.mem_cons_self ..)
    have h2 := ih fun p hp => h p (List.mem_cons_of_mem _ hp)
    rw [List.length_cons, Nat.add_mul]
    by_cases e : r = []
    · subst e; simp [joinL]; omega
    · rw [joinL_cons _ _ e, List.length_append, List.length_cons]; omega
theorem netText_size {N : Net} (h5 : N.n ≤ 5) : (netText N).size ≤ 165 := by
  unfold netText
  rw [bs_size]
  have hp := pw_le h5
  have := joinL_length ((netTexts N).map (·.data.toList)) 32 (fun p hp' => by
    obtain ⟨t, ht, rfl⟩ := List.mem_map.1 hp'
    obtain ⟨i, _, rfl⟩ := List.mem_map.1 ht
    have : (tabText N.n (N.f i)).data.toList.length = (tabText N.n (N.f i)).size := by simp
    rw [this, tabText_size]; exact hp.2)
  rw [List.length_map, netTexts_length] at this
  omega

/-! ### networks of a told step, turned, without a switch -/
/-- the rules of a network of which a step is told -/
def stepF (n : Nat) (g : Nat → Nat) (i : Nat) : Nat → Bool := upto (pw n) fun s => (g s).testBit i
def turnN (N : Net) (set : Nat) : Net := ⟨N.n, fun i s => (N.f i (s ^^^ set) ^^ set.testBit i)⟩
theorem xor_lt {n s t : Nat} (hs : s < pw n) (ht : t < pw n) : s ^^^ t < pw n := Nat.xor_lt_two_pow hs ht
theorem two_lt {n k : Nat} (hk : k < n) : 2 ^ k < pw n := Nat.pow_lt_pow_right (by omega) hk
theorem turn_step (N : Net) (set : Nat) : Net.eqv ⟨N.n, stepF N.n fun s => stepN N (s ^^^ set) ^^^ set⟩ (turnN N set) := by
  refine ⟨rfl, fun i hi s hs => ?_⟩
  have hi : i < N.n := hi
  have hs : s < pw N.n := hs
  show upto (pw N.n) (fun s => (stepN N (s ^^^ set) ^^^ set).testBit i) s = (N.f i (s ^^^ set) ^^ set.testBit i)
  unfold upto
  rw [decide_eq_true hs, Bool.true_and]
  show (stepN N (s ^^^ set) ^^^ set).testBit i = _
  rw [Nat.testBit_xor, stepN_testBit, decide_eq_true hi, Bool.true_and]
theorem turn_turn {N M : Net} {set k : Nat} (h : M.eqv (turnN N set)) (hk : k < N.n) : (turnN M (2 ^ k)).eqv (turnN N (set ^^^ 2 ^ k)) := by
  have hn : M.n = N.n := h.1
  refine ⟨hn, fun i hi s hs => ?_⟩
  have hi : i < M.n := hi
  have hs : s < pw M.n := hs
  show (M.f i (s ^^^ 2 ^ k) ^^ (2 ^ k).testBit i) = (N.f i (s ^^^ (set ^^^ 2 ^ k)) ^^ (set ^^^ 2 ^ k).testBit i)
  rw [h.2 i hi _ (xor_lt hs (two_lt (by omega)))]
  show ((N.f i ((s ^^^ 2 ^ k) ^^^ set) ^^ set.testBit i) ^^ (2 ^ k).testBit i) = _
  rw [Nat.testBit_xor, Nat.xor_assoc, Nat.xor_comm (2 ^ k) set, Bool.xor_assoc]
theorem turn_zero (N : Net) : (turnN N 0).eqv N := by
  refine ⟨rfl, fun i hi s hs => ?_⟩
  show (N.f i (s ^^^ 0) ^^ (0 : Nat).testBit i) = N.f i s
  simp
/-- the first switches of a set -/
theorem mod_next {set k : Nat} : set % 2 ^ (k + 1) = if set.testBit k then (set % 2 ^ k) ^^^ 2 ^ k else set % 2 ^ k := by
  apply Nat.eq_of_testBit_eq
  intro j
  rw [Nat.testBit_mod_two_pow]
  split
  · rename_i h
    rw [Nat.testBit_xor, Nat.testBit_mod_two_pow, Nat.testBit_two_pow]
    by_cases e : k = j
    · subst e; simp [h]
    · have : (j < k + 1) = (j < k) := by simp; omega
      simp [e, this]
  · rename_i h
    rw [Nat.testBit_mod_two_pow]
    by_cases e : j = k
    · subst e; simp at h; simp [h]
    · have : (j < k + 1) = (j < k) := by simp; omega
      simp [this]
/-- the number of a switch in a network without i -/
def skip (i k : Nat) : Nat := if k < i then k else k + 1
theorem skip_lt {i k n : Nat} (hk : k < n - 1) : skip i k < n := by unfold skip; split <;> omega
theorem dropN_testBit (s i j : Nat) : (dropN s i).testBit j = s.testBit (skip i j) := by
  rw [← drop_or, Nat.testBit_or, Nat.testBit_mod_two_pow, Nat.mul_comm, Nat.testBit_two_pow_mul, Nat.testBit_div_two_pow]
  unfold skip
  by_cases h : j < i
  · have : ¬ i ≤ j := by omega
    simp [h, this]
  · have h2 : i ≤ j := by omega
    have h3 : j - i + (i + 1) = j + 1 := by omega
    simp [h, h2, h3]
def remN (N : Net) (i : Nat) : Net := ⟨N.n - 1, fun k s => N.f (skip i k) (liftN N i s)⟩
theorem rem_step (N : Net) (i : Nat) : Net.eqv ⟨N.n - 1, stepF (N.n - 1) fun s => dropN (stepN N (liftN N i s)) i⟩ (remN N i) := by
  refine ⟨rfl, fun k hk s hs => ?_⟩
  have hk : k < N.n - 1 := hk
  have hs : s < pw (N.n - 1) := hs
  show upto (pw (N.n - 1)) (fun s => (dropN (stepN N (liftN N i s)) i).testBit k) s = N.f (skip i k) (liftN N i s)
  unfold upto
  rw [decide_eq_true hs, Bool.true_and]
  show (dropN (stepN N (liftN N i s)) i).testBit k = _
  rw [dropN_testBit, stepN_testBit, decide_eq_true (skip_lt hk), Bool.true_and]
theorem Net.eqv.rem {N M : Net} (h : N.eqv M) {i : Nat} (hi : i < N.n) : (remN N i).eqv (remN M i) := by
  refine ⟨by show N.n - 1 = M.n - 1; rw [h.1], fun k hk s hs => ?_⟩
  have hk : k < N.n - 1 := hk
  have hs : s < pw (N.n - 1) := hs
  show N.f (skip i k) (liftN N i s) = M.f (skip i k) (liftN M i s)
  rw [h.2 _ (skip_lt hk) _ (liftN_lt N i s hi hs), h.lift hi hs]

/-! ### the first number below m with a property, or -1 -/
def firstI (p : Nat → Bool) : Nat → Int
  | 0 => -1
  | m + 1 => if firstI p m < 0 then (if p m then (m : Int) else -1) else firstI p m
theorem firstI_none {p : Nat → Bool} {m : Nat} (h : ∀ s, s < m → p s = false) : firstI p m = -1 := by
  induction m with
  | zero => rfl
  | succ m ih => rw [firstI, ih fun s hs => h s (by omega), if_pos (by decide), h m (by omega)]; rfl
theorem firstI_some {p : Nat → Bool} {m k : Nat} (hk : k < m) (hp : p k = true) (h : ∀ s, s < k → p s = false) : firstI p m = k := by
  induction m with
  | zero => omega
  | succ m ih =>
    rw [firstI]
    by_cases e : k = m
    · subst e
      rw [firstI_none h, if_pos (by decide), if_pos hp]
    · rw [ih (by omega), if_neg (by omega)]
theorem firstI_cases (p : Nat → Bool) (m : Nat) : (firstI p m = -1 ∧ ∀ s, s < m → p s = false) ∨ ∃ k, k < m ∧ firstI p m = k ∧ p k = true ∧ ∀ s, s < k → p s = false := by
  induction m with
  | zero => exact .inl ⟨rfl, fun s h => by omega⟩
  | succ m ih =>
    rcases ih with ⟨h1, h2⟩ | ⟨k, hk, _, hp, hl⟩
    · cases e : p m
      · left
        have hall : ∀ s, s < m + 1 → p s = false := fun s hs => by
          by_cases e2 : s = m
          · subst e2; exact e
          · exact h2 s (by omega)
        exact ⟨firstI_none hall, hall⟩
      · exact .inr ⟨m, by omega, firstI_some (by omega) e h2, e, h2⟩
    · exact .inr ⟨k, by omega, firstI_some (by omega) hp hl, hp, hl⟩
/-- what TurnsToMonotone says -/
def turnsI (w : ByteArray) : Int := if netOk w then firstI (fun set => monoN (turnN (netOf w) set)) (pw (netOf w).n) else -1
/-- what RemoveSwitch says -/
def remB (w : ByteArray) (i : Int) : Bool := swB w i && freeB (netOf w) i.toNat
def remT (w : ByteArray) (i : Int) : ByteArray := if remB w i then netText (remN (netOf w) i.toNat) else ByteArray.empty
end Go.Sw

namespace Go.Sw
open Go

/-- an influence as a number: 0 none, 1 plus, 2 minus, 3 both -/
def edgeC (N : Net) (i k : Nat) : Nat := (sgU N.n (N.f k) i).toNat + 2 * (sgD N.n (N.f k) i).toNat
theorem edgeC_sg (N : Net) (i k : Nat) : sg (sgU N.n (N.f k) i) (sgD N.n (N.f k) i) = ((edgeC N i k : Nat) : Int) := by
  unfold sg edgeC; omega
theorem edgeC_le (N : Net) (i k : Nat) : edgeC N i k ≤ 3 := by
  unfold edgeC
  cases sgU N.n (N.f k) i <;> cases sgD N.n (N.f k) i <;> decide
theorem edgeC_inf (N : Net) (i k : Nat) : infB N i k = decide (0 < edgeC N i k) := by
  unfold edgeC infB
  cases sgU N.n (N.f k) i <;> cases sgD N.n (N.f k) i <;> decide
/-- two influences one after the other -/
def timesC (a b : Nat) : Nat := if a = 3 ∨ b = 3 then 3 else if a = b then 1 else 2
theorem timesC_le (a b : Nat) : 1 ≤ timesC a b ∧ timesC a b ≤ 3 := by
  unfold timesC; split
  · omega
  · split <;> omega
theorem timesC_three (b : Nat) : timesC 3 b = 3 := by simp [timesC]
def lastN (way : List Nat) : Nat := way.getLastD 0
def headN (way : List Nat) : Nat := way.headD 0
def pairsL (l : List Nat) : List (Nat × Nat) := l.zip l.tail
theorem pairsL_snoc {l : List Nat} (h : l ≠ []) (k : Nat) : pairsL (l ++ [k]) = pairsL l ++ [(lastN l, k)] := by
  induction l with
  | nil => exact absurd rfl h
  | cons a r ih =>
    cases r with
    | nil => rfl
    | cons b r =>
      have := ih (by simp)
      show (a, b) :: pairsL (b :: r ++ [k]) = (a, b) :: pairsL (b :: r) ++ [(lastN (a :: b :: r), k)]
      rw [this]; rfl
theorem lastN_snoc (l : List Nat) (k : Nat) : lastN (l ++ [k]) = k := by unfold lastN; simp
theorem headN_snoc {l : List Nat} (h : l ≠ []) (k : Nat) : headN (l ++ [k]) = headN l := by
  cases l with
  | nil => exact absurd rfl h
  | cons a r => rfl
/-- the sign of a way, of a circuit -/
def wayC (N : Net) (way : List Nat) : Nat := (pairsL way).foldl (fun a e => timesC a (edgeC N e.1 e.2)) 1
theorem wayC_one (N : Net) (i : Nat) : wayC N [i] = 1 := rfl
theorem wayC_snoc (N : Net) {way : List Nat} (h : way ≠ []) (k : Nat) : wayC N (way ++ [k]) = timesC (wayC N way) (edgeC N (lastN way) k) := by
  unfold wayC; rw [pairsL_snoc h, List.foldl_append]; rfl
def circC (N : Net) (c : List Nat) : Nat := timesC (wayC N c) (edgeC N (lastN c) (headN c))
theorem circC_le (N : Net) (c : List Nat) : 1 ≤ circC N c ∧ circC N c ≤ 3 := timesC_le _ _
theorem wayC_le (N : Net) (c : List Nat) : 1 ≤ wayC N c ∧ wayC N c ≤ 3 := by
  unfold wayC
  have h : ∀ (l : List (Nat × Nat)) a, 1 ≤ a → a ≤ 3 → 1 ≤ l.foldl (fun a e => timesC a (edgeC N e.1 e.2)) a ∧ l.foldl (fun a e => timesC a (edgeC N e.1 e.2)) a ≤ 3 := by
    intro l
    induction l with
    | nil => intro a h1 h2; exact ⟨h1, h2⟩
    | cons e l ih => intro a _ _; exact ih _ (timesC_le _ _).1 (timesC_le _ _).2
  exact h _ 1 (by omega) (by omega)

/-- lists gathered from numbers below m -/
def subL {α : Type} (g : Nat → List α) (p : Nat → Bool) : Nat → List α
  | 0 => []
  | m + 1 => if p m then subL g p m ++ g m else subL g p m
theorem subL_none {α : Type} {g : Nat → List α} {p : Nat → Bool} {m : Nat} (h : ∀ k, k < m → p k = false) : subL g p m = [] := by
  induction m with
  | zero => rfl
  | succ m ih => rw [subL, h m (by omega), if_neg (by decide), ih fun k hk => h k (by omega)]
theorem subL_mem {α : Type} {g : Nat → List α} {p : Nat → Bool} {m : Nat} {x : α} : x ∈ subL g p m ↔ ∃ k, k < m ∧ p k = true ∧ x ∈ g k := by
  induction m with
  | zero => simp [subL]
  | succ m ih =>
    rw [subL]
    constructor
    · intro h
      split at h
      · rename_i hp
        rcases List.mem_append.1 h with h | h
        · obtain ⟨k, h1, h2⟩ := ih.1 h; exact ⟨k, by omega, h2⟩
        · exact ⟨m, by omega, hp, h⟩
      · obtain ⟨k, h1, h2⟩ := ih.1 h; exact ⟨k, by omega, h2⟩
    · rintro ⟨k, hk, hp, hx⟩
      by_cases e : k = m
      · subst e; rw [if_pos hp]; exact List.mem_append_right _ hx
      · have := ih.2 ⟨k, by omega, hp, hx⟩
        split
        · exact List.mem_append_left _ this
        · exact this
theorem subL_length {α : Type} {g : Nat → List α} {p : Nat → Bool} {m b : Nat} (h : ∀ k, k < m → (g k).length ≤ b) : (subL g p m).length ≤ m * b := by
  induction m with
  | zero => simp [subL]
  | succ m ih =>
    have h1 := ih fun k hk => h k (by omega)
    have h2 := h m (by omega)
    rw [subL, Nat.succ_mul]
    split
    · rw [List.length_append]; omega
    · omega
/-- may a way go on to a switch? -/
def goesB (N : Net) (way : List Nat) (k : Nat) : Bool := decide (headN way < k) && (infB N (lastN way) k && !way.contains k)
def closeB (N : Net) (way : List Nat) : Bool := infB N (lastN way) (headN way)
/-- the circuits that go on from a way -/
def walkL (N : Net) : Nat → List Nat → List (List Nat)
  | 0, _ => []
  | f + 1, way => (if closeB N way then [way] else []) ++ subL (fun k => walkL N f (way ++ [k])) (goesB N way) N.n
def circL (N : Net) : List (List Nat) := subL (fun i => walkL N N.n [i]) (fun _ => true) N.n
theorem walkL_length {N : Net} (h : N.n ≤ 5) (f : Nat) (way : List Nat) : (walkL N f way).length ≤ 6 ^ f := by
  induction f generalizing way with
  | zero => simp [walkL]
  | succ f ih =>
    rw [walkL, List.length_append]
    have h1 := subL_length (p := goesB N way) (m := N.n) (fun k _ => ih (way ++ [k]))
    have h2 : N.n * 6 ^ f ≤ 5 * 6 ^ f := Nat.mul_le_mul_right _ h
    have h3 : (if closeB N way then [way] else []).length ≤ 1 := by split <;> simp
    have h4 : 1 ≤ 6 ^ f := Nat.one_le_pow _ _ (by omega)
    rw [Nat.pow_succ]; omega
theorem circL_length {N : Net} (h : N.n ≤ 5) : (circL N).length ≤ 40000 := by
  have h1 := subL_length (p := fun _ => true) (m := N.n) (fun i _ => walkL_length h N.n [i])
  have h2 : 6 ^ N.n ≤ 6 ^ 5 := Nat.pow_le_pow_right (by omega) h
  have h3 : N.n * 6 ^ N.n ≤ 5 * 6 ^ 5 := Nat.mul_le_mul h h2
  unfold circL
  omega
/-- a way of different switches of a network, the least one first -/
def WayOk (N : Net) (way : List Nat) : Prop := way ≠ [] ∧ way.Nodup ∧ ∀ k ∈ way, k < N.n ∧ headN way ≤ k
theorem WayOk.one {N : Net} {i : Nat} (h : i < N.n) : WayOk N [i] := ⟨by simp, by simp, fun k hk => by
  obtain rfl : k = i := by simpa using hk
  exact ⟨h, Nat.le_refl _⟩⟩
theorem WayOk.snoc {N : Net} {way : List Nat} (h : WayOk N way) {k : Nat} (hk : k < N.n) (hg : goesB N way k = true) : WayOk N (way ++ [k]) := by
  obtain ⟨h1, h2, h3⟩ := h
  simp only [goesB, Bool.and_eq_true, decide_eq_true_eq, Bool.not_eq_true', List.contains_eq_mem, decide_eq_false_iff_not] at hg
  refine ⟨by simp, ?_, fun j hj => ?_⟩
  · rw [List.nodup_append]
    refine ⟨h2, by simp, fun a ha b hb e => ?_⟩
    obtain rfl : b = k := by simpa using hb
    exact hg.2.2 (e ▸ ha)
  · rw [headN_snoc h1]
    rcases List.mem_append.1 hj with hj | hj
    · exact h3 j hj
    · obtain rfl : j = k := by simpa using hj
      exact ⟨hk, by omega⟩
theorem WayOk.head {N : Net} {way : List Nat} (h : WayOk N way) : headN way < N.n := by
  obtain ⟨h1, _, h3⟩ := h
  cases way with
  | nil => exact absurd rfl h1
  | cons a r => exact (h3 a (List.mem_cons_self ..)).1
theorem WayOk.last {N : Net} {way : List Nat} (h : WayOk N way) : lastN way < N.n := by
  obtain ⟨h1, _, h3⟩ := h
  have : lastN way ∈ way := by
    unfold lastN
    rw [List.getLastD_eq_getLast?, List.getLast?_eq_some_getLast h1]
    exact List.getLast_mem h1
  exact (h3 _ this).1
theorem nodup_length {l : List Nat} {n : Nat} (h : l.Nodup) (hl : ∀ k ∈ l, k < n) : l.length ≤ n := by
  induction n generalizing l with
  | zero =>
    cases l with
    | nil => exact Nat.le_refl _
    | cons a r => exact absurd (hl a (List.mem_cons_self ..)) (by omega)
  | succ n ih =>
    by_cases hm : n ∈ l
    · have h1 := ih (h.erase n) fun k hk => by
        have h2 := (h.mem_erase_iff).1 hk
        have := hl k h2.2
        omega
      rw [List.length_erase_of_mem hm] at h1
      omega
    · have := ih h fun k hk => by
        have := hl k hk
        by_cases e : k = n
        · subst e; exact absurd hk hm
        · omega
      omega
theorem WayOk.length {N : Net} {way : List Nat} (h : WayOk N way) : way.length ≤ N.n := nodup_length h.2.1 fun k hk => (h.2.2 k hk).1
theorem subL_congr {α : Type} {g g' : Nat → List α} {p : Nat → Bool} {m : Nat} (h : ∀ k, k < m → p k = true → g k = g' k) : subL g p m = subL g' p m := by
  induction m with
  | zero => rfl
  | succ m ih =>
    rw [subL, subL, ih fun k hk hp => h k (by omega) hp]
    by_cases hp : p m = true
    · rw [if_pos hp, if_pos hp, h m (by omega) hp]
    · rw [if_neg hp, if_neg hp]
/-- the text of a circuit -/
def digT (way : List Nat) : List UInt8 := way.map fun k => UInt8.ofNat (48 + k)
def signT (c : Nat) : UInt8 := if c = 1 then 43 else if c = 2 then 45 else if c = 3 then 42 else 48
def circT (N : Net) (c : List Nat) : ByteArray := bs (digT c ++ [signT (circC N c)])
def circsL (w : ByteArray) : List ByteArray := if netOk w then (circL (netOf w)).map (circT (netOf w)) else []
theorem circsL_length (w : ByteArray) : (circsL w).length ≤ 40000 := by
  unfold circsL
  split
  · rename_i h
    rw [List.length_map]; exact circL_length (netOf_ok h).2
  · simp
/-- is a circuit of a sign? -/
def isC (c : Nat) (sign : ByteArray) : Bool := decide (c = 3) || sign == bs [signT c]
def plusB (sign : ByteArray) : Bool := sign == ⟨#[43]⟩ || sign == ⟨#[45]⟩
def hasB (w sign : ByteArray) : Bool := netOk w && (plusB sign && (circL (netOf w)).any fun c => isC (circC (netOf w) c) sign)
def flowB (w : ByteArray) : Bool := netOk w && (circL (netOf w)).isEmpty
/-- the switches of a list as a set -/
def setL : List Nat → Nat
  | [] => 0
  | k :: r => 2 ^ k ||| setL r
theorem setL_bit (l : List Nat) (j : Nat) : (setL l).testBit j = l.contains j := by
  induction l with
  | nil => simp [setL]
  | cons k r ih =>
    rw [setL, Nat.testBit_or, ih, Nat.testBit_two_pow, List.contains_cons]
    by_cases e : k = j
    · subst e; simp
    · have : ¬ j = k := fun h => e h.symm
      simp [e, this]
theorem setL_snoc (l : List Nat) (k : Nat) : setL (l ++ [k]) = setL l ||| 2 ^ k := by
  apply Nat.eq_of_testBit_eq
  intro j
  rw [Nat.testBit_or, setL_bit, setL_bit, Nat.testBit_two_pow]
  by_cases e : k = j
  · subst e; simp
  · have : ¬ j = k := fun h => e h.symm
    simp [e, this, List.contains_eq_mem]
theorem setL_lt {l : List Nat} {n : Nat} (h : ∀ k ∈ l, k < n) : setL l < pw n := by
  induction l with
  | nil => exact Nat.two_pow_pos n
  | cons k r ih =>
    exact Nat.or_lt_two_pow (Nat.pow_lt_pow_right (by omega) (h k (List.mem_cons_self ..))) (ih fun j hj => h j (List.mem_cons_of_mem _ hj))
end Go.Sw

namespace Go.Sw
open Go

/-- the influence that leaves the switch at place k of a circuit -/
def codeC (N : Net) (way : List Nat) (k : Nat) : Nat := edgeC N (way.getD k 0) (way.getD ((k + 1) % way.length) 0)
def foldC (N : Net) (way : List Nat) : Nat → Nat
  | 0 => 1
  | k + 1 => timesC (foldC N way k) (codeC N way k)
theorem lastN_take {way : List Nat} {k : Nat} (h : k < way.length) : lastN (way.take (k + 1)) = way.getD k 0 := by
  rw [List.take_succ_eq_append_getElem h, lastN_snoc, List.getD_eq_getElem?_getD, List.getElem?_eq_getElem h]; rfl
theorem wayC_take {N : Net} {way : List Nat} (k : Nat) (h : k < way.length) : wayC N (way.take (k + 1)) = foldC N way k := by
  induction k with
  | zero =>
    cases way with
    | nil => simp at h
    | cons a r => rfl
  | succ k ih =>
    have h1 : way.take (k + 1) ≠ [] := by
      intro e
      have := congrArg List.length e
      rw [List.length_take, List.length_nil] at this; omega
    rw [List.take_succ_eq_append_getElem (i := k + 1) h, wayC_snoc N h1, ih (by omega), lastN_take (way := way) (k := k) (by omega), foldC]
    unfold codeC
    rw [Nat.mod_eq_of_lt (by omega : k + 1 < way.length)]
    congr 2
    rw [List.getD_eq_getElem?_getD, List.getElem?_eq_getElem h]; rfl
theorem circC_fold {N : Net} {way : List Nat} (h : way ≠ []) : circC N way = foldC N way way.length := by
  have hl : 0 < way.length := List.length_pos_iff.2 h
  obtain ⟨m, hm⟩ : ∃ m, way.length = m + 1 := ⟨way.length - 1, by omega⟩
  have h1 := wayC_take (N := N) m (by omega : m < way.length)
  rw [← hm, List.take_length] at h1
  rw [circC, h1, hm, foldC]
  unfold codeC
  rw [hm, Nat.mod_self]
  have h2 := lastN_take (way := way) (k := m) (by omega)
  rw [← hm, List.take_length] at h2
  rw [h2]
  congr 2
  cases way with
  | nil => exact absurd rfl h
  | cons a r => rfl
theorem foldC_three {N : Net} {way : List Nat} {j m : Nat} (hj : j < m) (h : codeC N way j = 3) : foldC N way m = 3 := by
  induction m with
  | zero => omega
  | succ m ih =>
    rw [foldC]
    by_cases e : j = m
    · subst e; rw [h]; simp [timesC]
    · rw [ih (by omega), timesC_three]
/-- how many of the first k influences are minus -/
def minusC (N : Net) (way : List Nat) : Nat → Nat
  | 0 => 0
  | k + 1 => minusC N way k + if codeC N way k = 2 then 1 else 0
theorem minusC_le (N : Net) (way : List Nat) (k : Nat) : minusC N way k ≤ k := by
  induction k with
  | zero => exact Nat.le_refl _
  | succ k ih => rw [minusC]; split <;> omega
theorem foldC_minus {N : Net} {way : List Nat} {m : Nat} (h : ∀ j, j < m → codeC N way j = 1 ∨ codeC N way j = 2) : foldC N way m = 1 + minusC N way m % 2 := by
  induction m with
  | zero => rfl
  | succ m ih =>
    rw [foldC, minusC, ih fun j hj => h j (by omega)]
    have h2 : minusC N way m % 2 = 0 ∨ minusC N way m % 2 = 1 := by omega
    rcases h m (by omega) with e | e <;> rw [e] <;> rcases h2 with h2 | h2
    · rw [h2]; simp [timesC, h2]
    · rw [h2]; simp [timesC, h2]
    · have : (minusC N way m + 1) % 2 = 1 := by omega
      rw [h2]; simp [timesC, this]
    · have : (minusC N way m + 1) % 2 = 0 := by omega
      rw [h2]; simp [timesC, this]
theorem sgT_code (N : Net) (i k : Nat) : sgT (sgU N.n (N.f k) i) (sgD N.n (N.f k) i) = ⟨#[signT (edgeC N i k)]⟩ := by
  unfold sgT edgeC
  cases sgU N.n (N.f k) i <;> cases sgD N.n (N.f k) i <;> rfl
/-- all influences along a circuit are there -/
def edgesOk (N : Net) (way : List Nat) : Prop := ∀ k, k < way.length → 0 < codeC N way k
/-- all influences along a way are there -/
def stepsOk (N : Net) (way : List Nat) : Prop := ∀ k, k + 1 < way.length → 0 < edgeC N (way.getD k 0) (way.getD (k + 1) 0)
theorem stepsOk.one (N : Net) (i : Nat) : stepsOk N [i] := fun k h => by simp at h
theorem getD_snoc_lt {l : List Nat} {x k : Nat} (h : k < l.length) : (l ++ [x]).getD k 0 = l.getD k 0 := by
  rw [List.getD_eq_getElem?_getD, List.getD_eq_getElem?_getD, List.getElem?_append_left h]
theorem getD_snoc_eq (l : List Nat) (x : Nat) : (l ++ [x]).getD l.length 0 = x := by
  rw [List.getD_eq_getElem?_getD, List.getElem?_append_right (Nat.le_refl _)]; simp
theorem getD_last {l : List Nat} (h : l ≠ []) : l.getD (l.length - 1) 0 = lastN l := by
  have hl : 0 < l.length := List.length_pos_iff.2 h
  have h2 := lastN_take (way := l) (k := l.length - 1) (by omega)
  rw [show l.length - 1 + 1 = l.length by omega, List.take_length] at h2
  exact h2.symm
theorem getD_head {l : List Nat} : l.getD 0 0 = headN l := by cases l <;> rfl
theorem stepsOk.snoc {N : Net} {way : List Nat} (h : stepsOk N way) (hne : way ≠ []) {k : Nat} (hk : 0 < edgeC N (lastN way) k) : stepsOk N (way ++ [k]) := by
  intro j hj
  rw [List.length_append, List.length_singleton] at hj
  by_cases e : j + 1 < way.length
  · rw [getD_snoc_lt (by omega), getD_snoc_lt e]; exact h j e
  · have e2 : j = way.length - 1 := by omega
    have hl : 0 < way.length := List.length_pos_iff.2 hne
    rw [getD_snoc_lt (by omega), show j + 1 = way.length by omega, getD_snoc_eq, e2, getD_last hne]; exact hk
theorem stepsOk.close {N : Net} {way : List Nat} (h : stepsOk N way) (hne : way ≠ []) (hc : closeB N way = true) : edgesOk N way := by
  intro k hk
  unfold codeC
  by_cases e : k + 1 < way.length
  · rw [Nat.mod_eq_of_lt e]; exact h k e
  · have e2 : k = way.length - 1 := by omega
    rw [show k + 1 = way.length by omega, Nat.mod_self, e2, getD_last hne, getD_head]
    unfold closeB at hc
    rw [edgeC_inf, decide_eq_true_eq] at hc
    exact hc
end Go.Sw

namespace Go.Sw
open Go

/-- a term: what it says of each switch -/
abbrev Trm := Nat → Option Bool
def letterT : Option Bool → UInt8
  | none => 42
  | some false => 48
  | some true => 49
def termT (n : Nat) (p : Trm) : ByteArray := bs ((List.range n).map fun i => letterT (p i))
theorem termT_size (n : Nat) (p : Trm) : (termT n p).size = n := by simp [termT]
theorem termT_get (n : Nat) (p : Trm) (i : Nat) (h : i < n) : (termT n p)[i]'(by rw [termT_size]; exact h) = letterT (p i) := by
  rw [← byte_at _ i (by rw [termT_size]; exact h)]
  simp [termT]
theorem termT_congr {n : Nat} {p q : Trm} (h : ∀ i, i < n → p i = q i) : termT n p = termT n q := by
  unfold termT
  congr 1
  exact List.map_congr_left fun i hi => by rw [h i (List.mem_range.1 hi)]
def isLetter (b : UInt8) : Bool := b == 42 || (b == 48 || b == 49)
def ofLetter (b : UInt8) : Option Bool := if b = 48 then some false else if b = 49 then some true else none
/-- a text is a term of n switches -/
def termB (t : ByteArray) (n : Nat) : Bool := decide (t.size = n) && t.data.toList.all isLetter
def ofT (t : ByteArray) : Trm := fun i => ofLetter (t.data.toList.getD i 42)
theorem letter_of {b : UInt8} (h : isLetter b = true) : letterT (ofLetter b) = b := by
  simp only [isLetter, Bool.or_eq_true, beq_iff_eq] at h
  rcases h with rfl | rfl | rfl <;> rfl
theorem termT_of {t : ByteArray} {n : Nat} (h : termB t n = true) : termT n (ofT t) = t := by
  simp only [termB, Bool.and_eq_true, decide_eq_true_eq] at h
  obtain ⟨h1, h2⟩ := h
  apply ba_ext
  apply List.ext_getElem
  · have : t.data.toList.length = t.size := by simp
    simp [termT]; omega
  · intro i hi1 hi2
    have hlt : i < n := by simpa [termT] using hi1
    have hi : i < t.size := by omega
    have hb : isLetter t[i] = true := by
      have := List.all_eq_true.1 h2 _ (List.getElem_mem hi2)
      rwa [byte_at t i hi] at this
    have e : ofT t i = ofLetter t[i] := by
      unfold ofT
      rw [List.getD_eq_getElem?_getD, List.getElem?_eq_getElem hi2, Option.getD_some, byte_at t i hi]
    simp only [termT, bs_data, List.getElem_map, List.getElem_range, e]
    rw [letter_of hb, byte_at t i hi]
/-- a state is one of a term -/
def fitB (o : Option Bool) (b : Bool) : Bool := match o with | none => true | some c => c == b
def hasTo (p : Trm) (s : Nat) : Nat → Bool
  | 0 => true
  | k + 1 => hasTo p s k && fitB (p k) (s.testBit k)
def hasP (n : Nat) (p : Trm) (s : Nat) : Bool := hasTo p s n
theorem hasTo_iff (p : Trm) (s k : Nat) : hasTo p s k = true ↔ ∀ i, i < k → fitB (p i) (s.testBit i) = true := by
  induction k with
  | zero => simp [hasTo]
  | succ k ih =>
    rw [hasTo, Bool.and_eq_true, ih]
    constructor
    · rintro ⟨h1, h2⟩ i hi
      by_cases e : i = k
      · subst e; exact h2
      · exact h1 i (by omega)
    · exact fun h => ⟨fun i hi => h i (by omega), h k (by omega)⟩
theorem hasP_iff (n : Nat) (p : Trm) (s : Nat) : hasP n p s = true ↔ ∀ i, i < n → fitB (p i) (s.testBit i) = true := hasTo_iff p s n
theorem hasP_bad {n : Nat} {p : Trm} {s i : Nat} (hi : i < n) (h : fitB (p i) (s.testBit i) = false) : hasP n p s = false := by
  cases e : hasP n p s with
  | false => rfl
  | true => rw [(hasP_iff n p s).1 e i hi] at h; cases h
/-- the states of a term below k -/
def statesTo (n : Nat) (p : Trm) : Nat → List Nat
  | 0 => []
  | k + 1 => if hasP n p k then statesTo n p k ++ [k] else statesTo n p k
def statesP (n : Nat) (p : Trm) : List Nat := statesTo n p (pw n)
theorem statesTo_mem (n : Nat) (p : Trm) (k s : Nat) : s ∈ statesTo n p k ↔ s < k ∧ hasP n p s = true := by
  induction k with
  | zero => simp [statesTo]
  | succ k ih =>
    rw [statesTo]
    by_cases h : hasP n p k = true
    · rw [if_pos h, List.mem_append, ih, List.mem_singleton]
      constructor
      · rintro (⟨h1, h2⟩ | rfl)
        · exact ⟨by omega, h2⟩
        · exact ⟨by omega, h⟩
      · rintro ⟨h1, h2⟩
        by_cases e : s = k
        · exact .inr e
        · exact .inl ⟨by omega, h2⟩
    · rw [if_neg h, ih]
      constructor
      · rintro ⟨h1, h2⟩; exact ⟨by omega, h2⟩
      · rintro ⟨h1, h2⟩
        refine ⟨?_, h2⟩
        by_cases e : s = k
        · subst e; exact absurd h2 h
        · omega
theorem statesP_mem (n : Nat) (p : Trm) (s : Nat) : s ∈ statesP n p ↔ s < pw n ∧ hasP n p s = true := statesTo_mem n p (pw n) s
theorem statesTo_length (n : Nat) (p : Trm) (k : Nat) : (statesTo n p k).length ≤ k := by
  induction k with
  | zero => exact Nat.le_refl _
  | succ k ih =>
    rw [statesTo]
    split
    · rw [List.length_append]; simp; omega
    · omega
/-- each term has a state -/
def someS (n : Nat) (p : Trm) : Nat := ofBits n fun i => p i == some true
theorem someS_has (n : Nat) (p : Trm) : hasP n p (someS n p) = true := by
  rw [hasP_iff]
  intro i hi
  unfold someS
  rw [ofBits_testBit, decide_eq_true hi, Bool.true_and]
  cases h : p i with
  | none => rfl
  | some c => cases c <;> rfl
theorem statesP_ne (n : Nat) (p : Trm) : statesP n p ≠ [] := by
  intro h
  have := (statesP_mem n p (someS n p)).2 ⟨ofBits_lt _ _, someS_has n p⟩
  rw [h] at this; cases this
/-- a term that no step leaves -/
def trapTo (N : Net) (p : Trm) : List Nat → Bool
  | [] => true
  | s :: r => hasP N.n p (stepN N s) && trapTo N p r
def trapP (N : Net) (p : Trm) : Bool := (statesP N.n p).all fun s => hasP N.n p (stepN N s)
theorem trapP_iff (N : Net) (p : Trm) : trapP N p = true ↔ ∀ s, s < pw N.n → hasP N.n p s = true → hasP N.n p (stepN N s) = true := by
  unfold trapP
  rw [List.all_eq_true]
  exact ⟨fun h s h1 h2 => h s ((statesP_mem _ _ _).2 ⟨h1, h2⟩), fun h s hs => h s ((statesP_mem _ _ _).1 hs).1 ((statesP_mem _ _ _).1 hs).2⟩
/-- the least term of some states -/
def pointP (s : Nat) : Trm := fun i => some (s.testBit i)
def joinP (p : Trm) (s : Nat) : Trm := fun i => if fitB (p i) (s.testBit i) then p i else none
def hullP : List Nat → Trm
  | [] => fun _ => none
  | s :: r => r.foldl joinP (pointP s)
theorem joinP_self (s : Nat) : joinP (pointP s) s = pointP s := by
  funext i
  unfold joinP pointP
  cases s.testBit i <;> rfl
theorem fold_join (l : List Nat) (p : Trm) (i : Nat) : (l.foldl joinP p) i = if l.all (fun s => fitB (p i) (s.testBit i)) then p i else none := by
  induction l generalizing p with
  | nil => rfl
  | cons s r ih =>
    rw [List.foldl_cons, ih, List.all_cons]
    unfold joinP
    cases h : fitB (p i) (s.testBit i)
    · simp
    · simp
theorem hullP_cons (s : Nat) (r : List Nat) (i : Nat) : hullP (s :: r) i = if r.all (fun t => t.testBit i == s.testBit i) then some (s.testBit i) else none := by
  show (r.foldl joinP (pointP s)) i = _
  rw [fold_join]
  have : (fun t : Nat => fitB (pointP s i) (t.testBit i)) = fun t => t.testBit i == s.testBit i := by
    funext t
    show (s.testBit i == t.testBit i) = _
    rw [Bool.beq_comm]
  rw [this]; rfl
/-- what a term comes to next, if it is no trap -/
def nextP (N : Net) (p : Trm) : Trm := hullP (statesP N.n p ++ (statesP N.n p).map (stepN N))
def starN (n : Nat) (p : Trm) : Nat := ((List.range n).filter fun i => (p i).isNone).length
theorem starN_le (n : Nat) (p : Trm) : starN n p ≤ n := by
  have := List.length_filter_le (fun i => (p i).isNone) (List.range n)
  simpa [starN] using this
theorem hull_some {l : List Nat} {i : Nat} {b : Bool} (h : hullP l i = some b) : ∀ s ∈ l, s.testBit i = b := by
  cases l with
  | nil => simp [hullP] at h
  | cons a r =>
    rw [hullP_cons] at h
    split at h
    · rename_i hr
      have hb : a.testBit i = b := by simpa using h
      intro s hs
      rcases List.mem_cons.1 hs with rfl | hs
      · exact hb
      · have := List.all_eq_true.1 hr s hs
        rw [beq_iff_eq] at this
        rw [this, hb]
    · cases h
theorem hull_of {l : List Nat} {i : Nat} {b : Bool} (hne : l ≠ []) (h : ∀ s ∈ l, s.testBit i = b) : hullP l i = some b := by
  cases l with
  | nil => exact absurd rfl hne
  | cons a r =>
    rw [hullP_cons, h a (List.mem_cons_self ..), if_pos]
    rw [List.all_eq_true]
    intro s hs
    rw [h s (List.mem_cons_of_mem _ hs)]; simp
theorem hull_has {l : List Nat} {n s : Nat} (hs : s ∈ l) : hasP n (hullP l) s = true := by
  rw [hasP_iff]
  intro i _
  cases h : hullP l i with
  | none => rfl
  | some b =>
    have := hull_some h s hs
    show (b == s.testBit i) = true
    rw [this]; simp
theorem nextP_some {N : Net} {p : Trm} {i : Nat} {b : Bool} (hi : i < N.n) (h : nextP N p i = some b) : p i = some b := by
  have hs := hull_some h
  cases hp : p i with
  | some c =>
    have := hs _ (List.mem_append_left _ ((statesP_mem _ _ _).2 ⟨ofBits_lt _ _, someS_has N.n p⟩))
    unfold someS at this
    rw [ofBits_testBit, decide_eq_true hi, Bool.true_and, hp] at this
    rw [← this]
    cases c <;> rfl
  | none =>
    -- both values occur
    have h1 : setN (someS N.n p) i true ∈ statesP N.n p := (statesP_mem _ _ _).2 ⟨setN_lt _ _ _ _ (ofBits_lt _ _) hi, (hasP_iff _ _ _).2 fun j hj => by
      rw [setN_testBit]
      by_cases e : j = i
      · subst e; rw [hp]; rfl
      · rw [if_neg e]; exact (hasP_iff _ _ _).1 (someS_has N.n p) j hj⟩
    have h2 : setN (someS N.n p) i false ∈ statesP N.n p := (statesP_mem _ _ _).2 ⟨setN_lt _ _ _ _ (ofBits_lt _ _) hi, (hasP_iff _ _ _).2 fun j hj => by
      rw [setN_testBit]
      by_cases e : j = i
      · subst e; rw [hp]; rfl
      · rw [if_neg e]; exact (hasP_iff _ _ _).1 (someS_has N.n p) j hj⟩
    have a1 := hs _ (List.mem_append_left _ h1)
    have a2 := hs _ (List.mem_append_left _ h2)
    rw [setN_bit] at a1 a2
    rw [← a1] at a2; cases a2
theorem nextP_grows {N : Net} {p : Trm} (h : trapP N p = false) : ∃ i, i < N.n ∧ (p i).isSome = true ∧ nextP N p i = none := by
  have : ¬ ∀ s, s < pw N.n → hasP N.n p s = true → hasP N.n p (stepN N s) = true := fun g => by rw [(trapP_iff N p).2 g] at h; cases h
  obtain ⟨s, hs⟩ := Classical.not_forall.1 this
  obtain ⟨h1, hs⟩ := Classical.not_imp.1 hs
  obtain ⟨h2, hs⟩ := Classical.not_imp.1 hs
  rw [hasP_iff] at hs
  obtain ⟨i, hs⟩ := Classical.not_forall.1 hs
  obtain ⟨hi, hs⟩ := Classical.not_imp.1 hs
  refine ⟨i, hi, ?_, ?_⟩
  · cases hp : p i with
    | none => rw [hp] at hs; exact absurd rfl hs
    | some b => rfl
  · cases hn : nextP N p i with
    | none => rfl
    | some b =>
      have hp := nextP_some hi hn
      have a2 := hull_some hn _ (List.mem_append_right _ (List.mem_map.2 ⟨s, (statesP_mem _ _ _).2 ⟨h1, h2⟩, rfl⟩))
      rw [hp, a2] at hs
      exact absurd (by show (b == b) = true; simp) hs
theorem filter_lt {l : List Nat} {p q : Nat → Bool} (h : ∀ i ∈ l, p i = true → q i = true) {i : Nat} (hi : i ∈ l) (h1 : p i = false) (h2 : q i = true) : (l.filter p).length < (l.filter q).length := by
  induction l with
  | nil => cases hi
  | cons a r ih =>
    have hle : (r.filter p).length ≤ (r.filter q).length := by
      have h' : ∀ j ∈ r, p j = true → q j = true := fun j hj => h j (List.mem_cons_of_mem _ hj)
      clear ih h hi
      induction r with
      | nil => exact Nat.le_refl _
      | cons b r ih =>
        have := ih fun j hj => h' j (List.mem_cons_of_mem _ hj)
        rw [List.filter_cons, List.filter_cons]
        by_cases hb : p b = true
        · rw [if_pos hb, if_pos (h' b (List.mem_cons_self ..) hb)]; simp; omega
        · rw [if_neg hb]; split <;> simp <;> omega
    rw [List.filter_cons, List.filter_cons]
    rcases List.mem_cons.1 hi with e | hi
    · subst e
      rw [h1, h2]; simp; omega
    · have := ih (fun j hj => h j (List.mem_cons_of_mem _ hj)) hi
      by_cases ha : p a = true
      · rw [if_pos ha, if_pos (h a (List.mem_cons_self ..) ha)]; simp; omega
      · rw [if_neg ha]; split <;> simp <;> omega
theorem starN_grows {N : Net} {p : Trm} (h : trapP N p = false) : starN N.n p < starN N.n (nextP N p) := by
  obtain ⟨i, hi, h1, h2⟩ := nextP_grows h
  refine filter_lt (fun j hj hp => ?_) (List.mem_range.2 hi) (by cases hp : p i <;> simp_all) (by rw [h2]; rfl)
  cases hn : nextP N p j with
  | none => rfl
  | some b => rw [nextP_some (List.mem_range.1 hj) hn] at hp; cases hp
/-- the least trap that has a term -/
def closeP : Nat → Net → Trm → Trm
  | 0, _, p => p
  | f + 1, N, p => if trapP N p then p else closeP f N (nextP N p)
theorem closeP_step {N : Net} {p : Trm} {f : Nat} (h : trapP N p = false) : closeP (f + 1) N p = closeP f N (nextP N p) := by rw [closeP, h]; rfl
theorem closeP_done {N : Net} {p : Trm} {f : Nat} (h : trapP N p = true) : closeP f N p = p := by cases f <;> simp [closeP, h]
/-- what TrapOf says -/
def termOk (w t : ByteArray) : Bool := netOk w && termB t (netOf w).n
def trapT (w t : ByteArray) : ByteArray := if termOk w t then termT (netOf w).n (closeP ((netOf w).n + 1) (netOf w) (ofT t)) else ByteArray.empty
end Go.Sw
