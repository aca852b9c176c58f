/- Plain words and small lemmas that all texts of mine lean on: bits of states, powers of two, the cells of a table; no condition beyond those typed. -/
import Derived.WalkKit
import Derived.WalkSmall
import Derived.BigQuiet
import Derived.Deep.QuietTactic
import Derived.Lib.Hide
namespace Go.Sw
open Go

theorem ret_int {k : IntKind} {a b : Int} (h : a = b) : Ending.returned (.int k a) = .returned (.int k b) := by rw [h]
def b2 (b : Bool) : Int := if b then 1 else 0
theorem b2_true : b2 true = 1 := rfl
theorem b2_false : b2 false = 0 := rfl
/-- the cells of a table -/
def tcells (n : Nat) (f : Nat → Bool) : Array Value := (Value.int .i64 n :: (List.range 32).map fun k => Value.int .u8 (b2 (f k))).toArray
theorem tcells_size (n : Nat) (f : Nat → Bool) : (tcells n f).size = 33 := by simp [tcells]
@[go_sem] theorem tcells_zero (n : Nat) (f : Nat → Bool) : (tcells n f)[0]? = some (.int .i64 n) := by simp [tcells]
theorem tcells_bit (n : Nat) (f : Nat → Bool) (k : Nat) (h : k < 32) : (tcells n f)[1 + k]? = some (.int .u8 (b2 (f k))) := by
  rw [Nat.add_comm]; simp [tcells, h]

def anyB (p : Nat → Bool) : Nat → Bool
  | 0 => false
  | k + 1 => anyB p k || p k
theorem anyB_iff (p : Nat → Bool) (k : Nat) : anyB p k = true ↔ ∃ s, s < k ∧ p s = true := by
  induction k with
  | zero => simp [anyB]
  | succ k ih =>
    simp only [anyB, Bool.or_eq_true, ih]
    constructor
    · rintro (⟨s, h, hp⟩ | h)
      · exact ⟨s, by omega, hp⟩
      · exact ⟨k, by omega, h⟩
    · rintro ⟨s, h, hp⟩
      by_cases e : s = k
      · exact .inr (e ▸ hp)
      · exact .inl ⟨s, by omega, hp⟩
theorem pow2_le (n : Nat) (hn : n ≤ 5) : (1 : Int) ≤ 2 ^ n ∧ (2 : Int) ^ n ≤ 32 := by
  rcases n with _ | _ | _ | _ | _ | _ | n <;> simp_all <;> omega
theorem pow2_leN (n : Nat) (hn : n ≤ 5) : 1 ≤ 2 ^ n ∧ 2 ^ n ≤ 32 := by
  rcases n with _ | _ | _ | _ | _ | _ | n <;> simp_all <;> omega
theorem wraps_i64 (n : Int) (h₀ : 0 ≤ n) (h₁ : n < 2 ^ 62) : IntKind.i64.wrap n = n := IntWalk.i64_in _ (by omega)
theorem ofInt64 (a : Nat) (ha : a < 2 ^ 62) : (BitVec.ofInt 64 (a : Int)).toNat = a := by
  rw [BitVec.toNat_ofInt]; omega
theorem i64_and (a b : Nat) (ha : a < 2 ^ 62) (hb : b < 2 ^ 62) : bits .and .i64 (a : Int) (b : Int) = ((a &&& b : Nat) : Int) := by
  have h1 : a &&& b < 2 ^ 62 := Nat.lt_of_le_of_lt Nat.and_le_left ha
  simp only [bits, BitVec.toNat_and]
  show IntKind.i64.wrap (((BitVec.ofInt 64 (a:Int)).toNat &&& (BitVec.ofInt 64 (b:Int)).toNat : Nat) : Int) = _
  rw [ofInt64 a ha, ofInt64 b hb]; exact wraps_i64 _ (by omega) (by omega)
theorem i64_or (a b : Nat) (ha : a < 2 ^ 62) (hb : b < 2 ^ 62) : bits .or .i64 (a : Int) (b : Int) = ((a ||| b : Nat) : Int) := by
  have h1 : a ||| b < 2 ^ 62 := Nat.or_lt_two_pow ha hb
  simp only [bits, BitVec.toNat_or]
  show IntKind.i64.wrap (((BitVec.ofInt 64 (a:Int)).toNat ||| (BitVec.ofInt 64 (b:Int)).toNat : Nat) : Int) = _
  rw [ofInt64 a ha, ofInt64 b hb]; exact wraps_i64 _ (by omega) (by omega)
theorem i64_xor (a b : Nat) (ha : a < 2 ^ 62) (hb : b < 2 ^ 62) : bits .xor .i64 (a : Int) (b : Int) = ((a ^^^ b : Nat) : Int) := by
  have h1 : a ^^^ b < 2 ^ 62 := Nat.xor_lt_two_pow ha hb
  simp only [bits, BitVec.toNat_xor]
  show IntKind.i64.wrap (((BitVec.ofInt 64 (a:Int)).toNat ^^^ (BitVec.ofInt 64 (b:Int)).toNat : Nat) : Int) = _
  rw [ofInt64 a ha, ofInt64 b hb]; exact wraps_i64 _ (by omega) (by omega)
theorem and_one (x : Int) : bits .and .i64 x 1 = x % 2 := by
  simp only [bits, BitVec.toNat_and]
  show IntKind.i64.wrap (((BitVec.ofInt 64 x).toNat &&& (BitVec.ofInt 64 1).toNat : Nat) : Int) = _
  have e : (BitVec.ofInt 64 1).toNat = 1 := by decide
  rw [e, Nat.and_one_is_mod, BitVec.toNat_ofInt, IntWalk.i64_in _ (by omega)]
  omega
theorem div_pow_mod (k i : Nat) : ((k : Int) / 2 ^ i) % 2 = ((k.testBit i).toNat : Int) := by
  rw [Nat.toNat_testBit]; simp
@[go_sem] theorem bit_test (k i : Nat) : bits .and .i64 ((k : Int) / 2 ^ i) 1 = ((k.testBit i).toNat : Int) := by rw [and_one, div_pow_mod]
@[go_sem] theorem toNat_beq_one (b : Bool) : (((b.toNat : Nat) : Int) == 1) = b := by cases b <;> rfl
@[go_sem] theorem toNat_beq_zero (b : Bool) : (((b.toNat : Nat) : Int) == 0) = !b := by cases b <;> rfl
theorem pow_cast (i : Nat) : ((2 : Int) ^ i) = ((2 ^ i : Nat) : Int) := by simp
theorem or_pow (k i : Nat) (hk : k < 2 ^ 60) (hi : i ≤ 60) : bits .or .i64 (k : Int) ((2 : Int) ^ i) = ((k ||| 2 ^ i : Nat) : Int) := by
  rw [pow_cast]; exact i64_or k (2 ^ i) (by omega) (Nat.pow_lt_pow_right (by omega) (by omega))
theorem or_pow_lt (k i n : Nat) (hk : k < 2 ^ n) (hi : i < n) : k ||| 2 ^ i < 2 ^ n := Nat.or_lt_two_pow hk (Nat.pow_lt_pow_right (by omega) hi)
/-- how many states n switches have -/
def pw (n : Nat) : Nat := 2 ^ n
theorem pw_le {n : Nat} (hn : n ≤ 5) : 1 ≤ pw n ∧ pw n ≤ 32 := pow2_leN n hn
theorem pw_cast (n : Nat) : ((2 : Int) ^ n) = ((pw n : Nat) : Int) := by simp [pw]

/-- a number lies between two others -/
def inI (n lo hi : Int) : Bool := decide (lo ≤ n) && decide (n ≤ hi)
/-- a state without its switch i -/
def dropN (s i : Nat) : Nat := s / 2 ^ (i + 1) * 2 ^ i + s % 2 ^ i
theorem drop_le (s i : Nat) : s / 2 ^ (i + 1) * 2 ^ i ≤ s := by
  rw [Nat.pow_succ, ← Nat.div_div_eq_div_mul]
  calc s / 2 ^ i / 2 * 2 ^ i ≤ s / 2 ^ i * 2 ^ i := Nat.mul_le_mul_right _ (Nat.div_le_self _ _)
    _ ≤ s := Nat.div_mul_le_self _ _
theorem drop_or (s i : Nat) : s % 2 ^ i ||| s / 2 ^ (i + 1) * 2 ^ i = dropN s i := by
  rw [Nat.or_comm, nat_join i _ _ (by simp) (Nat.mod_lt _ (Nat.two_pow_pos i)), dropN]
theorem and_mask (s i : Nat) (hs : s < 2 ^ 60) (hi : i ≤ 60) : bits .and .i64 (s : Int) ((2 : Int) ^ i - 1) = (s : Int) % 2 ^ i := by
  have h1 : 1 ≤ 2 ^ i := Nat.one_le_two_pow
  have h2 : 2 ^ i ≤ 2 ^ 60 := Nat.pow_le_pow_right (by omega) hi
  have e : ((2 : Int) ^ i - 1) = ((2 ^ i - 1 : Nat) : Int) := by rw [Int.natCast_sub h1]; simp
  rw [e, i64_and s _ (by omega) (by omega), Nat.and_two_pow_sub_one_eq_mod]; simp
theorem drop_facts (s i : Nat) (hs : s < 32) (hi : i < 5) : bits .and .i64 (s : Int) ((2 : Int) ^ i - 1) = (s : Int) % 2 ^ i ∧ (0 : Int) ≤ (s : Int) / 2 ^ (i + 1) * 2 ^ i ∧ (s : Int) / 2 ^ (i + 1) * 2 ^ i < 32
    ∧ bits .or .i64 ((s : Int) % 2 ^ i) ((s : Int) / 2 ^ (i + 1) * 2 ^ i) = (dropN s i : Nat) := by
  have h2 := drop_le s i
  have e : ((s : Int) / 2 ^ (i + 1) * 2 ^ i) = ((s / 2 ^ (i + 1) * 2 ^ i : Nat) : Int) := by simp
  have e' : ((s : Int) % 2 ^ i) = ((s % 2 ^ i : Nat) : Int) := by simp
  have h3 := Nat.mod_le s (2 ^ i)
  refine ⟨and_mask s i (by omega) (by omega), by omega, by omega, ?_⟩
  rw [e, e', i64_or _ _ (by omega) (by omega), drop_or]
end Go.Sw
