/- Plain words and small lemmas that all texts of mine lean on: bits of states, powers of two, the cells of a table; no condition beyond those typed. -/
import Derived.WalkKit
import Derived.WalkSmall
import Derived.BigQuiet
import Derived.Deep.QuietTactic
import Derived.Lib.Hide
namespace Go.Sw
open Go

theorem ret_int {k : IntKind} {a b : Int} (h : a = b) : Ending.returned (.int k a) = .returned (.int k b) := by rw [h]
def b2 (b : Bool) : Int := if b then 1 else 0
theorem b2_true : b2 true = 1 := rfl
theorem b2_false : b2 false = 0 := rfl
/-- the cells of a table -/
def tlist (n : Nat) (f : Nat → Bool) : List Value := Value.int .i64 n :: (List.range 32).map fun k => Value.int .u8 (b2 (f k))
def tcells (n : Nat) (f : Nat → Bool) : Array Value := (tlist n f).toArray
theorem tlist_length (n : Nat) (f : Nat → Bool) : (tlist n f).length = 33 := by simp [tlist]
theorem tcells_size (n : Nat) (f : Nat → Bool) : (tcells n f).size = 33 := by simp [tcells, tlist]
@[go_sem] theorem tcells_zero (n : Nat) (f : Nat → Bool) : (tcells n f)[0]? = some (.int .i64 n) := by simp [tcells, tlist]
theorem tcells_bit (n : Nat) (f : Nat → Bool) (k : Nat) (h : k < 32) : (tcells n f)[1 + k]? = some (.int .u8 (b2 (f k))) := by
  rw [Nat.add_comm]; simp [tcells, tlist, h]
theorem tcells_congr (n : Nat) (f g : Nat → Bool) (h : ∀ k, k < 32 → f k = g k) : tcells n f = tcells n g := by
  unfold tcells tlist
  congr 2
  exact List.map_congr_left fun k hk => by rw [h k (List.mem_range.1 hk)]
theorem tcells_one (n : Nat) (f : Nat → Bool) : (tcells n f).all (·.oneCell') = true := by
  rw [Array.all_eq_true_iff_forall_mem]
  intro v hv
  simp only [tcells, tlist, List.mem_toArray, List.mem_cons, List.mem_map] at hv
  rcases hv with rfl | ⟨_, _, rfl⟩ <;> rfl
theorem tcells_set (n : Nat) (f : Nat → Bool) (k : Nat) (b : Bool) (h : k < 32) :
    (tcells n f).setIfInBounds (1 + k) (.int .u8 (b2 b)) = tcells n (fun s => if s = k then b else f s) := by
  apply Array.ext_getElem?
  intro i
  rcases i with _ | i
  · simp [tcells_zero]
  · rw [show i + 1 = 1 + i from Nat.add_comm i 1]
    by_cases hi : i < 32
    · rw [tcells_bit _ _ i hi]
      by_cases e : i = k
      · subst e; rw [Array.getElem?_setIfInBounds_self_of_lt (by rw [tcells_size]; omega)]; simp
      · rw [Array.getElem?_setIfInBounds_ne (by omega), tcells_bit _ _ i hi]; simp [e]
    · rw [Array.getElem?_eq_none (by simp [tcells_size]; omega), Array.getElem?_eq_none (by simp [tcells_size]; omega)]
/-- the values of a function below a number, false from there on -/
def upto (k : Nat) (g : Nat → Bool) : Nat → Bool := fun s => decide (s < k) && g s
theorem upto_zero (g : Nat → Bool) : upto 0 g = fun _ => false := by funext s; simp [upto]
theorem upto_succ (k : Nat) (g : Nat → Bool) : (fun s => if s = k then g k else upto k g s) = upto (k + 1) g := by
  funext s
  unfold upto
  by_cases e : s = k
  · subst e; simp
  · have : (decide (s < k + 1)) = decide (s < k) := by simp; omega
    simp [e, this]

def anyB (p : Nat → Bool) : Nat → Bool
  | 0 => false
  | k + 1 => anyB p k || p k
theorem anyB_iff (p : Nat → Bool) (k : Nat) : anyB p k = true ↔ ∃ s, s < k ∧ p s = true := by
  induction k with
  | zero => simp [anyB]
  | succ k ih =>
    simp only [anyB, Bool.or_eq_true, ih]
    constructor
    · rintro (⟨s, h, hp⟩ | h)
      · exact ⟨s, by omega, hp⟩
      · exact ⟨k, by omega, h⟩
    · rintro ⟨s, h, hp⟩
      by_cases e : s = k
      · exact .inr (e ▸ hp)
      · exact .inl ⟨s, by omega, hp⟩
theorem pow2_le (n : Nat) (hn : n ≤ 5) : (1 : Int) ≤ 2 ^ n ∧ (2 : Int) ^ n ≤ 32 := by
  rcases n with _ | _ | _ | _ | _ | _ | n <;> simp_all <;> omega
theorem pow2_leN (n : Nat) (hn : n ≤ 5) : 1 ≤ 2 ^ n ∧ 2 ^ n ≤ 32 := by
  rcases n with _ | _ | _ | _ | _ | _ | n <;> simp_all <;> omega
theorem wraps_i64 (n : Int) (h₀ : 0 ≤ n) (h₁ : n < 2 ^ 62) : IntKind.i64.wrap n = n := IntWalk.i64_in _ (by omega)
theorem ofInt64 (a : Nat) (ha : a < 2 ^ 62) : (BitVec.ofInt 64 (a : Int)).toNat = a := by
  rw [BitVec.toNat_ofInt]; omega
theorem i64_and (a b : Nat) (ha : a < 2 ^ 62) (hb : b < 2 ^ 62) : bits .and .i64 (a : Int) (b : Int) = ((a &&& b : Nat) : Int) := by
  have h1 : a &&& b < 2 ^ 62 := Nat.lt_of_le_of_lt Nat.and_le_left ha
  simp only [bits, BitVec.toNat_and]
  show IntKind.i64.wrap (((BitVec.ofInt 64 (a:Int)).toNat &&& (BitVec.ofInt 64 (b:Int)).toNat : Nat) : Int) = _
  rw [ofInt64 a ha, ofInt64 b hb]; exact wraps_i64 _ (by omega) (by omega)
theorem i64_or (a b : Nat) (ha : a < 2 ^ 62) (hb : b < 2 ^ 62) : bits .or .i64 (a : Int) (b : Int) = ((a ||| b : Nat) : Int) := by
  have h1 : a ||| b < 2 ^ 62 := Nat.or_lt_two_pow ha hb
  simp only [bits, BitVec.toNat_or]
  show IntKind.i64.wrap (((BitVec.ofInt 64 (a:Int)).toNat ||| (BitVec.ofInt 64 (b:Int)).toNat : Nat) : Int) = _
  rw [ofInt64 a ha, ofInt64 b hb]; exact wraps_i64 _ (by omega) (by omega)
theorem i64_xor (a b : Nat) (ha : a < 2 ^ 62) (hb : b < 2 ^ 62) : bits .xor .i64 (a : Int) (b : Int) = ((a ^^^ b : Nat) : Int) := by
  have h1 : a ^^^ b < 2 ^ 62 := Nat.xor_lt_two_pow ha hb
  simp only [bits, BitVec.toNat_xor]
  show IntKind.i64.wrap (((BitVec.ofInt 64 (a:Int)).toNat ^^^ (BitVec.ofInt 64 (b:Int)).toNat : Nat) : Int) = _
  rw [ofInt64 a ha, ofInt64 b hb]; exact wraps_i64 _ (by omega) (by omega)
theorem and_one (x : Int) : bits .and .i64 x 1 = x % 2 := by
  simp only [bits, BitVec.toNat_and]
  show IntKind.i64.wrap (((BitVec.ofInt 64 x).toNat &&& (BitVec.ofInt 64 1).toNat : Nat) : Int) = _
  have e : (BitVec.ofInt 64 1).toNat = 1 := by decide
  rw [e, Nat.and_one_is_mod, BitVec.toNat_ofInt, IntWalk.i64_in _ (by omega)]
  omega
theorem div_pow_mod (k i : Nat) : ((k : Int) / 2 ^ i) % 2 = ((k.testBit i).toNat : Int) := by
  rw [Nat.toNat_testBit]; simp
@[go_sem] theorem bit_test (k i : Nat) : bits .and .i64 ((k : Int) / 2 ^ i) 1 = ((k.testBit i).toNat : Int) := by rw [and_one, div_pow_mod]
@[go_sem] theorem toNat_beq_one (b : Bool) : (((b.toNat : Nat) : Int) == 1) = b := by cases b <;> rfl
@[go_sem] theorem toNat_beq_zero (b : Bool) : (((b.toNat : Nat) : Int) == 0) = !b := by cases b <;> rfl
theorem pow_cast (i : Nat) : ((2 : Int) ^ i) = ((2 ^ i : Nat) : Int) := by simp
theorem or_pow (k i : Nat) (hk : k < 2 ^ 60) (hi : i ≤ 60) : bits .or .i64 (k : Int) ((2 : Int) ^ i) = ((k ||| 2 ^ i : Nat) : Int) := by
  rw [pow_cast]; exact i64_or k (2 ^ i) (by omega) (Nat.pow_lt_pow_right (by omega) (by omega))
theorem or_pow_lt (k i n : Nat) (hk : k < 2 ^ n) (hi : i < n) : k ||| 2 ^ i < 2 ^ n := Nat.or_lt_two_pow hk (Nat.pow_lt_pow_right (by omega) hi)
/-- how many states n switches have -/
def pw (n : Nat) : Nat := 2 ^ n
theorem pw_le {n : Nat} (hn : n ≤ 5) : 1 ≤ pw n ∧ pw n ≤ 32 := pow2_leN n hn
theorem pw_cast (n : Nat) : ((2 : Int) ^ n) = ((pw n : Nat) : Int) := by simp [pw]

/-- a number lies between two others -/
def inI (n lo hi : Int) : Bool := decide (lo ≤ n) && decide (n ≤ hi)
/-- a state without its switch i -/
def dropN (s i : Nat) : Nat := s / 2 ^ (i + 1) * 2 ^ i + s % 2 ^ i
theorem drop_le (s i : Nat) : s / 2 ^ (i + 1) * 2 ^ i ≤ s := by
  rw [Nat.pow_succ, ← Nat.div_div_eq_div_mul]
  calc s / 2 ^ i / 2 * 2 ^ i ≤ s / 2 ^ i * 2 ^ i := Nat.mul_le_mul_right _ (Nat.div_le_self _ _)
    _ ≤ s := Nat.div_mul_le_self _ _
theorem drop_or (s i : Nat) : s % 2 ^ i ||| s / 2 ^ (i + 1) * 2 ^ i = dropN s i := by
  rw [Nat.or_comm, nat_join i _ _ (by simp) (Nat.mod_lt _ (Nat.two_pow_pos i)), dropN]
theorem and_mask (s i : Nat) (hs : s < 2 ^ 60) (hi : i ≤ 60) : bits .and .i64 (s : Int) ((2 : Int) ^ i - 1) = (s : Int) % 2 ^ i := by
  have h1 : 1 ≤ 2 ^ i := Nat.one_le_two_pow
  have h2 : 2 ^ i ≤ 2 ^ 60 := Nat.pow_le_pow_right (by omega) hi
  have e : ((2 : Int) ^ i - 1) = ((2 ^ i - 1 : Nat) : Int) := by rw [Int.natCast_sub h1]; simp
  rw [e, i64_and s _ (by omega) (by omega), Nat.and_two_pow_sub_one_eq_mod]; simp
theorem drop_facts (s i : Nat) (hs : s < 32) (hi : i < 5) : bits .and .i64 (s : Int) ((2 : Int) ^ i - 1) = (s : Int) % 2 ^ i ∧ (0 : Int) ≤ (s : Int) / 2 ^ (i + 1) * 2 ^ i ∧ (s : Int) / 2 ^ (i + 1) * 2 ^ i < 32
    ∧ bits .or .i64 ((s : Int) % 2 ^ i) ((s : Int) / 2 ^ (i + 1) * 2 ^ i) = (dropN s i : Nat) := by
  have h2 := drop_le s i
  have e : ((s : Int) / 2 ^ (i + 1) * 2 ^ i) = ((s / 2 ^ (i + 1) * 2 ^ i : Nat) : Int) := by simp
  have e' : ((s : Int) % 2 ^ i) = ((s % 2 ^ i : Nat) : Int) := by simp
  have h3 := Nat.mod_le s (2 ^ i)
  refine ⟨and_mask s i (by omega) (by omega), by omega, by omega, ?_⟩
  rw [e, e', i64_or _ _ (by omega) (by omega), drop_or]

section laws
variable {P : Program} {ops : Array Oper} {rest : List Oper} {o : Oper} {a : Act} {w w' : World} {Q : Exit → Act → World → Prop} {v : Value}
/-- an operation that comes to a value -/
theorem wpList_val (hg : o.guard = none) (hr : (execOp a.eval o).run P w = .ok (.value v) w') (h : wpList P ops Q rest (a.put o.dst v) w') : wpList P ops Q (o :: rest) a w :=
  wpList_plain hg fun _ hK => by unfold Oper.wp; rw [hr]; exact hK _ _ h
theorem wpList_skip' (hg : o.guard = none) (hr : (execOp a.eval o).run P w = .ok .skip w') (h : wpList P ops Q rest (a.put o.dst undef) w') : wpList P ops Q (o :: rest) a w :=
  wpList_plain hg fun _ hK => by unfold Oper.wp; rw [hr]; exact hK _ _ h
theorem wpList_alloc' (hg : o.guard = none) (t : TypeId) (ho : o.op = .alloc t) (hr : (Instr.alloc t true (.tuple #[])).run P w = .ok v w')
    (h : wpList P ops Q rest (a.put o.dst v) w') : wpList P ops Q (o :: rest) a w :=
  wpList_val hg (by unfold execOp; simp only [ho, Sem.run_bind, Sem.run_pure, Result.andThen_ok, hr]) h
theorem map_parts (f : Nat × Operand → Nat × Value) (parts : Array (Nat × Operand)) {l : List (Nat × Value)} (h : parts.toList.map f = l) : parts.map f = l.toArray := by
  subst h; cases parts; simp
theorem wpList_build' (hg : o.guard = none) (t : TypeId) (parts : Array (Nat × Operand)) (ho : o.op = .build t parts) {l : List (Nat × Value)} (hp : parts.toList.map (fun (i, x) => (i, a.eval x)) = l)
    (hr : (Instr.build t l.toArray).run P w = .ok v w') (h : wpList P ops Q rest (a.put o.dst v) w') : wpList P ops Q (o :: rest) a w :=
  wpList_val hg (by unfold execOp; simp only [ho, map_parts _ _ hp, Sem.run_bind, Sem.run_pure, Result.andThen_ok, hr]) h
theorem wpList_buildSlice' (hg : o.guard = none) (t : TypeId) (n : Nat) (parts : Array (Nat × Operand)) (ho : o.op = .buildSlice t n parts) {l : List (Nat × Value)} (hp : parts.toList.map (fun (i, x) => (i, a.eval x)) = l)
    (hr : (Instr.buildSlice t n l.toArray).run P w = .ok v w') (h : wpList P ops Q rest (a.put o.dst v) w') : wpList P ops Q (o :: rest) a w :=
  wpList_val hg (by unfold execOp; simp only [ho, map_parts _ _ hp, Sem.run_bind, Sem.run_pure, Result.andThen_ok, hr]) h
theorem wpList_load' (hg : o.guard = none) (t : TypeId) (x : Operand) (ho : o.op = .load t x) {p : Value} (hx : a.eval x = p) (hr : (Instr.loadAt t p).run P w = .ok v w')
    (h : wpList P ops Q rest (a.put o.dst v) w') : wpList P ops Q (o :: rest) a w :=
  wpList_val hg (by subst hx; unfold execOp; simp only [ho, Sem.run_bind, Sem.run_pure, Result.andThen_ok, hr]) h
theorem wpList_store' (hg : o.guard = none) (t : TypeId) (x y : Operand) (ho : o.op = .store t x y) {p u : Value} (hx : a.eval x = p) (hy : a.eval y = u) (hr : (Instr.storeAt t p u).run P w = .ok () w')
    (h : wpList P ops Q rest (a.put o.dst undef) w') : wpList P ops Q (o :: rest) a w :=
  wpList_skip' hg (by subst hx; subst hy; unfold execOp; simp only [ho, Sem.run_bind, Sem.run_pure, Result.andThen_ok, hr]) h
/-- a guarded load whose guard says yes -/
theorem wpList_loadG (hgd : Region.wanted o (yielded ops a.tmps) = true) (t : TypeId) (x : Operand) (ho : o.op = .load t x) {p : Value} (hx : a.eval x = p) (hr : (Instr.loadAt t p).run P w = .ok v w')
    (h : wpList P ops Q rest (a.put o.dst v) w') : wpList P ops Q (o :: rest) a w :=
  wpList_step fun K hK => by
    rw [if_pos hgd]
    unfold Oper.wp
    have : (execOp a.eval o).run P w = .ok (.value v) w' := by subst hx; unfold execOp; simp only [ho, Sem.run_bind, Sem.run_pure, Result.andThen_ok, hr]
    rw [this]; exact hK _ _ h
end laws
theorem block_lt {w : World} {b : Nat} {o : Obj} (h : w.heap[b]? = some o) : b < w.heap.size := (Array.getElem?_eq_some_iff.1 h).1
theorem below_setRow {B : Nat} {a w : World} (h : RowKit.Below B a w) {g : Nat} (hg : B ≤ g) (cs : Array Value) : RowKit.Below B a (w.setRow g cs) :=
  h.trans ⟨rfl, rfl, rfl, by simp, fun k hk => setRow_other w g k cs (by omega)⟩

/-! ### tables as texts -/
/-- of how many inputs a table of a length is; 0: of none -/
def logN (m : Nat) : Nat := if m = 2 then 1 else if m = 4 then 2 else if m = 8 then 3 else if m = 16 then 4 else if m = 32 then 5 else 0
def isBit (b : UInt8) : Bool := b == 48 || b == 49
/-- a text is a table -/
def tabOk (f : ByteArray) : Bool := decide (0 < logN f.size) && f.data.toList.all isBit
/-- the value of a table for a state -/
def bitAt (f : ByteArray) (s : Nat) : Bool := f.data.toList.getD s 48 == 49
theorem logN_spec (m : Nat) : (logN m = 0 ∧ ∀ n, 1 ≤ n → n ≤ 5 → m ≠ pw n) ∨ (1 ≤ logN m ∧ logN m ≤ 5 ∧ m = pw (logN m)) := by
  unfold logN pw
  by_cases h1 : m = 2
  · right; simp [h1]
  by_cases h2 : m = 4
  · right; simp [h2]
  by_cases h3 : m = 8
  · right; simp [h3]
  by_cases h4 : m = 16
  · right; simp [h4]
  by_cases h5 : m = 32
  · right; simp [h5]
  left
  refine ⟨by simp [h1, h2, h3, h4, h5], fun n hn hn5 => ?_⟩
  have : n = 1 ∨ n = 2 ∨ n = 3 ∨ n = 4 ∨ n = 5 := by omega
  rcases this with rfl | rfl | rfl | rfl | rfl <;> simpa
theorem pw_inj {a b : Nat} (ha : 1 ≤ a) (ha5 : a ≤ 5) (hb : 1 ≤ b) (hb5 : b ≤ 5) (h : pw a = pw b) : a = b := by
  have h1 : a = 1 ∨ a = 2 ∨ a = 3 ∨ a = 4 ∨ a = 5 := by omega
  have h2 : b = 1 ∨ b = 2 ∨ b = 3 ∨ b = 4 ∨ b = 5 := by omega
  rcases h1 with rfl | rfl | rfl | rfl | rfl <;> rcases h2 with rfl | rfl | rfl | rfl | rfl <;> simp_all [pw]
theorem logN_pw {n : Nat} (h1 : 1 ≤ n) (h5 : n ≤ 5) : logN (pw n) = n := by
  have : n = 1 ∨ n = 2 ∨ n = 3 ∨ n = 4 ∨ n = 5 := by omega
  rcases this with rfl | rfl | rfl | rfl | rfl <;> rfl

theorem bit_no (v : UInt8) (h : isBit v = false) : ((v.toNat : Int) != 48) = true ∧ ((v.toNat : Int) != 49) = true := by
  simp only [isBit, Bool.or_eq_false_iff, beq_eq_false_iff_ne, ne_eq, ← UInt8.toNat_inj] at h
  simp only [bne_iff_ne, ne_eq]
  have h48 : (48 : UInt8).toNat = 48 := rfl
  have h49 : (49 : UInt8).toNat = 49 := rfl
  exact ⟨fun e => h.1 (by omega), fun e => h.2 (by omega)⟩
theorem bit_yes (v : UInt8) (h : isBit v = true) : (v = 48 ∧ ((v.toNat : Int) != 48) = false) ∨ (((v.toNat : Int) != 48) = true ∧ ((v.toNat : Int) != 49) = false) := by
  simp only [isBit, Bool.or_eq_true, beq_iff_eq] at h
  rcases h with rfl | rfl
  · exact .inl ⟨rfl, rfl⟩
  · exact .inr ⟨rfl, rfl⟩
theorem byte_at (f : ByteArray) (j : Nat) (h : j < f.size) : f.data.toList[j]'(by simpa using h) = f[j] := by
  simp [ByteArray.getElem_eq_getElem_data]
theorem tab_bad (f : ByteArray) (j : Nat) (h : j < f.size) (hb : isBit f[j] = false) : tabOk f = false := by
  unfold tabOk
  rw [Bool.and_eq_false_iff]
  right
  rw [List.all_eq_false]
  exact ⟨f.data.toList[j]'(by simpa using h), List.getElem_mem _, by rw [byte_at f j h, hb]; decide⟩
theorem tab_good (f : ByteArray) (h0 : 0 < logN f.size) (hb : ∀ m (h : m < f.size), isBit f[m] = true) : tabOk f = true := by
  unfold tabOk
  simp only [h0, decide_true, Bool.true_and, List.all_eq_true]
  intro x hx
  obtain ⟨m, hm, rfl⟩ := List.getElem_of_mem hx
  have hm' : m < f.size := by simpa using hm
  rw [byte_at f m hm']; exact hb m hm'

theorem bitAt_upto (f : ByteArray) (s : Nat) : upto f.size (bitAt f) s = bitAt f s := by
  unfold upto
  by_cases h : s < f.size
  · simp [h]
  · have : bitAt f s = false := by
      unfold bitAt
      rw [List.getD_eq_getElem?_getD, List.getElem?_eq_none (by simpa using h)]; rfl
    simp [h, this]
theorem bitAt_b2 (f : ByteArray) (s : Nat) (h : s < f.size) (hb : isBit f[s] = true) : ((f[s].toNat : Int) - 48) = b2 (bitAt f s) ∧ 48 ≤ f[s].toNat ∧ f[s].toNat ≤ 49 := by
  have e : bitAt f s = (f[s] == 49) := by
    unfold bitAt
    rw [List.getD_eq_getElem?_getD, List.getElem?_eq_getElem (by simpa using h), Option.getD_some, byte_at f s h]
  rw [e]
  simp only [isBit, Bool.or_eq_true, beq_iff_eq] at hb
  rcases hb with hb | hb <;> rw [hb] <;> decide

theorem enters_fn {P : Program} {f : FuncId} {fn : Func} {c : Code} (hf : P.funcs[f]? = some fn) (hname : (fn.name == "runtime.NumGoroutine") = false) (hb : fn.body = some c) :
    ∀ args w, (callFunc f args).run P w = .ok (.enter f args) w := by
  intro args w
  have h1 : fn.name ≠ "runtime.NumGoroutine" := by simpa using hname
  simp [callFunc, hf, h1, hb, mark]

theorem own_below {w w1 : World} {base e size n : Nat} {v : Value} {xs : List Value} (h : w.ownsRow base e size v n xs) (hb : RowKit.Below w.heap.size w w1) : w1.ownsRow base e size v n xs :=
  h.kept (row := none) ⟨hb.os, hb.tape, hb.output, hb.size, fun k hk _ => hb.block k hk⟩ (by cases hv : v.ownBlock <;> simp)

theorem own_ge {w : World} {base e size n : Nat} {v : Value} {xs : List Value} (h : w.ownsRow base e size v n xs) {g : Nat} (hg : v.ownBlock = some g) : base ≤ g := by
  rcases h.2 with ⟨rfl, _⟩ | ⟨g', cap, cur, rfl, hb, _⟩
  · simp [Value.ownBlock] at hg
  · simp [Value.ownBlock] at hg
    omega
theorem own_slice {w : World} {base e size n : Nat} {v : Value} {xs : List Value} (h : w.ownsRow base e size v n xs) (hn : 1 ≤ n) :
    ∃ g cap, v = .slice (some ⟨g, 0, none⟩) n cap ∧ base ≤ g ∧ g < w.heap.size := by
  rcases h.2 with ⟨rfl, hz⟩ | ⟨g', cap, cur, rfl, hb, hg, _⟩
  · omega
  · exact ⟨g', cap, rfl, hb, block_lt hg⟩
theorem cell_new {w : World} {b t : Nat} {v : Value} (hb : b = w.heap.size) : (w.alloc (.cells #[v] t)).cell? ⟨b, 0, none⟩ = some v := by
  subst hb
  rw [cell_of_row _ _ _ _ _ _ (heap_alloc_new _ _)]; rfl
end Go.Sw
