/- Plain law: in a monotone network a state that rises comes to the least fixed point above it, one that falls to the greatest below it; joins and meets. -/
import Derived.Test.YtkfagolmpbbckaaDoorPt
import Derived.Test.YtkfagolmpbbckaaDoorWl
namespace Go.Sw
open Go

theorem iterN_mono {N : Net} (h : monoN N = true) (k : Nat) {s t : Nat} (ht : t < pw N.n) (hle : leB s t = true) : leB (iterN N k s) (iterN N k t) = true := by
  induction k generalizing s t with
  | zero => exact hle
  | succ k ih => exact ih (stepN_lt N t) (step_mono h ht hle)
theorem lim_lt {N : Net} {s : Nat} (h : s < pw N.n) : limN N s < pw N.n := iterN_lt N 32 s h
theorem lim_same {N : Net} {s : Nat} (h : stepN N s = s) : limN N s = s := iterN_fix N 32 s h
theorem rise_up {N : Net} (h : monoN N = true) {s : Nat} (hs : riseP N s) (k : Nat) : leB s (iterN N k s) = true := by
  induction k with
  | zero => exact leB_refl s
  | succ k ih =>
    rw [iterN_succ]
    exact leB_trans hs.2 (step_mono h (iterN_lt N k s hs.1) ih)
theorem fall_down {N : Net} (h : monoN N = true) {s : Nat} (hs : fallP N s) (k : Nat) : leB (iterN N k s) s = true := by
  induction k with
  | zero => exact leB_refl s
  | succ k ih =>
    rw [iterN_succ]
    exact leB_trans (step_mono h hs.1 ih) hs.2
theorem lim_le {N : Net} (h : monoN N = true) {s p : Nat} (hp : p < pw N.n) (hf : stepN N p = p) (hle : leB s p = true) : leB (limN N s) p = true := by
  have := iterN_mono h 32 hp hle
  rw [iterN_fix N 32 p hf] at this
  exact this
theorem le_lim {N : Net} (h : monoN N = true) {s p : Nat} (hs : s < pw N.n) (hf : stepN N p = p) (hle : leB p s = true) : leB p (limN N s) = true := by
  have := iterN_mono h 32 hs hle
  rw [iterN_fix N 32 p hf] at this
  exact this
theorem leB_or_left (s t : Nat) : leB s (s ||| t) = true := (leB_iff _ _).2 fun i hi => by rw [Nat.testBit_or, hi]; rfl
theorem leB_or_right (s t : Nat) : leB t (s ||| t) = true := (leB_iff _ _).2 fun i hi => by rw [Nat.testBit_or, hi, Bool.or_true]
theorem leB_and_left (s t : Nat) : leB (s &&& t) s = true := (leB_iff _ _).2 fun i hi => by rw [Nat.testBit_and, Bool.and_eq_true] at hi; exact hi.1
theorem leB_and_right (s t : Nat) : leB (s &&& t) t = true := (leB_iff _ _).2 fun i hi => by rw [Nat.testBit_and, Bool.and_eq_true] at hi; exact hi.2
theorem leB_or {s t p : Nat} (h1 : leB s p = true) (h2 : leB t p = true) : leB (s ||| t) p = true := (leB_iff _ _).2 fun i hi => by
  rw [Nat.testBit_or, Bool.or_eq_true] at hi
  exact hi.elim ((leB_iff _ _).1 h1 i) ((leB_iff _ _).1 h2 i)
theorem leB_and {s t p : Nat} (h1 : leB p s = true) (h2 : leB p t = true) : leB p (s &&& t) = true := (leB_iff _ _).2 fun i hi => by
  rw [Nat.testBit_and, (leB_iff _ _).1 h1 i hi, (leB_iff _ _).1 h2 i hi]; rfl
theorem or_of_le {s t : Nat} (h : leB t s = true) : s ||| t = s := leB_antisymm (leB_or (leB_refl s) h) (leB_or_left s t)
theorem and_of_le {s t : Nat} (h : leB s t = true) : s &&& t = s := leB_antisymm (leB_and_left s t) (leB_and (leB_refl s) h)
theorem or_rise {N : Net} (h : monoN N = true) {s t : Nat} (hs : s < pw N.n) (ht : t < pw N.n) (fs : stepN N s = s) (ft : stepN N t = t) : riseP N (s ||| t) := by
  have hl := Nat.or_lt_two_pow hs ht
  refine ⟨hl, leB_or ?_ ?_⟩
  · have := step_mono h hl (leB_or_left s t); rwa [fs] at this
  · have := step_mono h hl (leB_or_right s t); rwa [ft] at this
theorem and_fall {N : Net} (h : monoN N = true) {s t : Nat} (hs : s < pw N.n) (ht : t < pw N.n) (fs : stepN N s = s) (ft : stepN N t = t) : fallP N (s &&& t) := by
  refine ⟨Nat.lt_of_le_of_lt Nat.and_le_left hs, leB_and ?_ ?_⟩
  · have := step_mono h hs (leB_and_left s t); rwa [fs] at this
  · have := step_mono h ht (leB_and_right s t); rwa [ft] at this
/-- two fixed points: what both answers are -/
theorem both_yes {w : ByteArray} {x y : Int} (h : bothB w x y = true) : netOk w = true ∧ ∃ s t : Nat, x = s ∧ y = t ∧ s < pw (netOf w).n ∧ t < pw (netOf w).n ∧ stepN (netOf w) s = s ∧ stepN (netOf w) t = t := by
  unfold bothB at h
  rw [Bool.and_eq_true, beq_iff_eq, beq_iff_eq] at h
  have one : ∀ z : Int, restI w z = 0 → netOk w = true ∧ ∃ s : Nat, z = s ∧ s < pw (netOf w).n ∧ stepN (netOf w) s = s := fun z hz => by
    have h1 := rest_zero hz
    obtain ⟨h2, h3, h4⟩ := stB_yes h1
    obtain ⟨s, rfl⟩ := Int.eq_ofNat_of_zero_le h3
    refine ⟨h2, s, rfl, by omega, ?_⟩
    unfold restI at hz
    rw [h1, if_pos rfl] at hz
    have hx : stepN (netOf w) s ^^^ s = 0 := by
      have : ((stepN (netOf w) (s : Int).toNat ^^^ (s : Int).toNat : Nat) : Int) = 0 := hz
      rw [Int.toNat_natCast] at this; omega
    apply Nat.eq_of_testBit_eq
    intro i
    have h0 := congrArg (fun z => z.testBit i) hx
    simp only [Nat.testBit_xor, Nat.zero_testBit] at h0
    revert h0
    cases (stepN (netOf w) s).testBit i <;> cases s.testBit i <;> simp
  obtain ⟨h1, s, e1, e2, e3⟩ := one x h.1
  obtain ⟨_, t, e4, e5, e6⟩ := one y h.2
  exact ⟨h1, s, t, e1, e4, e2, e5, e3, e6⟩
theorem stB_nat {w : ByteArray} (h : netOk w = true) {s : Nat} (hs : s < pw (netOf w).n) : stB w (s : Int) = true := by
  unfold stB
  rw [h, Bool.true_and, decide_eq_true (by omega), decide_eq_true (by omega)]; rfl
theorem riseB_nat {w : ByteArray} (h : netOk w = true) {s : Nat} (hr : riseP (netOf w) s) : riseB w (s : Int) = true := by
  unfold riseB
  rw [stB_nat h hr.1, Bool.true_and, Int.toNat_natCast]; exact hr.2
theorem fallB_nat {w : ByteArray} (h : netOk w = true) {s : Nat} (hr : fallP (netOf w) s) : fallB w (s : Int) = true := by
  unfold fallB
  rw [stB_nat h hr.1, Bool.true_and, Int.toNat_natCast]; exact hr.2
theorem riseI_nat {w : ByteArray} (h : netOk w = true) (hm : monoN (netOf w) = true) {s : Nat} (hr : riseP (netOf w) s) : riseI w (s : Int) = ((limN (netOf w) s : Nat) : Int) := by
  unfold riseI monoB
  rw [h, hm, riseB_nat h hr, Int.toNat_natCast]; rfl
theorem fallI_nat {w : ByteArray} (h : netOk w = true) (hm : monoN (netOf w) = true) {s : Nat} (hr : fallP (netOf w) s) : fallI w (s : Int) = ((limN (netOf w) s : Nat) : Int) := by
  unfold fallI monoB
  rw [h, hm, fallB_nat h hr, Int.toNat_natCast]; rfl
theorem bothB_nat {w : ByteArray} (h : netOk w = true) {s t : Nat} (hs : s < pw (netOf w).n) (ht : t < pw (netOf w).n) (fs : stepN (netOf w) s = s) (ft : stepN (netOf w) t = t) : bothB w (s : Int) (t : Int) = true := by
  unfold bothB restI
  rw [stB_nat h hs, stB_nat h ht]
  simp [fs, ft]
theorem joinI_nat {w : ByteArray} (h : netOk w = true) (hm : monoN (netOf w) = true) {s t : Nat} (hs : s < pw (netOf w).n) (ht : t < pw (netOf w).n) (fs : stepN (netOf w) s = s) (ft : stepN (netOf w) t = t) : joinI w (s : Int) (t : Int) = ((limN (netOf w) (s ||| t) : Nat) : Int) := by
  unfold joinI
  rw [bothB_nat h hs ht fs ft, if_pos rfl, Int.toNat_natCast, Int.toNat_natCast]
  exact riseI_nat h hm (or_rise hm hs ht fs ft)
theorem meetI_nat {w : ByteArray} (h : netOk w = true) (hm : monoN (netOf w) = true) {s t : Nat} (hs : s < pw (netOf w).n) (ht : t < pw (netOf w).n) (fs : stepN (netOf w) s = s) (ft : stepN (netOf w) t = t) : meetI w (s : Int) (t : Int) = ((limN (netOf w) (s &&& t) : Nat) : Int) := by
  unfold meetI
  rw [bothB_nat h hs ht fs ft, if_pos rfl, Int.toNat_natCast, Int.toNat_natCast]
  exact fallI_nat h hm (and_fall hm hs ht fs ft)
/-- either there are two fixed points of a monotone network, or both answers are -1 -/
theorem join_cases (w : ByteArray) (x y : Int) : (joinI w x y = -1 ∧ meetI w x y = -1) ∨
    (netOk w = true ∧ monoN (netOf w) = true ∧ ∃ s t : Nat, x = s ∧ y = t ∧ s < pw (netOf w).n ∧ t < pw (netOf w).n ∧ stepN (netOf w) s = s ∧ stepN (netOf w) t = t) := by
  cases hb : bothB w x y
  · left; unfold joinI meetI; rw [hb]; exact ⟨rfl, rfl⟩
  · obtain ⟨h1, h2⟩ := both_yes hb
    cases hm : monoN (netOf w)
    · left
      unfold joinI meetI riseI fallI monoB
      rw [hb, hm, Bool.and_false, Bool.false_and, Bool.false_and]; exact ⟨rfl, rfl⟩
    · exact .inr ⟨h1, rfl, h2⟩
/-- the laws of join and meet -/
structure JM (N : Net) (s t j m : Nat) : Prop where
  jlt : j < pw N.n
  mlt : m < pw N.n
  jf : stepN N j = j
  mf : stepN N m = m
  up : leB (s ||| t) j = true
  down : leB m (s &&& t) = true
  least : ∀ p, p < pw N.n → stepN N p = p → leB (s ||| t) p = true → leB j p = true
  great : ∀ p, p < pw N.n → stepN N p = p → leB p (s &&& t) = true → leB p m = true
  sm : limN N (s ||| m) = s
  sj : limN N (s &&& j) = s
  ts : limN N (t ||| s) = j
theorem join_meet {N : Net} (h : monoN N = true) (h5 : N.n ≤ 5) {s t : Nat} (hs : s < pw N.n) (ht : t < pw N.n) (fs : stepN N s = s) (ft : stepN N t = t) : JM N s t (limN N (s ||| t)) (limN N (s &&& t)) := by
  have hr := or_rise h hs ht fs ft
  have hf := and_fall h hs ht fs ft
  have up : leB (s ||| t) (limN N (s ||| t)) = true := rise_up h hr 32
  have down : leB (limN N (s &&& t)) (s &&& t) = true := fall_down h hf 32
  refine ⟨lim_lt hr.1, lim_lt hf.1, (rise_rest h h5 hr).2, (fall_rest h h5 hf).2, up, down, fun p hp hpf hle => lim_le h hp hpf hle, fun p hp hpf hle => le_lim h hf.1 hpf hle, ?_, ?_, ?_⟩
  · rw [or_of_le (leB_trans down (leB_and_left s t)), lim_same fs]
  · rw [and_of_le (leB_trans (leB_or_left s t) up), lim_same fs]
  · rw [Nat.or_comm]
end Go.Sw
