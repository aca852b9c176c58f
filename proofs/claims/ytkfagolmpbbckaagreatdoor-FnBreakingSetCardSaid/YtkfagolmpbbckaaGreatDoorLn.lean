/- Plain words: lengths of lists without repetitions; what a turned network keeps; how many fixed points a breaking set leaves. -/
import Derived.Test.YtkfagolmpbbckaaGreatDoorP2
import Derived.Test.YtkfagolmpbbckaaGreatDoorTh
namespace Go.Proofs.YtkfagolmpbbckaaGreatDoor
open Go Go.Sw
set_option linter.unusedVariables false

theorem len_leL {l m : List Nat} (hn : l.Nodup) (hs : ∀ x ∈ l, x ∈ m) : l.length ≤ m.length := by
  induction l generalizing m with
  | nil => exact Nat.zero_le _
  | cons a l ih =>
    obtain ⟨ha, hn⟩ := List.nodup_cons.1 hn
    have ham := hs a (by simp)
    have := ih (m := m.erase a) hn fun x hx => by
      have hne : x ≠ a := fun e => ha (e ▸ hx)
      exact (List.mem_erase_of_ne hne).2 (hs x (by simp [hx]))
    rw [List.length_erase_of_mem ham] at this
    have h0 : 0 < m.length := List.length_pos_of_mem ham
    rw [List.length_cons]; omega
theorem nodup_mapL {l : List Nat} {g : Nat → Nat} (hn : l.Nodup) (hg : ∀ x ∈ l, ∀ y ∈ l, g x = g y → x = y) : (l.map g).Nodup := by
  induction l with
  | nil => simp
  | cons a l ih =>
    obtain ⟨ha, hn⟩ := List.nodup_cons.1 hn
    rw [List.map_cons, List.nodup_cons]
    refine ⟨fun h => ?_, ih hn fun x hx y hy => hg x (by simp [hx]) y (by simp [hy])⟩
    obtain ⟨b, hb, e⟩ := List.mem_map.1 h
    have := hg b (by simp [hb]) a (by simp) e
    subst this
    exact ha hb

theorem mono_wkL {N : Net} (h : monoN N = true) {a b : Nat} {s : Bool} {l : List Nat} (hw : Wk (arcB N) a b s l) : s = true := by
  induction hw with
  | nil => rfl
  | @cons a b c s t l r _ ih =>
    subst ih
    cases s
    · have := (monoN_iff N).1 h a b r.1.1 r.1.2
      have hr := r.2
      rw [if_neg (by decide), this] at hr
      exact absurd hr (by decide)
    · rfl
theorem mono_noL {N : Net} (h : monoN N = true) : ¬ ∃ c ∈ circL N, adm (circC N c) false := by
  rw [circ_iff]
  rintro ⟨a, l, _, _, hw⟩
  exact absurd (mono_wkL h hw) (by decide)
theorem fixL_eqvL {N M : Net} (h : N.eqv M) : fixL N = fixL M := by
  unfold fixL
  rw [← h.1]
  exact pickL_congr fun s hs => by unfold fixB; rw [h.step hs]
theorem turn_count {N : Net} {set : Nat} (hset : set < pw N.n) : (fixL (turnN N set)).length = (fixL N).length := by
  have hinj : ∀ x y : Nat, x ^^^ set = y ^^^ set → x = y := fun x y e => by
    have := congrArg (· ^^^ set) e
    simpa only [Nat.xor_assoc, Nat.xor_self, Nat.xor_zero] using this
  apply Nat.le_antisymm
  · have := len_leL (l := (fixL (turnN N set)).map fun x => x ^^^ set) (m := fixL N) (nodup_mapL (sorted_fixL _).1 fun x _ y _ e => hinj x y e) fun z hz => by
      obtain ⟨x, hx, rfl⟩ := List.mem_map.1 hz
      obtain ⟨h1, h2⟩ := fixL_mem.1 hx
      exact fixL_mem.2 ⟨xor_lt h1 hset, (turn_fix hset h1).1 h2⟩
    rwa [List.length_map] at this
  · have := len_leL (l := (fixL N).map fun x => x ^^^ set) (m := fixL (turnN N set)) (nodup_mapL (sorted_fixL _).1 fun x _ y _ e => hinj x y e) fun z hz => by
      obtain ⟨x, hx, rfl⟩ := List.mem_map.1 hz
      obtain ⟨h1, h2⟩ := fixL_mem.1 hx
      refine fixL_mem.2 ⟨xor_lt h1 hset, (turn_fix hset (xor_lt h1 hset)).2 ?_⟩
      rw [Nat.xor_assoc, Nat.xor_self, Nat.xor_zero]; exact h2
    rwa [List.length_map] at this
/-- all that is said of the turned network -/
structure TurnF (N M : Net) (set : Nat) : Prop where
  mono : monoN M = true
  lt : limN M 0 < pw N.n
  low : stepN N (limN M 0 ^^^ set) = limN M 0 ^^^ set
  cnt : (fixL M).length = (fixL N).length
  circ : ¬ ∃ c ∈ circL N, adm (circC N c) false
theorem turn_facts {N M : Net} {set : Nat} (h5 : N.n ≤ 5) (hset : set < pw N.n) (he : M.eqv (turnN N set)) (hm : monoN (turnN N set) = true) : TurnF N M set := by
  have hmM : monoN M = true := by rw [he.mono]; exact hm
  have hn : M.n = N.n := he.1
  have hr := rise_rest hmM (by omega) (low_rise (N := M))
  have hl : limN M 0 < pw M.n := lim_lt hr.1
  have hf : stepN M (limN M 0) = limN M 0 := hr.2
  refine ⟨hmM, by rw [← hn]; exact hl, ?_, by rw [fixL_eqvL he, turn_count hset], ?_⟩
  · rw [he.step hl] at hf
    exact (turn_fix hset (by rw [← hn]; exact hl)).1 hf
  · have ht : Twist set N M := (turn_twist hset).eqv he.symm
    rw [← twist_circ ht]
    exact mono_noL hmM
/-! ### breaking sets -/
theorem sub_count : ∀ set, set < 32 → (pickL (fun y => (y &&& set) == y) 32).length = 2 ^ onesN set := by decide +kernel
theorem break_count {N : Net} (h5 : N.n ≤ 5) {set : Nat} (hs : set < pw N.n) (hb : brB N ⟨#[43]⟩ set = true) : (fixL N).length ≤ 2 ^ onesN set := by
  have hpw := pw_le h5
  have hno : ∀ c ∈ circL N, missB N ⟨#[43]⟩ set c = false := fun c hc => by
    unfold brB at hb
    rw [Bool.not_eq_true', List.any_eq_false] at hb
    simpa using hb c hc
  have := len_leL (l := (fixL N).map fun x => x &&& set) (m := pickL (fun y => (y &&& set) == y) 32) (nodup_mapL (sorted_fixL _).1 fun x hx y hy e => by
    apply Classical.byContradiction
    intro hne
    obtain ⟨hx1, hx2⟩ := fixL_mem.1 hx
    obtain ⟨hy1, hy2⟩ := fixL_mem.1 hy
    obtain ⟨c, hc, ha, hd⟩ := two_points hx1 hy1 hx2 hy2 hne
    have hm := hno c hc
    unfold missB at hm
    rw [(isC_plus (circC_le N c)).2 ha, Bool.true_and, meet_zero, Bool.not_eq_false', List.any_eq_true] at hm
    obtain ⟨i, hi, hb⟩ := hm
    have h1 := hd i hi
    have h2 := congrArg (fun z => z.testBit i) e
    simp only [Nat.testBit_and, hb, Bool.and_true] at h2
    exact h1 h2) fun z hz => by
      obtain ⟨x, hx, rfl⟩ := List.mem_map.1 hz
      obtain ⟨hx1, _⟩ := fixL_mem.1 hx
      refine pickL_mem.2 ⟨by have := Nat.and_le_left (n := x) (m := set); omega, ?_⟩
      rw [beq_iff_eq, Nat.and_assoc, Nat.and_self]
  rw [List.length_map, sub_count set (by omega)] at this
  exact this
end Go.Proofs.YtkfagolmpbbckaaGreatDoor
