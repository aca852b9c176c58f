/- Plain law: what circuits say of fixed points, attractors and steps. -/
import Derived.Test.YtkfagolmpbbckaaGreatDoorP2
import Derived.Test.YtkfagolmpbbckaaGreatDoorP1
import Derived.Test.YtkfagolmpbbckaaGreatDoorImplB
namespace Go.Sw
open Go
end Go.Sw
namespace Go.Proofs.YtkfagolmpbbckaaGreatDoor
open Go Go.Sw
set_option linter.unusedVariables false

/-- a circuit of plus: one of the sign '+', and the like -/
theorem has_plus {t : ByteArray} (h : netOk t = true) : hasB t ⟨#[43]⟩ = true ↔ ∃ c ∈ circL (netOf t), adm (circC (netOf t) c) true := by
  unfold hasB
  rw [h, Bool.true_and, show plusB ⟨#[43]⟩ = true by decide, Bool.true_and, List.any_eq_true]
  exact ⟨fun ⟨c, hc, h⟩ => ⟨c, hc, (isC_plus (circC_le _ c)).1 h⟩, fun ⟨c, hc, h⟩ => ⟨c, hc, (isC_plus (circC_le _ c)).2 h⟩⟩
theorem has_minus {t : ByteArray} (h : netOk t = true) : hasB t ⟨#[45]⟩ = true ↔ ∃ c ∈ circL (netOf t), adm (circC (netOf t) c) false := by
  unfold hasB
  rw [h, Bool.true_and, show plusB ⟨#[45]⟩ = true by decide, Bool.true_and, List.any_eq_true]
  exact ⟨fun ⟨c, hc, h⟩ => ⟨c, hc, (isC_minus (circC_le _ c)).1 h⟩, fun ⟨c, hc, h⟩ => ⟨c, hc, (isC_minus (circC_le _ c)).2 h⟩⟩
theorem sorted_fixL (N : Net) : (fixL N).Nodup ∧ ∀ x ∈ fixL N, x < pw N.n ∧ stepN N x = x := by
  refine ⟨?_, fun x hx => fixL_mem.1 hx⟩
  unfold fixL
  have key : ∀ (p : Nat → Bool) (k : Nat), (pickL p k).Nodup := by
    intro p k
    induction k with
    | zero => simp [pickL]
    | succ k ih =>
      rw [pickL]; split
      · rw [List.nodup_append]
        exact ⟨ih, by simp, fun a ha b hb => by
          have := (pickL_mem.1 ha).1
          obtain rfl : b = k := by simpa using hb
          omega⟩
      · exact ih
  exact key _ _
/-- no circuits of plus: at most one fixed point -/
theorem one_point_plus {N : Net} (h : ∀ c ∈ circL N, ¬ adm (circC N c) true) : (fixL N).length ≤ 1 := by
  obtain ⟨h1, h2⟩ := sorted_fixL N
  match hL : fixL N, h1, h2 with
  | [], _, _ => exact Nat.zero_le _
  | [x], _, _ => exact Nat.le_refl _
  | x :: y :: r, h1, h2 =>
    exfalso
    obtain ⟨hx, fx⟩ := h2 x (by simp)
    obtain ⟨hy, fy⟩ := h2 y (by simp)
    have hne : x ≠ y := fun e => by
      rw [List.nodup_cons] at h1
      exact h1.1 (by rw [e]; simp)
    obtain ⟨c, hc, ha, _⟩ := two_points hx hy fx fy hne
    exact h c hc ha
theorem AR_fix {N : Net} {s t : Nat} (h : AR N s t) (hf : stepN N s = s) : t = s := by
  induction h with
  | refl => rfl
  | @step s i t hi _ ih =>
    have e : setN s i (N.f i s) = s := setN_eq_self (by rw [fix_bit hf hi])
    rw [e] at ih
    exact ih hf
/-- no circuits of minus: the attractors are the fixed points -/
theorem att_points {N : Net} (h : ∀ c ∈ circL N, ¬ adm (circC N c) false) : (attL N).length = (fixL N).length ∧ 1 ≤ (fixL N).length := by
  have hz : 0 < pw N.n := Nat.two_pow_pos _
  constructor
  · have e : attS N = fixL N := by
      unfold attS fixL
      refine pickL_congr fun s hs => ?_
      rw [Bool.eq_iff_iff, leastB_iff, fixB_iff]
      constructor
      · rintro ⟨h1, h2⟩
        obtain ⟨t, ht, ha, hf⟩ := to_point h hs
        have hb := (steadyB_iff hs).1 h1 t ha
        have e := AR_fix hb hf
        rw [e]; exact hf
      · intro hf
        refine ⟨(steadyB_iff hs).2 fun t ht => ?_, fun t ht => ?_⟩
        · rw [AR_fix ht hf]; exact .refl s
        · cases ha : arB N s t
          · rfl
          · have := AR_fix (arB_iff.1 ha) hf
            omega
    have hl : (attL N).length = (attS N).length := by unfold attL; rw [List.length_map]
    rw [hl, e]
  · obtain ⟨t, ht, _, hf⟩ := to_point h hz
    exact List.length_pos_of_mem (fixL_mem.2 ⟨ht, hf⟩)

/-! ### no circuits -/
theorem closed_way' {R : Nat → Nat → Bool → Prop} {n a b : Nat} {s : Bool} {l : List Nat} (h : Wk R a b s l) (hl : n ≤ l.length) (hlt : ∀ x ∈ l, x < n) (hb : b < n) : ∃ c t m, m ≠ [] ∧ m.Nodup ∧ Wk R c c t m := by
  by_cases hn : l.Nodup
  · have hbl : b ∈ l := by
      apply Classical.byContradiction
      intro hc
      have := nodup_length (l := b :: l) (List.nodup_cons.2 ⟨hc, hn⟩) (n := n) fun x hx => by
        rcases List.mem_cons.1 hx with rfl | hx
        · exact hb
        · exact hlt x hx
      rw [List.length_cons] at this
      omega
    obtain ⟨l1, l2, rfl⟩ := List.append_of_mem hbl
    obtain ⟨s1, s2, h1, h2, e⟩ := h.split
    exact ⟨b, s2, b :: l2, by simp, (List.nodup_append.1 hn).2.1, h2⟩
  · obtain ⟨x, l1, l2, l3, rfl⟩ := dup_of hn
    obtain ⟨s1, s2, h1, h2, e⟩ := h.split
    obtain ⟨s3, s4, h3, h4, e2⟩ := Wk.split (l := x :: l2) h2
    obtain ⟨c, t, m, k1, k2, k3, k4⟩ := simple_some _ x s3 (x :: l2) (Nat.le_refl _) (by simp) h3
    exact ⟨c, t, m, k3, k2, k1⟩
theorem no_closed {N : Net} (hc : circL N = []) {a : Nat} {s : Bool} {l : List Nat} (h : Wk (arcB N) a a s l) : l = [] := by
  apply Classical.byContradiction
  intro hne
  obtain ⟨b, t, m, k1, k2, k3, k4⟩ := simple_some _ a s l (Nat.le_refl _) hne h
  obtain ⟨c, h1, _⟩ := circ_of k1 k2 k3
  rw [hc] at h1; cases h1
theorem flow_diff {N : Net} (m : Nat) : ∀ (x y k : Nat), x < pw N.n → y < pw N.n → k < N.n → (iterN N m x).testBit k ≠ (iterN N m y).testBit k → ∃ a s l, l.length = m ∧ (∀ z ∈ l, z < N.n) ∧ Wk (arcB N) a k s l := by
  induction m with
  | zero => intro x y k _ _ _ _; exact ⟨k, true, [], rfl, (fun z hz => by cases hz), .nil k⟩
  | succ m ih =>
    intro x y k hx hy hk hne
    rw [iterN_succ, iterN_succ, stepN_testBit, stepN_testBit, decide_eq_true hk, Bool.true_and, Bool.true_and] at hne
    obtain ⟨j, hj, hjne, ha⟩ := flip_arc hk (iterN_lt N m x hx) (iterN_lt N m y hy) hne
    obtain ⟨a, s, l, h1, h2, h3⟩ := ih x y j hx hy hj hjne
    have := h3.append (Wk.one ha)
    exact ⟨a, _, _, by rw [List.length_append, h1]; rfl, fun z hz => by
      rcases List.mem_append.1 hz with hz | hz
      · exact h2 z hz
      · obtain rfl : z = j := by simpa using hz
        exact hj, this⟩
/-- after as many steps as switches all states are one -/
theorem flow_same {N : Net} (hc : circL N = []) {x y : Nat} (hx : x < pw N.n) (hy : y < pw N.n) : iterN N N.n x = iterN N N.n y := by
  apply Classical.byContradiction
  intro hne
  obtain ⟨k, hk, hkne⟩ := bit_ne_of (iterN_lt N N.n x hx) (iterN_lt N N.n y hy) hne
  obtain ⟨a, s, l, h1, h2, h3⟩ := flow_diff N.n x y k hx hy hk hkne
  obtain ⟨c, t, m, k1, k2, k3⟩ := closed_way' h3 (by omega) h2 hk
  exact k1 (no_closed hc k3)
theorem flow_fix {N : Net} (hc : circL N = []) {x : Nat} (hx : x < pw N.n) : stepN N (iterN N N.n x) = iterN N N.n x := by
  rw [← iterN_succ]
  exact flow_same hc (stepN_lt N x) hx
theorem flow_points {N : Net} (hc : circL N = []) : fixL N = [iterN N N.n 0] := by
  have hz : 0 < pw N.n := Nat.two_pow_pos _
  obtain ⟨h1, h2⟩ := sorted_fixL N
  have hmem : iterN N N.n 0 ∈ fixL N := fixL_mem.2 ⟨iterN_lt N _ _ hz, flow_fix hc hz⟩
  have hall : ∀ x ∈ fixL N, x = iterN N N.n 0 := fun x hx => by
    obtain ⟨a, b⟩ := h2 x hx
    have := flow_same hc a hz
    rwa [iterN_fix N _ _ b] at this
  match hL : fixL N, h1, hall, hmem with
  | [], _, _, hm => cases hm
  | [x], _, hall, _ => rw [hall x (by simp)]
  | x :: y :: r, h1, hall, _ =>
    exfalso
    have e1 := hall x (by simp)
    have e2 := hall y (by simp)
    rw [List.nodup_cons] at h1
    exact h1.1 (by rw [e1, e2]; simp)
theorem flow_rest {N : Net} (hc : circL N = []) (h5 : N.n ≤ 5) {s : Nat} (hs : s < pw N.n) : restP N 32 s ∧ limN N s = iterN N N.n 0 := by
  have hz : 0 < pw N.n := Nat.two_pow_pos _
  have h1 : iterN N 32 s = iterN N N.n s := by
    rw [show 32 = (32 - N.n) + N.n by omega, iterN_add]
    exact iterN_fix N _ _ (flow_fix hc hs)
  have h2 := flow_same hc hs hz
  exact ⟨⟨hs, by rw [h1]; exact flow_fix hc hs⟩, by unfold limN; rw [h1, h2]⟩
theorem flow_tail {N : Net} (hc : circL N = []) {s p i : Nat} (hs : s < pw N.n) (h : Orb N s p i) : i ≤ N.n := by
  apply Classical.byContradiction
  intro hn
  have h1 := h.unlike N.n (N.n + 1) (by omega) (by have := h.lt; omega)
  rw [iterN_succ, flow_fix hc hs] at h1
  exact h1 rfl
/-- the switches that act on themselves are those of circuits -/
theorem reach_wk {N : Net} {i k : Nat} (hi : i < N.n) (h : Go.Sw.Reach N i k) : ∃ s l, l ≠ [] ∧ Wk (arcB N) i k s l := by
  induction h with
  | @one t ht hinf =>
    obtain ⟨s, hs⟩ := inf_arc hi ht hinf
    exact ⟨s, [i], by simp, .one hs⟩
  | @more k t hk ht hinf ih =>
    obtain ⟨s, l, h1, h2⟩ := ih
    have hkl : k < N.n := by cases hk <;> assumption
    obtain ⟨s2, hs2⟩ := inf_arc hkl ht hinf
    exact ⟨_, l ++ [k], by simp, h2.append (.one hs2)⟩
theorem wk_reach {N : Net} {i k : Nat} {s : Bool} {l : List Nat} (h : Wk (arcB N) i k s l) (hne : l ≠ []) : Go.Sw.Reach N i k := by
  have key : ∀ {a b : Nat} {s : Bool} {l : List Nat}, Wk (arcB N) a b s l → ∀ j, Go.Sw.Reach N j a → Go.Sw.Reach N j b := by
    intro a b s l h
    induction h with
    | nil => intro j hj; exact hj
    | cons r _ ih => intro j hj; exact ih j (.more hj r.1.2 (arc_inf r))
  cases h with
  | nil => exact absurd rfl hne
  | cons r w => exact key w i (.one r.1.2 (arc_inf r))
/-- does no switch below k act on itself? -/
noncomputable def aloneTo (N : Net) : Nat → Bool
  | 0 => true
  | k + 1 => aloneTo N k && !(reachN N k).testBit k
theorem aloneTo_iff (N : Net) (k : Nat) : aloneTo N k = true ↔ ∀ i, i < k → (reachN N i).testBit i = false := by
  induction k with
  | zero => exact ⟨fun _ i h => absurd h (Nat.not_lt_zero _), fun _ => rfl⟩
  | succ k ih =>
    rw [aloneTo, Bool.and_eq_true, ih, Bool.not_eq_true']
    constructor
    · rintro ⟨h1, h2⟩ i hi
      by_cases e : i = k
      · subst e; exact h2
      · exact h1 i (by omega)
    · exact fun h => ⟨fun i hi => h i (by omega), h k (by omega)⟩
theorem alone_iff (N : Net) : aloneTo N N.n = true ↔ circL N = [] := by
  rw [aloneTo_iff]
  constructor
  · intro h
    apply Classical.byContradiction
    intro hne
    obtain ⟨c, hc⟩ := List.exists_mem_of_ne_nil _ hne
    have hok := (circ_sound hc).1
    rcases circ_some (circC_le N c) with ha | ha
    all_goals
      obtain ⟨h1, _, h3⟩ := circ_wk hc ha
      have := (reachN_bit N _ _).2 (wk_reach h1 h3)
      rw [h _ hok.head] at this
      exact absurd this (by decide)
  · intro hc i hi
    cases hb : (reachN N i).testBit i
    · rfl
    · obtain ⟨s, l, h1, h2⟩ := reach_wk hi ((reachN_bit N i i).1 hb)
      exact absurd (no_closed hc h2) h1
end Go.Proofs.YtkfagolmpbbckaaGreatDoor
