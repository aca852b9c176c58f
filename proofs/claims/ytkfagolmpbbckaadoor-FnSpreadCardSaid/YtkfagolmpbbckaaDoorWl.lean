/- Plain words and lemmas: two fixed points have a circuit of plus between them; without circuits of minus each state has a way to a fixed point. -/
import Derived.Test.YtkfagolmpbbckaaDoorWk
import Derived.Test.YtkfagolmpbbckaaDoorPt
namespace Go.Sw
open Go

theorem walkL_sound {N : Net} : ∀ (f : Nat) (way : List Nat), WayOk N way → stepsOk N way → ∀ c ∈ walkL N f way, WayOk N c ∧ edgesOk N c := by
  intro f
  induction f with
  | zero => intro way _ _ c hc; cases hc
  | succ f ih =>
    intro way hw hs c hc
    rw [walkL] at hc
    rcases List.mem_append.1 hc with hc | hc
    · split at hc
      · rename_i hcl
        obtain rfl : c = way := by simpa using hc
        exact ⟨hw, hs.close hw.1 hcl⟩
      · cases hc
    · obtain ⟨k, hk, hg, hc⟩ := subL_mem.1 hc
      have hg2 := hg
      simp only [goesB, Bool.and_eq_true] at hg2
      have he : 0 < edgeC N (lastN way) k := by
        have := hg2.2.1
        rwa [edgeC_inf, decide_eq_true_eq] at this
      exact ih (way ++ [k]) (hw.snoc hk hg) (hs.snoc hw.1 he) c hc
theorem circ_sound {N : Net} {c : List Nat} (h : c ∈ circL N) : WayOk N c ∧ edgesOk N c := by
  obtain ⟨i, hi, _, hc⟩ := subL_mem.1 h
  exact walkL_sound N.n [i] (WayOk.one hi) (stepsOk.one N i) c hc
theorem stepsOk_of_edges {N : Net} {c : List Nat} (h : edgesOk N c) : stepsOk N c := fun k hk => by
  have := h k (by omega)
  unfold codeC at this
  rwa [Nat.mod_eq_of_lt hk] at this
theorem way_wk {N : Net} (m : Nat) : ∀ (way : List Nat) (s : Bool), way.length = m + 1 → (∀ x ∈ way, x < N.n) → stepsOk N way → adm (wayC N way) s → ∃ l, Wk (arcB N) (headN way) (lastN way) s l ∧ l ++ [lastN way] = way := by
  induction m with
  | zero =>
    intro way s hl _ _ ha
    obtain ⟨k, rfl⟩ := List.length_eq_one_iff.1 hl
    rcases ha with e | e
    · cases e
    · cases s
      · cases e
      · exact ⟨[], .nil _, rfl⟩
  | succ m ih =>
    intro way s hl hlt hs ha
    obtain ⟨pre, k, rfl⟩ : ∃ pre k, way = pre ++ [k] := by
      rcases List.eq_nil_or_concat way with rfl | ⟨pre, k, rfl⟩
      · simp at hl
      · exact ⟨pre, k, by simp⟩
    have hpl : pre.length = m + 1 := by simpa using hl
    have hne : pre ≠ [] := by rintro rfl; simp at hpl
    have hlast : lastN pre ∈ pre := by
      unfold lastN
      rw [List.getLastD_eq_getLast?, List.getLast?_eq_some_getLast hne]
      exact List.getLast_mem hne
    have he : 0 < edgeC N (lastN pre) k := by
      have := hs (pre.length - 1) (by simp; omega)
      rwa [getD_snoc_lt (by omega), show pre.length - 1 + 1 = pre.length by omega, getD_snoc_eq, getD_last hne] at this
    have hsp : stepsOk N pre := fun j hj => by
      have := hs j (by simp; omega)
      rwa [getD_snoc_lt (by omega), getD_snoc_lt (by omega)] at this
    rw [wayC_snoc N hne] at ha
    have hel := edgeC_le N (lastN pre) k
    obtain ⟨s1, s2, h1, h2, rfl⟩ := times_adm (wayC_le N pre) ⟨he, hel⟩ ha
    obtain ⟨l, hw, hlp⟩ := ih pre s1 hpl (fun x hx => hlt x (by simp [hx])) hsp h1
    refine ⟨l ++ [lastN pre], ?_, ?_⟩
    · rw [headN_snoc hne, lastN_snoc]
      exact hw.append (Wk.one (edge_adm (hlt _ (by simp [hlast])) (hlt k (by simp)) h2))
    · rw [hlp, lastN_snoc]
/-- a circuit is a simple closed way, of each sign that it may be taken as -/
theorem circ_wk {N : Net} {c : List Nat} {s : Bool} (h : c ∈ circL N) (ha : adm (circC N c) s) : Wk (arcB N) (headN c) (headN c) s c ∧ c.Nodup ∧ c ≠ [] := by
  obtain ⟨hw, he⟩ := circ_sound h
  have hl : 0 < c.length := List.length_pos_iff.2 hw.1
  have hcl : 0 < edgeC N (lastN c) (headN c) := by
    have := he (c.length - 1) (by omega)
    unfold codeC at this
    rwa [show c.length - 1 + 1 = c.length by omega, Nat.mod_self, getD_last hw.1, getD_head] at this
  obtain ⟨s1, s2, h1, h2, rfl⟩ := times_adm (wayC_le N c) ⟨hcl, edgeC_le N _ _⟩ ha
  obtain ⟨l, hwk, hlp⟩ := way_wk (N := N) (c.length - 1) c s1 (by omega) (fun x hx => (hw.2.2 x hx).1) (stepsOk_of_edges he) h1
  refine ⟨?_, hw.2.1, hw.1⟩
  have := hwk.append (Wk.one (edge_adm hw.last hw.head h2))
  rwa [hlp] at this
/-- of a sign: circuits and simple closed ways -/
theorem circ_iff {N : Net} {s : Bool} : (∃ c ∈ circL N, adm (circC N c) s) ↔ ∃ a l, l ≠ [] ∧ l.Nodup ∧ Wk (arcB N) a a s l := by
  constructor
  · rintro ⟨c, hc, ha⟩
    obtain ⟨h1, h2, h3⟩ := circ_wk hc ha
    exact ⟨_, c, h3, h2, h1⟩
  · rintro ⟨a, l, h1, h2, h3⟩
    obtain ⟨c, hc, ha, _⟩ := circ_of h3 h2 h1
    exact ⟨c, hc, ha⟩
theorem circ_some {c : Nat} (h : 1 ≤ c ∧ c ≤ 3) : adm c true ∨ adm c false := by
  have : c = 1 ∨ c = 2 ∨ c = 3 := by omega
  unfold adm
  rcases this with rfl | rfl | rfl <;> simp
theorem isC_plus {c : Nat} (h : 1 ≤ c ∧ c ≤ 3) : isC c ⟨#[43]⟩ = true ↔ adm c true := by
  have : c = 1 ∨ c = 2 ∨ c = 3 := by omega
  unfold adm
  rcases this with rfl | rfl | rfl <;> decide
theorem isC_minus {c : Nat} (h : 1 ≤ c ∧ c ≤ 3) : isC c ⟨#[45]⟩ = true ↔ adm c false := by
  have : c = 1 ∨ c = 2 ∨ c = 3 := by omega
  unfold adm
  rcases this with rfl | rfl | rfl <;> decide

/-! ### what a rule hangs on -/
theorem setN_eq_self {s i : Nat} {b : Bool} (h : s.testBit i = b) : setN s i b = s := by
  apply Nat.eq_of_testBit_eq
  intro j
  rw [setN_testBit]
  by_cases e : j = i
  · subst e; simp [h]
  · simp [e]
/-- a state whose first k switches are those of another one -/
def mixN (x y : Nat) : Nat → Nat
  | 0 => x
  | k + 1 => setN (mixN x y k) k (y.testBit k)
theorem mixN_bit (x y k j : Nat) : (mixN x y k).testBit j = if j < k then y.testBit j else x.testBit j := by
  induction k with
  | zero => simp [mixN]
  | succ k ih =>
    rw [mixN, setN_testBit, ih]
    by_cases e : j = k
    · subst e; simp
    · have : (j < k + 1) = (j < k) := by simp; omega
      simp [e, this]
theorem mixN_lt {x y n k : Nat} (hx : x < pw n) (hk : k ≤ n) : mixN x y k < pw n := by
  induction k with
  | zero => exact hx
  | succ k ih => exact setN_lt _ _ _ _ (ih (by omega)) (by omega)
theorem mixN_all {x y n : Nat} (hx : x < pw n) (hy : y < pw n) : mixN x y n = y := by
  apply Nat.eq_of_testBit_eq
  intro j
  rw [mixN_bit]
  by_cases h : j < n
  · rw [if_pos h]
  · rw [if_neg h, testBit_high hx (by omega), testBit_high hy (by omega)]
theorem flip_arc {N : Net} {k x y : Nat} (hk : k < N.n) (hx : x < pw N.n) (hy : y < pw N.n) (h : N.f k x ≠ N.f k y) : ∃ j, j < N.n ∧ x.testBit j ≠ y.testBit j ∧ arcB N j k (y.testBit j == N.f k y) := by
  have key : ∀ m, m ≤ N.n → N.f k (mixN x y m) = N.f k y → ∃ j, j < N.n ∧ x.testBit j ≠ y.testBit j ∧ arcB N j k (y.testBit j == N.f k y) := by
    intro m
    induction m with
    | zero => intro _ e; exact absurd e h
    | succ m ih =>
      intro hm e
      by_cases e2 : N.f k (mixN x y m) = N.f k y
      · exact ih (by omega) e2
      · have hz := mixN_lt (y := y) hx (show m ≤ N.n by omega)
        have hb : (mixN x y m).testBit m = x.testBit m := by rw [mixN_bit, if_neg (by omega)]
        have hne : x.testBit m ≠ y.testBit m := fun e3 => by
          rw [mixN, setN_eq_self (by rw [hb, e3])] at e
          exact e2 e
        refine ⟨m, by omega, hne, ⟨by omega, hk⟩, ?_⟩
        rw [mixN] at e
        have hx2 : (mixN x y m) = setN (mixN x y m) m (!y.testBit m) := (setN_eq_self (by
          rw [hb]
          cases hx' : x.testBit m <;> cases hy' : y.testBit m <;> simp_all)).symm
        rw [hx2] at e2
        cases hym : y.testBit m <;> cases hfy : N.f k y <;> rw [hym, hfy] at e e2 <;> simp only [Bool.not_false, Bool.not_true] at e2
        · show sgU N.n (N.f k) m = true
          rw [← sgU_spec N.n (N.f k) m (by omega), anyB_iff]
          exact ⟨_, hz, by unfold upS; rw [e]; simpa using e2⟩
        · show sgD N.n (N.f k) m = true
          rw [← sgD_spec N.n (N.f k) m (by omega), anyB_iff]
          exact ⟨_, hz, by unfold downS; rw [e]; simpa using e2⟩
        · show sgD N.n (N.f k) m = true
          rw [← sgD_spec N.n (N.f k) m (by omega), anyB_iff]
          exact ⟨_, hz, by unfold downS; rw [e]; simpa using e2⟩
        · show sgU N.n (N.f k) m = true
          rw [← sgU_spec N.n (N.f k) m (by omega), anyB_iff]
          exact ⟨_, hz, by unfold upS; rw [e]; simpa using e2⟩
  exact key N.n (Nat.le_refl _) (by rw [mixN_all hx hy])

/-! ### closed ways out of predecessors -/
theorem long_way {R : Nat → Nat → Bool → Prop} {D : Nat → Prop} (hp : ∀ i, D i → ∃ j s, D j ∧ R j i s) (m : Nat) : ∀ i, D i → ∃ b s l, l.length = m ∧ Wk R b i s l ∧ D b ∧ ∀ x ∈ l, D x := by
  induction m with
  | zero => intro i hi; exact ⟨i, true, [], rfl, .nil _, hi, fun x hx => by cases hx⟩
  | succ m ih =>
    intro i hi
    obtain ⟨b, s, l, h1, h2, h3, h4⟩ := ih i hi
    obtain ⟨j, t, hj, hr⟩ := hp b h3
    exact ⟨j, _, j :: l, by simp [h1], .cons hr h2, hj, fun x hx => by
      rcases List.mem_cons.1 hx with rfl | hx
      · exact hj
      · exact h4 x hx⟩
theorem closed_way {R : Nat → Nat → Bool → Prop} {n : Nat} {a b : Nat} {s : Bool} {l : List Nat} (h : Wk R a b s l) (hl : n < l.length) (hlt : ∀ x ∈ l, x < n) : ∃ c t m, m ≠ [] ∧ m.Nodup ∧ Wk R c c t m ∧ ∀ x ∈ m, x ∈ l := by
  have hn : ¬ l.Nodup := fun hn => by have := nodup_length hn hlt; omega
  obtain ⟨x, l1, l2, l3, rfl⟩ := dup_of hn
  obtain ⟨s1, s2, h1, h2, e⟩ := h.split
  obtain ⟨s3, s4, h3, h4, e2⟩ := Wk.split (l := x :: l2) h2
  obtain ⟨c, t, m, k1, k2, k3, k4⟩ := simple_some _ x s3 (x :: l2) (Nat.le_refl _) (by simp) h3
  exact ⟨c, t, m, k3, k2, k1, fun y hy => by
    have := k4 y hy
    simp only [List.mem_cons, List.mem_append] at this ⊢
    rcases this with h | h
    · exact .inr (.inl h)
    · exact .inr (.inr (.inl h))⟩
theorem closed_of_pred {R : Nat → Nat → Bool → Prop} {D : Nat → Prop} {n : Nat} (hD : ∀ i, D i → i < n) (hp : ∀ i, D i → ∃ j s, D j ∧ R j i s) {i : Nat} (hi : D i) : ∃ c t m, m ≠ [] ∧ m.Nodup ∧ Wk R c c t m ∧ ∀ x ∈ m, D x := by
  obtain ⟨b, s, l, h1, h2, h3, h4⟩ := long_way hp (n + 1) i hi
  obtain ⟨c, t, m, k1, k2, k3, k4⟩ := closed_way (n := n) h2 (by omega) fun x hx => hD x (h4 x hx)
  exact ⟨c, t, m, k1, k2, k3, fun x hx => h4 x (k4 x hx)⟩
theorem bit_ne_of {n x y : Nat} (hx : x < pw n) (hy : y < pw n) (h : x ≠ y) : ∃ i, i < n ∧ x.testBit i ≠ y.testBit i := by
  apply Classical.byContradiction
  intro hc
  apply h
  apply Nat.eq_of_testBit_eq
  intro i
  by_cases hi : i < n
  · apply Classical.byContradiction
    intro e
    exact hc ⟨i, hi, e⟩
  · rw [testBit_high hx (by omega), testBit_high hy (by omega)]
theorem fix_bit {N : Net} {s i : Nat} (h : stepN N s = s) (hi : i < N.n) : N.f i s = s.testBit i := by
  have := stepN_testBit N s i
  rw [h, decide_eq_true hi, Bool.true_and] at this
  exact this.symm
/-- two fixed points: a circuit of plus, all of whose switches are other ones in both -/
theorem two_points {N : Net} {x y : Nat} (hx : x < pw N.n) (hy : y < pw N.n) (fx : stepN N x = x) (fy : stepN N y = y) (h : x ≠ y) : ∃ c, c ∈ circL N ∧ adm (circC N c) true ∧ ∀ i ∈ c, x.testBit i ≠ y.testBit i := by
  obtain ⟨i, hi, hne⟩ := bit_ne_of hx hy h
  obtain ⟨c, t, m, k1, k2, k3, k4⟩ := closed_of_pred (R := fun j i s => arcB N j i s ∧ s = (y.testBit j == y.testBit i)) (D := fun i => i < N.n ∧ x.testBit i ≠ y.testBit i) (n := N.n) (fun i h => h.1)
    (fun i ⟨hi, hne⟩ => by
      obtain ⟨j, hj, hjne, ha⟩ := flip_arc hi hx hy (by rw [fix_bit fx hi, fix_bit fy hi]; exact hne)
      rw [fix_bit fy hi] at ha
      exact ⟨j, _, ⟨hj, hjne⟩, ha, rfl⟩) ⟨hi, hne⟩
  have hs : ∀ {a b : Nat} {s : Bool} {l : List Nat}, Wk (fun j i s => arcB N j i s ∧ s = (y.testBit j == y.testBit i)) a b s l → s = (y.testBit a == y.testBit b) := by
    intro a b s l h
    induction h with
    | nil => simp
    | @cons a b c s t l r _ ih =>
      rw [r.2, ih]
      cases y.testBit a <;> cases y.testBit b <;> cases y.testBit c <;> rfl
  have ht := hs k3
  have e : (y.testBit c == y.testBit c) = true := by simp
  rw [e] at ht
  subst ht
  obtain ⟨d, hd, ha, hm⟩ := circ_of (k3.mono fun _ _ _ h => h.1) k2 k1
  exact ⟨d, hd, ha, fun i hi => (k4 i ((hm i).1 hi)).2⟩

/-! ### steps of one switch at a time -/
inductive AR (N : Net) : Nat → Nat → Prop
  | refl (s : Nat) : AR N s s
  | step {s i t : Nat} : i < N.n → AR N (setN s i (N.f i s)) t → AR N s t
theorem AR.trans {N : Net} {s t u : Nat} (h : AR N s t) (k : AR N t u) : AR N s u := by
  induction h with
  | refl => exact k
  | step hi _ ih => exact .step hi (ih k)
theorem AR.one {N : Net} {s i : Nat} (hi : i < N.n) : AR N s (setN s i (N.f i s)) := .step hi (.refl _)
theorem AR.lt {N : Net} {s t : Nat} (h : AR N s t) (hs : s < pw N.n) : t < pw N.n := by
  induction h with
  | refl => exact hs
  | step hi _ ih => exact ih (setN_lt _ _ _ _ hs hi)

section minus
open Classical
/-- how many numbers below n are of a kind -/
noncomputable def cntP (n : Nat) (p : Nat → Prop) : Nat := ((List.range n).filter fun i => decide (p i)).length
theorem cntP_lt {n : Nat} {p q : Nat → Prop} (h : ∀ i, i < n → p i → q i) {i : Nat} (hi : i < n) (h1 : ¬ p i) (h2 : q i) : cntP n p < cntP n q := by
  unfold cntP
  have key : ∀ l : List Nat, (∀ j ∈ l, p j → q j) → (l.filter fun i => decide (p i)).length ≤ (l.filter fun i => decide (q i)).length ∧ (i ∈ l → (l.filter fun i => decide (p i)).length < (l.filter fun i => decide (q i)).length) := by
    intro l
    induction l with
    | nil => intro _; exact ⟨Nat.le_refl _, fun h => by cases h⟩
    | cons a r ih =>
      intro hl
      have ih := ih fun j hj => hl j (by simp [hj])
      have ha := hl a (by simp)
      by_cases hpa : p a
      · rw [List.filter_cons_of_pos (by simpa using hpa), List.filter_cons_of_pos (by simpa using ha hpa)]
        simp only [List.length_cons]
        refine ⟨by omega, fun hm => ?_⟩
        rcases List.mem_cons.1 hm with rfl | hm
        · exact absurd hpa h1
        · have := ih.2 hm; omega
      · rw [List.filter_cons_of_neg (by simpa using hpa)]
        by_cases hqa : q a
        · rw [List.filter_cons_of_pos (by simpa using hqa)]
          simp only [List.length_cons]
          exact ⟨by omega, fun _ => by omega⟩
        · rw [List.filter_cons_of_neg (by simpa using hqa)]
          refine ⟨ih.1, fun hm => ?_⟩
          rcases List.mem_cons.1 hm with rfl | hm
          · exact absurd h2 hqa
          · exact ih.2 hm
  exact (key _ fun j hj => h j (List.mem_range.1 hj)).2 (List.mem_range.2 hi)
/-- is there a way? -/
def WyB (N : Net) (a b : Nat) : Prop := ∃ s l, Wk (arcB N) a b s l
theorem WyB.refl (N : Net) (a : Nat) : WyB N a a := ⟨true, [], .nil a⟩
theorem WyB.trans {N : Net} {a b c : Nat} (h : WyB N a b) (k : WyB N b c) : WyB N a c := by
  obtain ⟨s, l, h⟩ := h
  obtain ⟨t, m, k⟩ := k
  exact ⟨_, _, h.append k⟩
def closedS (N : Net) (S : Nat → Prop) : Prop := ∀ i k s, S k → arcB N i k s → S i
def restS (N : Net) (S : Nat → Prop) (s : Nat) : Prop := ∀ k, k < N.n → S k → N.f k s = s.testBit k
theorem closed_wy {N : Net} {S : Nat → Prop} (h : closedS N S) {a b : Nat} (hw : WyB N a b) (hb : S b) : S a := by
  obtain ⟨s, l, hw⟩ := hw
  induction hw with
  | nil => exact hb
  | cons r _ ih => exact h _ _ _ (ih hb) r
theorem closed_or {N : Net} {S : Nat → Prop} (h : closedS N S) (v : Nat) : closedS N fun i => S i ∨ WyB N i v := fun i k s hk ha => by
  rcases hk with hk | hk
  · exact .inl (h i k s hk ha)
  · exact .inr (WyB.trans ⟨s, _, Wk.one ha⟩ hk)
/-- a step of a switch outside leaves at rest what is closed -/
theorem rest_keep {N : Net} {S : Nat → Prop} (hc : closedS N S) {s i : Nat} {b : Bool} (hs : s < pw N.n) (hi : i < N.n) (hn : ¬ S i) (h : restS N S s) : restS N S (setN s i b) := fun k hk hS => by
  have hki : k ≠ i := fun e => hn (e ▸ hS)
  rw [setN_testBit, if_neg hki, ← h k hk hS]
  apply Classical.byContradiction
  intro hne
  obtain ⟨j, hj, hjne, ha⟩ := flip_arc hk (setN_lt s i N.n b hs hi) hs hne
  have : j = i := by
    apply Classical.byContradiction
    intro e
    rw [setN_testBit, if_neg e] at hjne
    exact hjne rfl
  subst this
  exact hn (hc _ _ _ hS ha)
theorem settle_one {N : Net} (hneg : ∀ c ∈ circL N, ¬ adm (circC N c) false) {S : Nat → Prop} (hc : closedS N S) {v : Nat} (hSv : ¬ S v) (hcon : ∀ u, u < N.n → WyB N u v → ¬ S u → WyB N v u) {s : Nat} (hs : s < pw N.n) (hr : restS N S s) :
    ∃ t, t < pw N.n ∧ AR N s t ∧ restS N (fun i => S i ∨ WyB N i v) t := by
  let σ : Nat → Bool := fun i => decide (∃ l, Wk (arcB N) v i true l)
  have hσ : ∀ i u l, WyB N i v → Wk (arcB N) v i u l → σ i = u := by
    intro i u l hiv hw
    cases u
    · have : ¬ ∃ l, Wk (arcB N) v i true l := by
        rintro ⟨l', hw'⟩
        obtain ⟨t, m, hb⟩ := hiv
        have h1 := hw.append hb
        have h2 := hw'.append hb
        have : ∃ l, Wk (arcB N) v v false l := by
          cases t
          · exact ⟨_, h2⟩
          · exact ⟨_, h1⟩
        obtain ⟨l, h⟩ := this
        obtain ⟨b, m, k1, k2, k3, _⟩ := simple_minus _ v l (Nat.le_refl _) h
        obtain ⟨c, hcm, ha, _⟩ := circ_of k1 k2 k3
        exact hneg c hcm ha
      exact decide_eq_false this
    · exact decide_eq_true ⟨l, hw⟩
  let C : Nat → Prop := fun i => i < N.n ∧ WyB N i v ∧ ¬ S i
  have harc : ∀ i k u, C i → C k → arcB N i k u → σ k = (σ i == u) := by
    intro i k u hi hk ha
    obtain ⟨t, l, hw⟩ := hcon i hi.1 hi.2.1 hi.2.2
    have h2 := hw.append (Wk.one ha)
    rw [hσ i t l hi.2.1 hw, hσ k _ _ hk.2.1 h2]
  have mono : ∀ k x y, C k → x < pw N.n → y < pw N.n → (∀ j, j < N.n → x.testBit j ≠ y.testBit j → C j ∧ y.testBit j = σ j) → N.f k x = σ k → N.f k y = σ k := by
    intro k x y hk hx hy hd hf
    by_cases e : N.f k x = N.f k y
    · rw [← e]; exact hf
    · obtain ⟨j, hj, hjne, ha⟩ := flip_arc hk.1 hx hy e
      obtain ⟨hCj, hyj⟩ := hd j hj hjne
      have := harc j k _ hCj hk ha
      rw [hyj] at this
      rw [this]
      cases σ j <;> cases N.f k y <;> rfl
  have up : ∀ m s, cntP N.n (fun i => C i ∧ s.testBit i ≠ σ i) ≤ m → s < pw N.n → restS N S s → ∃ t, t < pw N.n ∧ AR N s t ∧ restS N S t ∧ ∀ i, C i → N.f i t = σ i → t.testBit i = σ i := by
    intro m
    induction m with
    | zero =>
      intro s hm hs hr
      refine ⟨s, hs, .refl _, hr, fun i hi hf => ?_⟩
      apply Classical.byContradiction
      intro hne
      have := cntP_lt (n := N.n) (p := fun _ => False) (q := fun i => C i ∧ s.testBit i ≠ σ i) (fun _ _ h => h.elim) hi.1 (fun h => h) ⟨hi, hne⟩
      omega
    | succ m ih =>
      intro s hm hs hr
      by_cases hex : ∃ i, C i ∧ N.f i s = σ i ∧ s.testBit i ≠ σ i
      · obtain ⟨i, hi, hf, hne⟩ := hex
        have hs' := setN_lt s i N.n (N.f i s) hs hi.1
        obtain ⟨t, h1, h2, h3, h4⟩ := ih (setN s i (N.f i s)) (by
          have := cntP_lt (n := N.n) (p := fun j => C j ∧ (setN s i (N.f i s)).testBit j ≠ σ j) (q := fun j => C j ∧ s.testBit j ≠ σ j) (fun j _ ⟨h1, h2⟩ => ⟨h1, fun e => h2 (by
            rw [setN_testBit]
            by_cases hj : j = i
            · rw [if_pos hj, hj]; exact hf
            · rw [if_neg hj]; exact e)⟩) hi.1 (fun ⟨_, h2⟩ => h2 (by rw [setN_testBit, if_pos rfl]; exact hf)) ⟨hi, hne⟩
          omega) hs' (rest_keep hc hs hi.1 hi.2.2 hr)
        exact ⟨t, h1, .step hi.1 h2, h3, h4⟩
      · refine ⟨s, hs, .refl _, hr, fun i hi hf => ?_⟩
        apply Classical.byContradiction
        intro hne
        exact hex ⟨i, hi, hf, hne⟩
  have down : ∀ m s, cntP N.n (fun i => C i ∧ s.testBit i = σ i) ≤ m → s < pw N.n → restS N S s → (∀ i, C i → N.f i s = σ i → s.testBit i = σ i) → ∃ t, t < pw N.n ∧ AR N s t ∧ restS N S t ∧ ∀ i, C i → N.f i t = t.testBit i := by
    intro m
    induction m with
    | zero =>
      intro s hm hs hr hin
      refine ⟨s, hs, .refl _, hr, fun i hi => ?_⟩
      apply Classical.byContradiction
      intro hne
      have hsi : s.testBit i = σ i := by
        by_cases hf : N.f i s = σ i
        · exact hin i hi hf
        · revert hf hne
          cases N.f i s <;> cases s.testBit i <;> cases σ i <;> simp
      have := cntP_lt (n := N.n) (p := fun _ => False) (q := fun i => C i ∧ s.testBit i = σ i) (fun _ _ h => h.elim) hi.1 (fun h => h) ⟨hi, hsi⟩
      omega
    | succ m ih =>
      intro s hm hs hr hin
      by_cases hex : ∃ i, C i ∧ N.f i s ≠ s.testBit i
      · obtain ⟨i, hi, hne⟩ := hex
        have hfi : N.f i s ≠ σ i := fun hf => hne (by rw [hf, hin i hi hf])
        have hsi : s.testBit i = σ i := by
          revert hfi hne
          cases N.f i s <;> cases s.testBit i <;> cases σ i <;> simp
        have hs' := setN_lt s i N.n (N.f i s) hs hi.1
        obtain ⟨t, h1, h2, h3, h4⟩ := ih (setN s i (N.f i s)) (by
          have := cntP_lt (n := N.n) (p := fun j => C j ∧ (setN s i (N.f i s)).testBit j = σ j) (q := fun j => C j ∧ s.testBit j = σ j) (fun j _ ⟨h1, h2⟩ => ⟨h1, by
            rw [setN_testBit] at h2
            by_cases hj : j = i
            · rw [hj]; exact hsi
            · rwa [if_neg hj] at h2⟩) hi.1 (fun ⟨_, h2⟩ => by rw [setN_testBit, if_pos rfl] at h2; exact hfi h2) ⟨hi, hsi⟩
          omega) hs' (rest_keep hc hs hi.1 hi.2.2 hr) (fun k hk hf => by
            have hfs := mono k _ s hk hs' hs (fun j hj hjne => by
              have : j = i := by
                apply Classical.byContradiction
                intro e
                rw [setN_testBit, if_neg e] at hjne
                exact hjne rfl
              subst this
              exact ⟨hi, hsi⟩) hf
            have hks := hin k hk hfs
            by_cases e : k = i
            · subst e; exact absurd hfs hfi
            · rw [setN_testBit, if_neg e]; exact hks)
        exact ⟨t, h1, .step hi.1 h2, h3, h4⟩
      · refine ⟨s, hs, .refl _, hr, fun i hi => ?_⟩
        apply Classical.byContradiction
        intro hne
        exact hex ⟨i, hi, hne⟩
  obtain ⟨t1, a1, a2, a3, a4⟩ := up _ s (Nat.le_refl _) hs hr
  obtain ⟨t2, b1, b2, b3, b4⟩ := down _ t1 (Nat.le_refl _) a1 a3 a4
  refine ⟨t2, b1, a2.trans b2, fun k hk hor => ?_⟩
  by_cases hS : S k
  · exact b3 k hk hS
  · rcases hor with h | h
    · exact absurd h hS
    · exact b4 k ⟨hk, h, hS⟩
theorem settle_to {N : Net} (hneg : ∀ c ∈ circL N, ¬ adm (circC N c) false) (m : Nat) : ∀ (v : Nat) (S : Nat → Prop), v < N.n → closedS N S → cntP N.n (fun i => WyB N i v ∧ ¬ S i) ≤ m → ∀ s, s < pw N.n → restS N S s →
    ∃ t, t < pw N.n ∧ AR N s t ∧ restS N (fun i => S i ∨ WyB N i v) t := by
  induction m with
  | zero =>
    intro v S hv hc hm s hs hr
    refine ⟨s, hs, .refl _, fun k hk hor => ?_⟩
    apply Classical.byContradiction
    intro hne
    have hkS : ¬ S k := fun h => hne (hr k hk h)
    have hw : WyB N k v := hor.resolve_left hkS
    have := cntP_lt (n := N.n) (p := fun _ => False) (q := fun i => WyB N i v ∧ ¬ S i) (fun _ _ h => h.elim) hk (fun h => h) ⟨hw, hkS⟩
    omega
  | succ m ih =>
    intro v S hv hc hm s hs hr
    by_cases hSv : S v
    · refine ⟨s, hs, .refl _, fun k hk hor => ?_⟩
      rcases hor with h | h
      · exact hr k hk h
      · exact hr k hk (closed_wy hc h hSv)
    · by_cases hex : ∃ u, u < N.n ∧ WyB N u v ∧ ¬ S u ∧ ¬ WyB N v u
      · obtain ⟨u, hu, huv, hSu, hvu⟩ := hex
        obtain ⟨t, h1, h2, h3⟩ := ih u S hu hc (by
          have := cntP_lt (n := N.n) (p := fun i => WyB N i u ∧ ¬ S i) (q := fun i => WyB N i v ∧ ¬ S i) (fun i _ ⟨a, b⟩ => ⟨a.trans huv, b⟩) hv (fun ⟨a, _⟩ => hvu a) ⟨WyB.refl N v, hSv⟩
          omega) s hs hr
        obtain ⟨t2, k1, k2, k3⟩ := ih v (fun i => S i ∨ WyB N i u) hv (closed_or hc u) (by
          have := cntP_lt (n := N.n) (p := fun i => WyB N i v ∧ ¬ (S i ∨ WyB N i u)) (q := fun i => WyB N i v ∧ ¬ S i) (fun i _ ⟨a, b⟩ => ⟨a, fun h => b (.inl h)⟩) hu (fun ⟨_, b⟩ => b (.inr (WyB.refl N u))) ⟨huv, hSu⟩
          omega) t h1 h3
        exact ⟨t2, k1, h2.trans k2, fun k hk hor => k3 k hk (by
          rcases hor with h | h
          · exact .inl (.inl h)
          · exact .inr h)⟩
      · exact settle_one hneg hc hSv (fun u hu huv hSu => by
          apply Classical.byContradiction
          intro h
          exact hex ⟨u, hu, huv, hSu, h⟩) hs hr
/-- without circuits of minus, single steps lead from each state to a fixed point -/
theorem to_point {N : Net} (hneg : ∀ c ∈ circL N, ¬ adm (circC N c) false) {s : Nat} (hs : s < pw N.n) : ∃ t, t < pw N.n ∧ AR N s t ∧ stepN N t = t := by
  have key : ∀ v, v ≤ N.n → ∃ S, closedS N S ∧ (∀ i, i < v → S i) ∧ ∃ t, t < pw N.n ∧ AR N s t ∧ restS N S t := by
    intro v
    induction v with
    | zero => intro _; exact ⟨fun _ => False, fun _ _ _ h _ => h, fun i h => by omega, s, hs, .refl _, fun _ _ h => h.elim⟩
    | succ v ih =>
      intro hv
      obtain ⟨S, h1, h2, t, h3, h4, h5⟩ := ih (by omega)
      obtain ⟨t2, k1, k2, k3⟩ := settle_to hneg _ v S (by omega) h1 (Nat.le_refl _) t h3 h5
      exact ⟨_, closed_or h1 v, fun i hi => by
        by_cases e : i = v
        · subst e; exact .inr (WyB.refl N i)
        · exact .inl (h2 i (by omega)), t2, k1, h4.trans k2, k3⟩
  obtain ⟨S, _, h2, t, h3, h4, h5⟩ := key N.n (Nat.le_refl _)
  refine ⟨t, h3, h4, ?_⟩
  apply Nat.eq_of_testBit_eq
  intro i
  rw [stepN_testBit]
  by_cases hi : i < N.n
  · rw [decide_eq_true hi, Bool.true_and, h5 i hi (h2 i hi)]
  · rw [decide_eq_false hi, Bool.false_and, testBit_high h3 (by omega)]
end minus
end Go.Sw
