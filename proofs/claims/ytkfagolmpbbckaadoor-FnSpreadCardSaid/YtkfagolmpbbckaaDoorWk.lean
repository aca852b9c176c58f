/- Plain words and lemmas: ways along signed arcs, closed ones, simple ones; the circuits of a network are just its simple closed ways. -/
import Derived.Test.YtkfagolmpbbckaaDoorCj
namespace Go.Sw
open Go

/-- ways along signed arcs (true: plus): from where, to where, the sign, what is left behind -/
inductive Wk (R : Nat → Nat → Bool → Prop) : Nat → Nat → Bool → List Nat → Prop
  | nil (a : Nat) : Wk R a a true []
  | cons {a b c : Nat} {s t : Bool} {l : List Nat} : R a b s → Wk R b c t l → Wk R a c (s == t) (a :: l)
theorem beq_assoc (a b c : Bool) : ((a == b) == c) = (a == (b == c)) := by cases a <;> cases b <;> cases c <;> rfl
theorem true_beq' (a : Bool) : (true == a) = a := by cases a <;> rfl
theorem beq_true' (a : Bool) : (a == true) = a := by cases a <;> rfl
theorem Wk.append {R : Nat → Nat → Bool → Prop} {a b c : Nat} {s t : Bool} {l m : List Nat} (h : Wk R a b s l) (k : Wk R b c t m) : Wk R a c (s == t) (l ++ m) := by
  induction h with
  | nil => rw [true_beq']; exact k
  | cons r _ ih => rw [beq_assoc]; exact .cons r (ih k)
theorem Wk.mono {R R' : Nat → Nat → Bool → Prop} (hR : ∀ a b s, R a b s → R' a b s) {a b : Nat} {s : Bool} {l : List Nat} (h : Wk R a b s l) : Wk R' a b s l := by
  induction h with
  | nil => exact .nil _
  | cons r _ ih => exact .cons (hR _ _ _ r) ih
theorem Wk.split {R : Nat → Nat → Bool → Prop} {l : List Nat} : ∀ {a c m : Nat} {s : Bool} {r : List Nat}, Wk R a c s (l ++ m :: r) → ∃ s1 s2, Wk R a m s1 l ∧ Wk R m c s2 (m :: r) ∧ s = (s1 == s2) := by
  induction l with
  | nil =>
    intro a c m s r h
    cases h with
    | cons h1 h2 => exact ⟨true, _, .nil _, .cons h1 h2, (true_beq' _).symm⟩
  | cons x l ih =>
    intro a c m s r h
    cases h with
    | cons h1 h2 =>
      obtain ⟨s1, s2, k1, k2, rfl⟩ := ih h2
      exact ⟨_, s2, .cons h1 k1, k2, (beq_assoc _ _ _).symm⟩
theorem Wk.head {R : Nat → Nat → Bool → Prop} {a c x : Nat} {s : Bool} {l : List Nat} (h : Wk R a c s (x :: l)) : x = a := by cases h; rfl
theorem Wk.inv {R : Nat → Nat → Bool → Prop} {a c x : Nat} {u : Bool} {l : List Nat} (h : Wk R a c u (x :: l)) : ∃ b s t, x = a ∧ R a b s ∧ Wk R b c t l ∧ u = (s == t) := by
  cases h with
  | cons h1 h2 => exact ⟨_, _, _, rfl, h1, h2, rfl⟩
theorem Wk.one {R : Nat → Nat → Bool → Prop} {a b : Nat} {s : Bool} (h : R a b s) : Wk R a b s [a] := by
  have := Wk.cons h (Wk.nil b)
  rwa [beq_true'] at this
theorem Wk.empty {R : Nat → Nat → Bool → Prop} {a b : Nat} {s : Bool} (h : Wk R a b s []) : a = b ∧ s = true := by cases h; exact ⟨rfl, rfl⟩
/-- what comes twice in a list -/
theorem dup_of {l : List Nat} (h : ¬ l.Nodup) : ∃ x l1 l2 l3, l = l1 ++ x :: (l2 ++ x :: l3) := by
  induction l with
  | nil => exact absurd List.nodup_nil h
  | cons a r ih =>
    by_cases hm : a ∈ r
    · obtain ⟨l2, l3, rfl⟩ := List.append_of_mem hm
      exact ⟨a, [], l2, l3, rfl⟩
    · obtain ⟨x, l1, l2, l3, rfl⟩ := ih fun hn => h (List.nodup_cons.2 ⟨hm, hn⟩)
      exact ⟨x, a :: l1, l2, l3, rfl⟩
/-- a closed way of sign minus has a simple one in it -/
theorem simple_minus {R : Nat → Nat → Bool → Prop} (k : Nat) : ∀ (a : Nat) (l : List Nat), l.length ≤ k → Wk R a a false l → ∃ b m, Wk R b b false m ∧ m.Nodup ∧ m ≠ [] ∧ ∀ x ∈ m, x ∈ l := by
  induction k with
  | zero =>
    intro a l hl h
    obtain rfl : l = [] := List.length_eq_zero_iff.1 (by omega)
    exact absurd h.empty.2 (by decide)
  | succ k ih =>
    intro a l hl h
    by_cases hn : l.Nodup
    · refine ⟨a, l, h, hn, ?_, fun x hx => hx⟩
      rintro rfl
      exact absurd h.empty.2 (by decide)
    · obtain ⟨x, l1, l2, l3, rfl⟩ := dup_of hn
      obtain ⟨s1, s2, h1, h2, e⟩ := h.split
      obtain ⟨s3, s4, h3, h4, e2⟩ := Wk.split (l := x :: l2) h2
      simp only [List.length_append, List.length_cons] at hl
      cases hs : s3
      · rw [hs] at h3
        obtain ⟨b, m, k1, k2, k3, k4⟩ := ih x (x :: l2) (by simp only [List.length_cons]; omega) h3
        exact ⟨b, m, k1, k2, k3, fun y hy => by
          have := k4 y hy
          simp only [List.mem_cons, List.mem_append] at this ⊢
          rcases this with h | h
          · exact .inr (.inl h)
          · exact .inr (.inr (.inl h))⟩
      · rw [hs, true_beq'] at e2
        have h5 := h1.append h4
        rw [← e2, ← e] at h5
        obtain ⟨b, m, k1, k2, k3, k4⟩ := ih a (l1 ++ x :: l3) (by simp only [List.length_append, List.length_cons]; omega) h5
        exact ⟨b, m, k1, k2, k3, fun y hy => by
          have := k4 y hy
          simp only [List.mem_cons, List.mem_append] at this ⊢
          rcases this with h | h | h
          · exact .inl h
          · exact .inr (.inl h)
          · exact .inr (.inr (.inr (.inr h)))⟩
/-- a closed way has a simple one in it -/
theorem simple_some {R : Nat → Nat → Bool → Prop} (k : Nat) : ∀ (a : Nat) (s : Bool) (l : List Nat), l.length ≤ k → l ≠ [] → Wk R a a s l → ∃ b t m, Wk R b b t m ∧ m.Nodup ∧ m ≠ [] ∧ ∀ x ∈ m, x ∈ l := by
  induction k with
  | zero =>
    intro a s l hl hne h
    exact absurd (List.length_eq_zero_iff.1 (by omega)) hne
  | succ k ih =>
    intro a s l hl hne h
    by_cases hn : l.Nodup
    · exact ⟨a, s, l, h, hn, hne, fun x hx => hx⟩
    · obtain ⟨x, l1, l2, l3, rfl⟩ := dup_of hn
      obtain ⟨s1, s2, h1, h2, e⟩ := h.split
      obtain ⟨s3, s4, h3, h4, e2⟩ := Wk.split (l := x :: l2) h2
      simp only [List.length_append, List.length_cons] at hl
      obtain ⟨b, t, m, k1, k2, k3, k4⟩ := ih x s3 (x :: l2) (by simp only [List.length_cons]; omega) (by simp) h3
      exact ⟨b, t, m, k1, k2, k3, fun y hy => by
          have := k4 y hy
          simp only [List.mem_cons, List.mem_append] at this ⊢
          rcases this with h | h
          · exact .inr (.inl h)
          · exact .inr (.inr (.inl h))⟩
/-- a closed way begun at another of its places -/
theorem Wk.turn {R : Nat → Nat → Bool → Prop} {a m : Nat} {s : Bool} {l : List Nat} (h : Wk R a a s l) (hm : m ∈ l) : ∃ r, Wk R m m s (m :: r) ∧ List.Perm (m :: r) l := by
  obtain ⟨l1, l2, rfl⟩ := List.append_of_mem hm
  obtain ⟨s1, s2, h1, h2, rfl⟩ := h.split
  refine ⟨l2 ++ l1, ?_, ?_⟩
  · have := h2.append h1
    rwa [Bool.beq_comm] at this
  · exact List.perm_append_comm (l₁ := m :: l2) (l₂ := l1)
theorem least_of {l : List Nat} (h : l ≠ []) : ∃ m, m ∈ l ∧ ∀ x ∈ l, m ≤ x := by
  induction l with
  | nil => exact absurd rfl h
  | cons a r ih =>
    by_cases e : r = []
    · subst e; exact ⟨a, by simp, fun x hx => by simp at hx; omega⟩
    · obtain ⟨m, hm, hle⟩ := ih e
      by_cases h2 : a ≤ m
      · exact ⟨a, by simp, fun x hx => by
          rcases List.mem_cons.1 hx with rfl | hx
          · exact Nat.le_refl _
          · have := hle x hx; omega⟩
      · exact ⟨m, by simp [hm], fun x hx => by
          rcases List.mem_cons.1 hx with rfl | hx
          · omega
          · exact hle x hx⟩

/-! ### the arcs of a network -/
def arcB (N : Net) (i k : Nat) (s : Bool) : Prop := (i < N.n ∧ k < N.n) ∧ (if s then sgU N.n (N.f k) i else sgD N.n (N.f k) i) = true
/-- a number of a sign may be taken as plus (true), as minus -/
def adm (c : Nat) (s : Bool) : Prop := c = 3 ∨ c = if s then 1 else 2
theorem adm_edge {N : Net} {i k : Nat} {s : Bool} (h : arcB N i k s) : adm (edgeC N i k) s := by
  unfold arcB at h
  unfold adm edgeC
  cases s
  · have := h.2
    simp only [Bool.false_eq_true, if_false] at this ⊢
    rw [this]
    cases sgU N.n (N.f k) i <;> simp
  · have := h.2
    simp only [if_true] at this ⊢
    rw [this]
    cases sgD N.n (N.f k) i <;> simp
theorem edge_adm {N : Net} {i k : Nat} {s : Bool} (hi : i < N.n) (hk : k < N.n) (h : adm (edgeC N i k) s) : arcB N i k s := by
  refine ⟨⟨hi, hk⟩, ?_⟩
  unfold adm edgeC at h
  cases s <;> cases hu : sgU N.n (N.f k) i <;> cases hd : sgD N.n (N.f k) i <;> rw [hu, hd] at h <;> simp_all
theorem edge_pos {N : Net} {i k : Nat} (h : 0 < edgeC N i k) : ∃ s, adm (edgeC N i k) s := by
  have := edgeC_le N i k
  have h3 : edgeC N i k = 1 ∨ edgeC N i k = 2 ∨ edgeC N i k = 3 := by omega
  unfold adm
  rcases h3 with e | e | e
  · exact ⟨true, .inr e⟩
  · exact ⟨false, .inr e⟩
  · exact ⟨true, .inl e⟩
theorem arc_inf {N : Net} {i k : Nat} {s : Bool} (h : arcB N i k s) : infB N i k = true := by
  rw [edgeC_inf, decide_eq_true_eq]
  rcases adm_edge h with e | e
  · omega
  · cases s <;> simp_all
theorem inf_arc {N : Net} {i k : Nat} (hi : i < N.n) (hk : k < N.n) (h : infB N i k = true) : ∃ s, arcB N i k s := by
  rw [edgeC_inf, decide_eq_true_eq] at h
  obtain ⟨s, hs⟩ := edge_pos h
  exact ⟨s, edge_adm hi hk hs⟩
theorem adm_times {a b : Nat} {s t : Bool} (h : adm a s) (k : adm b t) : adm (timesC a b) (s == t) := by
  unfold adm timesC at *
  rcases h with rfl | rfl <;> rcases k with rfl | rfl
  · simp
  · simp
  · simp
  · cases s <;> cases t <;> simp
theorem times_adm {a b : Nat} {u : Bool} (ha : 1 ≤ a ∧ a ≤ 3) (hb : 1 ≤ b ∧ b ≤ 3) (h : adm (timesC a b) u) : ∃ s t, adm a s ∧ adm b t ∧ u = (s == t) := by
  unfold adm timesC at *
  have ha' : a = 1 ∨ a = 2 ∨ a = 3 := by omega
  have hb' : b = 1 ∨ b = 2 ∨ b = 3 := by omega
  rcases ha' with rfl | rfl | rfl <;> rcases hb' with rfl | rfl | rfl <;> cases u <;> simp_all
theorem walkL_has {N : Net} : ∀ (rest way : List Nat) (f : Nat) (s : Bool), way ≠ [] → (way ++ rest).Nodup → (∀ x ∈ rest, headN way < x ∧ x < N.n) → rest.length < f → Wk (arcB N) (lastN way) (headN way) s (lastN way :: rest) → way ++ rest ∈ walkL N f way := by
  intro rest
  induction rest with
  | nil =>
    intro way f s hne _ _ hf h
    obtain ⟨f, rfl⟩ : ∃ g, f = g + 1 := ⟨f - 1, by simp at hf; omega⟩
    obtain ⟨b, s1, t1, _, h1, h2, rfl⟩ := h.inv
    have e := h2.empty.1
    rw [e] at h1
    rw [walkL, List.append_nil, if_pos (by unfold closeB; exact arc_inf h1)]
    exact List.mem_append_left _ (by simp)
  | cons k r ih =>
    intro way f s hne hnd hlt hf h
    obtain ⟨f, rfl⟩ : ∃ g, f = g + 1 := ⟨f - 1, by simp at hf; omega⟩
    obtain ⟨b, s1, t1, _, h1, h2, rfl⟩ := h.inv
    obtain rfl : k = b := h2.head
    have hk := hlt k (by simp)
    have hkw : k ∉ way := fun hm => by
      have := (List.nodup_append.1 hnd).2.2
      exact this k hm k (by simp) rfl
    have hin := ih (way ++ [k]) f t1 (by simp) (by rw [List.append_assoc]; exact hnd) (fun x hx => by rw [headN_snoc hne]; exact hlt x (by simp [hx])) (by simp at hf; omega) (by rw [lastN_snoc, headN_snoc hne]; exact h2)
    rw [walkL]
    refine List.mem_append_right _ (subL_mem.2 ⟨k, hk.2, ?_, ?_⟩)
    · unfold goesB
      rw [decide_eq_true hk.1, arc_inf h1, List.contains_eq_mem, decide_eq_false hkw]; rfl
    · rw [List.append_assoc] at hin; exact hin
theorem circC_adm {N : Net} : ∀ (rest way : List Nat) (s0 s : Bool), way ≠ [] → adm (wayC N way) s0 → Wk (arcB N) (lastN way) (headN way) s (lastN way :: rest) → adm (circC N (way ++ rest)) (s0 == s) := by
  intro rest
  induction rest with
  | nil =>
    intro way s0 s hne h0 h
    obtain ⟨b, s1, t1, _, h1, h2, rfl⟩ := h.inv
    obtain ⟨e, rfl⟩ := h2.empty
    rw [e] at h1
    rw [List.append_nil, circC, beq_true']
    exact adm_times h0 (adm_edge h1)
  | cons k r ih =>
    intro way s0 s hne h0 h
    obtain ⟨b, s1, t1, _, h1, h2, rfl⟩ := h.inv
    obtain rfl : k = b := h2.head
    have := ih (way ++ [k]) _ _ (by simp) (by rw [wayC_snoc N hne]; exact adm_times h0 (adm_edge h1)) (by rw [lastN_snoc, headN_snoc hne]; exact h2)
    rw [List.append_assoc, beq_assoc] at this
    exact this
theorem wk_lt {N : Net} {a b : Nat} {s : Bool} {l : List Nat} (h : Wk (arcB N) a b s l) : ∀ x ∈ l, x < N.n := by
  induction h with
  | nil => intro x hx; cases hx
  | cons r _ ih =>
    intro x hx
    rcases List.mem_cons.1 hx with rfl | hx
    · exact r.1.1
    · exact ih x hx
/-- a simple closed way is one of the circuits, begun at its least switch -/
theorem circ_of {N : Net} {a : Nat} {s : Bool} {l : List Nat} (h : Wk (arcB N) a a s l) (hn : l.Nodup) (hne : l ≠ []) : ∃ c, c ∈ circL N ∧ adm (circC N c) s ∧ ∀ x, x ∈ c ↔ x ∈ l := by
  obtain ⟨m, hm, hle⟩ := least_of hne
  obtain ⟨r, hw, hp⟩ := h.turn hm
  have hnd : (m :: r).Nodup := hp.nodup_iff.2 hn
  have hmn : m < N.n := wk_lt h m hm
  have hr : ∀ x ∈ r, headN [m] < x ∧ x < N.n := fun x hx => by
    have h1 : x ∈ l := hp.mem_iff.1 (by simp [hx])
    have h2 := hle x h1
    have h3 : m ≠ x := fun e => (List.nodup_cons.1 hnd).1 (e ▸ hx)
    exact ⟨by show m < x; omega, wk_lt h x h1⟩
  have hlen : r.length < N.n := by
    have := nodup_length hnd (n := N.n) fun x hx => wk_lt hw x hx
    rw [List.length_cons] at this
    omega
  refine ⟨m :: r, ?_, ?_, fun x => hp.mem_iff⟩
  · exact subL_mem.2 ⟨m, hmn, rfl, walkL_has r [m] N.n s (by simp) hnd hr hlen hw⟩
  · have := circC_adm (N := N) r [m] true s (by simp) (.inr rfl) hw
    rwa [true_beq'] at this
end Go.Sw
