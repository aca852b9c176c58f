/- Plain words and lemmas: ways along signed arcs, closed ones, simple ones; the circuits of a network are just its simple closed ways. Plain words and lemmas: two fixed points have a circuit of plus between them; without circuits of minus each state has a way to a fixed point. Plain words and lemmas: what single steps lead to, steady states, attractors. Plain words and lemmas: a search through the states that single steps lead to, its stack and its set. Plain words and lemmas: sets of switches that break all circuits of a sign, the smallest of them. Plain law: in a monotone network a state that rises comes to the least fixed point above it, one that falls to the greatest below it; joins and meets. Plain law: orbits and cycles; single steps of a state that rises; cycles lie between the least and the greatest fixed point. Plain law: a switch the other way round leaves the circuits and their signs; sets that break circuits of plus. Plain words and lemmas: the arrows of a network as texts. Plain words and lemmas: all terms in order, traps, the least and the greatest of them. Plain words and lemmas: the least and the greatest texts of a list, found by their places. Plain words and lemmas: removing the least free switch again and again. -/
import Derived.Test.YtkfagolmpbbckaaGreatDoorP1
import GoSem.Op.String
namespace Go.Sw
open Go

/-- ways along signed arcs (true: plus): from where, to where, the sign, what is left behind -/
inductive Wk (R : Nat → Nat → Bool → Prop) : Nat → Nat → Bool → List Nat → Prop
  | nil (a : Nat) : Wk R a a true []
  | cons {a b c : Nat} {s t : Bool} {l : List Nat} : R a b s → Wk R b c t l → Wk R a c (s == t) (a :: l)
theorem beq_assoc (a b c : Bool) : ((a == b) == c) = (a == (b == c)) := by cases a <;> cases b <;> cases c <;> rfl
theorem true_beq' (a : Bool) : (true == a) = a := by cases a <;> rfl
theorem beq_true' (a : Bool) : (a == true) = a := by cases a <;> rfl
theorem Wk.append {R : Nat → Nat → Bool → Prop} {a b c : Nat} {s t : Bool} {l m : List Nat} (h : Wk R a b s l) (k : Wk R b c t m) : Wk R a c (s == t) (l ++ m) := by
  induction h with
  | nil => rw [true_beq']; exact k
  | cons r _ ih => rw [beq_assoc]; exact .cons r (ih k)
theorem Wk.mono {R R' : Nat → Nat → Bool → Prop} (hR : ∀ a b s, R a b s → R' a b s) {a b : Nat} {s : Bool} {l : List Nat} (h : Wk R a b s l) : Wk R' a b s l := by
  induction h with
  | nil => exact .nil _
  | cons r _ ih => exact .cons (hR _ _ _ r) ih
theorem Wk.split {R : Nat → Nat → Bool → Prop} {l : List Nat} : ∀ {a c m : Nat} {s : Bool} {r : List Nat}, Wk R a c s (l ++ m :: r) → ∃ s1 s2, Wk R a m s1 l ∧ Wk R m c s2 (m :: r) ∧ s = (s1 == s2) := by
  induction l with
  | nil =>
    intro a c m s r h
    cases h with
    | cons h1 h2 => exact ⟨true, _, .nil _, .cons h1 h2, (true_beq' _).symm⟩
  | cons x l ih =>
    intro a c m s r h
    cases h with
    | cons h1 h2 =>
      obtain ⟨s1, s2, k1, k2, rfl⟩ := ih h2
      exact ⟨_, s2, .cons h1 k1, k2, (beq_assoc _ _ _).symm⟩
theorem Wk.head {R : Nat → Nat → Bool → Prop} {a c x : Nat} {s : Bool} {l : List Nat} (h : Wk R a c s (x :: l)) : x = a := by cases h; rfl
theorem Wk.inv {R : Nat → Nat → Bool → Prop} {a c x : Nat} {u : Bool} {l : List Nat} (h : Wk R a c u (x :: l)) : ∃ b s t, x = a ∧ R a b s ∧ Wk R b c t l ∧ u = (s == t) := by
  cases h with
  | cons h1 h2 => exact ⟨_, _, _, rfl, h1, h2, rfl⟩
theorem Wk.one {R : Nat → Nat → Bool → Prop} {a b : Nat} {s : Bool} (h : R a b s) : Wk R a b s [a] := by
  have := Wk.cons h (Wk.nil b)
  rwa [beq_true'] at this
theorem Wk.empty {R : Nat → Nat → Bool → Prop} {a b : Nat} {s : Bool} (h : Wk R a b s []) : a = b ∧ s = true := by cases h; exact ⟨rfl, rfl⟩
/-- what comes twice in a list -/
theorem dup_of {l : List Nat} (h : ¬ l.Nodup) : ∃ x l1 l2 l3, l = l1 ++ x :: (l2 ++ x :: l3) := by
  induction l with
  | nil => exact absurd List.nodup_nil h
  | cons a r ih =>
    by_cases hm : a ∈ r
    · obtain ⟨l2, l3, rfl⟩ := List.append_of_mem hm
      exact ⟨a, [], l2, l3, rfl⟩
    · obtain ⟨x, l1, l2, l3, rfl⟩ := ih fun hn => h (List.nodup_cons.2 ⟨hm, hn⟩)
      exact ⟨x, a :: l1, l2, l3, rfl⟩
/-- a closed way of sign minus has a simple one in it -/
theorem simple_minus {R : Nat → Nat → Bool → Prop} (k : Nat) : ∀ (a : Nat) (l : List Nat), l.length ≤ k → Wk R a a false l → ∃ b m, Wk R b b false m ∧ m.Nodup ∧ m ≠ [] ∧ ∀ x ∈ m, x ∈ l := by
  induction k with
  | zero =>
    intro a l hl h
    obtain rfl : l = [] := List.length_eq_zero_iff.1 (by omega)
    exact absurd h.empty.2 (by decide)
  | succ k ih =>
    intro a l hl h
    by_cases hn : l.Nodup
    · refine ⟨a, l, h, hn, ?_, fun x hx => hx⟩
      rintro rfl
      exact absurd h.empty.2 (by decide)
    · obtain ⟨x, l1, l2, l3, rfl⟩ := dup_of hn
      obtain ⟨s1, s2, h1, h2, e⟩ := h.split
      obtain ⟨s3, s4, h3, h4, e2⟩ := Wk.split (l := x :: l2) h2
      simp only [List.length_append, List.length_cons] at hl
      cases hs : s3
      · rw [hs] at h3
        obtain ⟨b, m, k1, k2, k3, k4⟩ := ih x (x :: l2) (by simp only [List.length_cons]; omega) h3
        exact ⟨b, m, k1, k2, k3, fun y hy => by
          have := k4 y hy
          simp only [List.mem_cons, List.mem_append] at this ⊢
          rcases this with h | h
          · exact .inr (.inl h)
          · exact .inr (.inr (.inl h))⟩
      · rw [hs, true_beq'] at e2
        have h5 := h1.append h4
        rw [← e2, ← e] at h5
        obtain ⟨b, m, k1, k2, k3, k4⟩ := ih a (l1 ++ x :: l3) (by simp only [List.length_append, List.length_cons]; omega) h5
        exact ⟨b, m, k1, k2, k3, fun y hy => by
          have := k4 y hy
          simp only [List.mem_cons, List.mem_append] at this ⊢
          rcases this with h | h | h
          · exact .inl h
          · exact .inr (.inl h)
          · exact .inr (.inr (.inr (.inr h)))⟩
/-- a closed way has a simple one in it -/
theorem simple_some {R : Nat → Nat → Bool → Prop} (k : Nat) : ∀ (a : Nat) (s : Bool) (l : List Nat), l.length ≤ k → l ≠ [] → Wk R a a s l → ∃ b t m, Wk R b b t m ∧ m.Nodup ∧ m ≠ [] ∧ ∀ x ∈ m, x ∈ l := by
  induction k with
  | zero =>
    intro a s l hl hne h
    exact absurd (List.length_eq_zero_iff.1 (by omega)) hne
  | succ k ih =>
    intro a s l hl hne h
    by_cases hn : l.Nodup
    · exact ⟨a, s, l, h, hn, hne, fun x hx => hx⟩
    · obtain ⟨x, l1, l2, l3, rfl⟩ := dup_of hn
      obtain ⟨s1, s2, h1, h2, e⟩ := h.split
      obtain ⟨s3, s4, h3, h4, e2⟩ := Wk.split (l := x :: l2) h2
      simp only [List.length_append, List.length_cons] at hl
      obtain ⟨b, t, m, k1, k2, k3, k4⟩ := ih x s3 (x :: l2) (by simp only [List.length_cons]; omega) (by simp) h3
      exact ⟨b, t, m, k1, k2, k3, fun y hy => by
          have := k4 y hy
          simp only [List.mem_cons, List.mem_append] at this ⊢
          rcases this with h | h
          · exact .inr (.inl h)
          · exact .inr (.inr (.inl h))⟩
/-- a closed way begun at another of its places -/
theorem Wk.turn {R : Nat → Nat → Bool → Prop} {a m : Nat} {s : Bool} {l : List Nat} (h : Wk R a a s l) (hm : m ∈ l) : ∃ r, Wk R m m s (m :: r) ∧ List.Perm (m :: r) l := by
  obtain ⟨l1, l2, rfl⟩ := List.append_of_mem hm
  obtain ⟨s1, s2, h1, h2, rfl⟩ := h.split
  refine ⟨l2 ++ l1, ?_, ?_⟩
  · have := h2.append h1
    rwa [Bool.beq_comm] at this
  · exact List.perm_append_comm (l₁ := m :: l2) (l₂ := l1)
theorem least_of {l : List Nat} (h : l ≠ []) : ∃ m, m ∈ l ∧ ∀ x ∈ l, m ≤ x := by
  induction l with
  | nil => exact absurd rfl h
  | cons a r ih =>
    by_cases e : r = []
    · subst e; exact ⟨a, by simp, fun x hx => by simp at hx; omega⟩
    · obtain ⟨m, hm, hle⟩ := ih e
      by_cases h2 : a ≤ m
      · exact ⟨a, by simp, fun x hx => by
          rcases List.mem_cons.1 hx with rfl | hx
          · exact Nat.le_refl _
          · have := hle x hx; omega⟩
      · exact ⟨m, by simp [hm], fun x hx => by
          rcases List.mem_cons.1 hx with rfl | hx
          · omega
          · exact hle x hx⟩

/-! ### the arcs of a network -/
def arcB (N : Net) (i k : Nat) (s : Bool) : Prop := (i < N.n ∧ k < N.n) ∧ (if s then sgU N.n (N.f k) i else sgD N.n (N.f k) i) = true
/-- a number of a sign may be taken as plus (true), as minus -/
def adm (c : Nat) (s : Bool) : Prop := c = 3 ∨ c = if s then 1 else 2
theorem adm_edge {N : Net} {i k : Nat} {s : Bool} (h : arcB N i k s) : adm (edgeC N i k) s := by
  unfold arcB at h
  unfold adm edgeC
  cases s
  · have := h.2
    simp only [Bool.false_eq_true, if_false] at this ⊢
    rw [this]
    cases sgU N.n (N.f k) i <;> simp
  · have := h.2
    simp only [if_true] at this ⊢
    rw [this]
    cases sgD N.n (N.f k) i <;> simp
theorem edge_adm {N : Net} {i k : Nat} {s : Bool} (hi : i < N.n) (hk : k < N.n) (h : adm (edgeC N i k) s) : arcB N i k s := by
  refine ⟨⟨hi, hk⟩, ?_⟩
  unfold adm edgeC at h
  cases s <;> cases hu : sgU N.n (N.f k) i <;> cases hd : sgD N.n (N.f k) i <;> rw [hu, hd] at h <;> simp_all
theorem edge_pos {N : Net} {i k : Nat} (h : 0 < edgeC N i k) : ∃ s, adm (edgeC N i k) s := by
  have := edgeC_le N i k
  have h3 : edgeC N i k = 1 ∨ edgeC N i k = 2 ∨ edgeC N i k = 3 := by omega
  unfold adm
  rcases h3 with e | e | e
  · exact ⟨true, .inr e⟩
  · exact ⟨false, .inr e⟩
  · exact ⟨true, .inl e⟩
theorem arc_inf {N : Net} {i k : Nat} {s : Bool} (h : arcB N i k s) : infB N i k = true := by
  rw [edgeC_inf, decide_eq_true_eq]
  rcases adm_edge h with e | e
  · omega
  · cases s <;> simp_all
theorem inf_arc {N : Net} {i k : Nat} (hi : i < N.n) (hk : k < N.n) (h : infB N i k = true) : ∃ s, arcB N i k s := by
  rw [edgeC_inf, decide_eq_true_eq] at h
  obtain ⟨s, hs⟩ := edge_pos h
  exact ⟨s, edge_adm hi hk hs⟩
theorem adm_times {a b : Nat} {s t : Bool} (h : adm a s) (k : adm b t) : adm (timesC a b) (s == t) := by
  unfold adm timesC at *
  rcases h with rfl | rfl <;> rcases k with rfl | rfl
  · simp
  · simp
  · simp
  · cases s <;> cases t <;> simp
theorem times_adm {a b : Nat} {u : Bool} (ha : 1 ≤ a ∧ a ≤ 3) (hb : 1 ≤ b ∧ b ≤ 3) (h : adm (timesC a b) u) : ∃ s t, adm a s ∧ adm b t ∧ u = (s == t) := by
  unfold adm timesC at *
  have ha' : a = 1 ∨ a = 2 ∨ a = 3 := by omega
  have hb' : b = 1 ∨ b = 2 ∨ b = 3 := by omega
  rcases ha' with rfl | rfl | rfl <;> rcases hb' with rfl | rfl | rfl <;> cases u <;> simp_all
theorem walkL_has {N : Net} : ∀ (rest way : List Nat) (f : Nat) (s : Bool), way ≠ [] → (way ++ rest).Nodup → (∀ x ∈ rest, headN way < x ∧ x < N.n) → rest.length < f → Wk (arcB N) (lastN way) (headN way) s (lastN way :: rest) → way ++ rest ∈ walkL N f way := by
  intro rest
  induction rest with
  | nil =>
    intro way f s hne _ _ hf h
    obtain ⟨f, rfl⟩ : ∃ g, f = g + 1 := ⟨f - 1, by simp at hf; omega⟩
    obtain ⟨b, s1, t1, _, h1, h2, rfl⟩ := h.inv
    have e := h2.empty.1
    rw [e] at h1
    rw [walkL, List.append_nil, if_pos (by unfold closeB; exact arc_inf h1)]
    exact List.mem_append_left _ (by simp)
  | cons k r ih =>
    intro way f s hne hnd hlt hf h
    obtain ⟨f, rfl⟩ : ∃ g, f = g + 1 := ⟨f - 1, by simp at hf; omega⟩
    obtain ⟨b, s1, t1, _, h1, h2, rfl⟩ := h.inv
    obtain rfl : k = b := h2.head
    have hk := hlt k (by simp)
    have hkw : k ∉ way := fun hm => by
      have := (List.nodup_append.1 hnd).2.2
      exact this k hm k (by simp) rfl
    have hin := ih (way ++ [k]) f t1 (by simp) (by rw [List.append_assoc]; exact hnd) (fun x hx => by rw [headN_snoc hne]; exact hlt x (by simp [hx])) (by simp at hf; omega) (by rw [lastN_snoc, headN_snoc hne]; exact h2)
    rw [walkL]
    refine List.mem_append_right _ (subL_mem.2 ⟨k, hk.2, ?_, ?_⟩)
    · unfold goesB
      rw [decide_eq_true hk.1, arc_inf h1, List.contains_eq_mem, decide_eq_false hkw]; rfl
    · rw [List.append_assoc] at hin; exact hin
theorem circC_adm {N : Net} : ∀ (rest way : List Nat) (s0 s : Bool), way ≠ [] → adm (wayC N way) s0 → Wk (arcB N) (lastN way) (headN way) s (lastN way :: rest) → adm (circC N (way ++ rest)) (s0 == s) := by
  intro rest
  induction rest with
  | nil =>
    intro way s0 s hne h0 h
    obtain ⟨b, s1, t1, _, h1, h2, rfl⟩ := h.inv
    obtain ⟨e, rfl⟩ := h2.empty
    rw [e] at h1
    rw [List.append_nil, circC, beq_true']
    exact adm_times h0 (adm_edge h1)
  | cons k r ih =>
    intro way s0 s hne h0 h
    obtain ⟨b, s1, t1, _, h1, h2, rfl⟩ := h.inv
    obtain rfl : k = b := h2.head
    have := ih (way ++ [k]) _ _ (by simp) (by rw [wayC_snoc N hne]; exact adm_times h0 (adm_edge h1)) (by rw [lastN_snoc, headN_snoc hne]; exact h2)
    rw [List.append_assoc, beq_assoc] at this
    exact this
theorem wk_lt {N : Net} {a b : Nat} {s : Bool} {l : List Nat} (h : Wk (arcB N) a b s l) : ∀ x ∈ l, x < N.n := by
  induction h with
  | nil => intro x hx; cases hx
  | cons r _ ih =>
    intro x hx
    rcases List.mem_cons.1 hx with rfl | hx
    · exact r.1.1
    · exact ih x hx
/-- a simple closed way is one of the circuits, begun at its least switch -/
theorem circ_of {N : Net} {a : Nat} {s : Bool} {l : List Nat} (h : Wk (arcB N) a a s l) (hn : l.Nodup) (hne : l ≠ []) : ∃ c, c ∈ circL N ∧ adm (circC N c) s ∧ ∀ x, x ∈ c ↔ x ∈ l := by
  obtain ⟨m, hm, hle⟩ := least_of hne
  obtain ⟨r, hw, hp⟩ := h.turn hm
  have hnd : (m :: r).Nodup := hp.nodup_iff.2 hn
  have hmn : m < N.n := wk_lt h m hm
  have hr : ∀ x ∈ r, headN [m] < x ∧ x < N.n := fun x hx => by
    have h1 : x ∈ l := hp.mem_iff.1 (by simp [hx])
    have h2 := hle x h1
    have h3 : m ≠ x := fun e => (List.nodup_cons.1 hnd).1 (e ▸ hx)
    exact ⟨by show m < x; omega, wk_lt h x h1⟩
  have hlen : r.length < N.n := by
    have := nodup_length hnd (n := N.n) fun x hx => wk_lt hw x hx
    rw [List.length_cons] at this
    omega
  refine ⟨m :: r, ?_, ?_, fun x => hp.mem_iff⟩
  · exact subL_mem.2 ⟨m, hmn, rfl, walkL_has r [m] N.n s (by simp) hnd hr hlen hw⟩
  · have := circC_adm (N := N) r [m] true s (by simp) (.inr rfl) hw
    rwa [true_beq'] at this
end Go.Sw

namespace Go.Sw
open Go

theorem walkL_sound {N : Net} : ∀ (f : Nat) (way : List Nat), WayOk N way → stepsOk N way → ∀ c ∈ walkL N f way, WayOk N c ∧ edgesOk N c := by
  intro f
  induction f with
  | zero => intro way _ _ c hc; cases hc
  | succ f ih =>
    intro way hw hs c hc
    rw [walkL] at hc
    rcases List.mem_append.1 hc with hc | hc
    · split at hc
      · rename_i hcl
        obtain rfl : c = way := by simpa using hc
        exact ⟨hw, hs.close hw.1 hcl⟩
      · cases hc
    · obtain ⟨k, hk, hg, hc⟩ := subL_mem.1 hc
      have hg2 := hg
      simp only [goesB, Bool.and_eq_true] at hg2
      have he : 0 < edgeC N (lastN way) k := by
        have := hg2.2.1
        rwa [edgeC_inf, decide_eq_true_eq] at this
      exact ih (way ++ [k]) (hw.snoc hk hg) (hs.snoc hw.1 he) c hc
theorem circ_sound {N : Net} {c : List Nat} (h : c ∈ circL N) : WayOk N c ∧ edgesOk N c := by
  obtain ⟨i, hi, _, hc⟩ := subL_mem.1 h
  exact walkL_sound N.n [i] (WayOk.one hi) (stepsOk.one N i) c hc
theorem stepsOk_of_edges {N : Net} {c : List Nat} (h : edgesOk N c) : stepsOk N c := fun k hk => by
  have := h k (by omega)
  unfold codeC at this
  rwa [Nat.mod_eq_of_lt hk] at this
theorem way_wk {N : Net} (m : Nat) : ∀ (way : List Nat) (s : Bool), way.length = m + 1 → (∀ x ∈ way, x < N.n) → stepsOk N way → adm (wayC N way) s → ∃ l, Wk (arcB N) (headN way) (lastN way) s l ∧ l ++ [lastN way] = way := by
  induction m with
  | zero =>
    intro way s hl _ _ ha
    obtain ⟨k, rfl⟩ := List.length_eq_one_iff.1 hl
    rcases ha with e | e
    · cases e
    · cases s
      · cases e
      · exact ⟨[], .nil _, rfl⟩
  | succ m ih =>
    intro way s hl hlt hs ha
    obtain ⟨pre, k, rfl⟩ : ∃ pre k, way = pre ++ [k] := by
      rcases List.eq_nil_or_concat way with rfl | ⟨pre, k, rfl⟩
      · simp at hl
      · exact ⟨pre, k, by simp⟩
    have hpl : pre.length = m + 1 := by simpa using hl
    have hne : pre ≠ [] := by rintro rfl; simp at hpl
    have hlast : lastN pre ∈ pre := by
      unfold lastN
      rw [List.getLastD_eq_getLast?, List.getLast?_eq_some_getLast hne]
      exact List.getLast_mem hne
    have he : 0 < edgeC N (lastN pre) k := by
      have := hs (pre.length - 1) (by simp; omega)
      rwa [getD_snoc_lt (by omega), show pre.length - 1 + 1 = pre.length by omega, getD_snoc_eq, getD_last hne] at this
    have hsp : stepsOk N pre := fun j hj => by
      have := hs j (by simp; omega)
      rwa [getD_snoc_lt (by omega), getD_snoc_lt (by omega)] at this
    rw [wayC_snoc N hne] at ha
    have hel := edgeC_le N (lastN pre) k
    obtain ⟨s1, s2, h1, h2, rfl⟩ := times_adm (wayC_le N pre) ⟨he, hel⟩ ha
    obtain ⟨l, hw, hlp⟩ := ih pre s1 hpl (fun x hx => hlt x (by simp [hx])) hsp h1
    refine ⟨l ++ [lastN pre], ?_, ?_⟩
    · rw [headN_snoc hne, lastN_snoc]
      exact hw.append (Wk.one (edge_adm (hlt _ (by simp [hlast])) (hlt k (by simp)) h2))
    · rw [hlp, lastN_snoc]
/-- a circuit is a simple closed way, of each sign that it may be taken as -/
theorem circ_wk {N : Net} {c : List Nat} {s : Bool} (h : c ∈ circL N) (ha : adm (circC N c) s) : Wk (arcB N) (headN c) (headN c) s c ∧ c.Nodup ∧ c ≠ [] := by
  obtain ⟨hw, he⟩ := circ_sound h
  have hl : 0 < c.length := List.length_pos_iff.2 hw.1
  have hcl : 0 < edgeC N (lastN c) (headN c) := by
    have := he (c.length - 1) (by omega)
    unfold codeC at this
    rwa [show c.length - 1 + 1 = c.length by omega, Nat.mod_self, getD_last hw.1, getD_head] at this
  obtain ⟨s1, s2, h1, h2, rfl⟩ := times_adm (wayC_le N c) ⟨hcl, edgeC_le N _ _⟩ ha
  obtain ⟨l, hwk, hlp⟩ := way_wk (N := N) (c.length - 1) c s1 (by omega) (fun x hx => (hw.2.2 x hx).1) (stepsOk_of_edges he) h1
  refine ⟨?_, hw.2.1, hw.1⟩
  have := hwk.append (Wk.one (edge_adm hw.last hw.head h2))
  rwa [hlp] at this
/-- of a sign: circuits and simple closed ways -/
theorem circ_iff {N : Net} {s : Bool} : (∃ c ∈ circL N, adm (circC N c) s) ↔ ∃ a l, l ≠ [] ∧ l.Nodup ∧ Wk (arcB N) a a s l := by
  constructor
  · rintro ⟨c, hc, ha⟩
    obtain ⟨h1, h2, h3⟩ := circ_wk hc ha
    exact ⟨_, c, h3, h2, h1⟩
  · rintro ⟨a, l, h1, h2, h3⟩
    obtain ⟨c, hc, ha, _⟩ := circ_of h3 h2 h1
    exact ⟨c, hc, ha⟩
theorem circ_some {c : Nat} (h : 1 ≤ c ∧ c ≤ 3) : adm c true ∨ adm c false := by
  have : c = 1 ∨ c = 2 ∨ c = 3 := by omega
  unfold adm
  rcases this with rfl | rfl | rfl <;> simp
theorem isC_plus {c : Nat} (h : 1 ≤ c ∧ c ≤ 3) : isC c ⟨#[43]⟩ = true ↔ adm c true := by
  have : c = 1 ∨ c = 2 ∨ c = 3 := by omega
  unfold adm
  rcases this with rfl | rfl | rfl <;> decide
theorem isC_minus {c : Nat} (h : 1 ≤ c ∧ c ≤ 3) : isC c ⟨#[45]⟩ = true ↔ adm c false := by
  have : c = 1 ∨ c = 2 ∨ c = 3 := by omega
  unfold adm
  rcases this with rfl | rfl | rfl <;> decide

/-! ### what a rule hangs on -/
theorem setN_eq_self {s i : Nat} {b : Bool} (h : s.testBit i = b) : setN s i b = s := by
  apply Nat.eq_of_testBit_eq
  intro j
  rw [setN_testBit]
  by_cases e : j = i
  · subst e; simp [h]
  · simp [e]
/-- a state whose first k switches are those of another one -/
def mixN (x y : Nat) : Nat → Nat
  | 0 => x
  | k + 1 => setN (mixN x y k) k (y.testBit k)
theorem mixN_bit (x y k j : Nat) : (mixN x y k).testBit j = if j < k then y.testBit j else x.testBit j := by
  induction k with
  | zero => simp [mixN]
  | succ k ih =>
    rw [mixN, setN_testBit, ih]
    by_cases e : j = k
    · subst e; simp
    · have : (j < k + 1) = (j < k) := by simp; omega
      simp [e, this]
theorem mixN_lt {x y n k : Nat} (hx : x < pw n) (hk : k ≤ n) : mixN x y k < pw n := by
  induction k with
  | zero => exact hx
  | succ k ih => exact setN_lt _ _ _ _ (ih (by omega)) (by omega)
theorem mixN_all {x y n : Nat} (hx : x < pw n) (hy : y < pw n) : mixN x y n = y := by
  apply Nat.eq_of_testBit_eq
  intro j
  rw [mixN_bit]
  by_cases h : j < n
  · rw [if_pos h]
  · rw [if_neg h, testBit_high hx (by omega), testBit_high hy (by omega)]
theorem flip_arc {N : Net} {k x y : Nat} (hk : k < N.n) (hx : x < pw N.n) (hy : y < pw N.n) (h : N.f k x ≠ N.f k y) : ∃ j, j < N.n ∧ x.testBit j ≠ y.testBit j ∧ arcB N j k (y.testBit j == N.f k y) := by
  have key : ∀ m, m ≤ N.n → N.f k (mixN x y m) = N.f k y → ∃ j, j < N.n ∧ x.testBit j ≠ y.testBit j ∧ arcB N j k (y.testBit j == N.f k y) := by
    intro m
    induction m with
    | zero => intro _ e; exact absurd e h
    | succ m ih =>
      intro hm e
      by_cases e2 : N.f k (mixN x y m) = N.f k y
      · exact ih (by omega) e2
      · have hz := mixN_lt (y := y) hx (show m ≤ N.n by omega)
        have hb : (mixN x y m).testBit m = x.testBit m := by rw [mixN_bit, if_neg (by omega)]
        have hne : x.testBit m ≠ y.testBit m := fun e3 => by
          rw [mixN, setN_eq_self (by rw [hb, e3])] at e
          exact e2 e
        refine ⟨m, by omega, hne, ⟨by omega, hk⟩, ?_⟩
        rw [mixN] at e
        have hx2 : (mixN x y m) = setN (mixN x y m) m (!y.testBit m) := (setN_eq_self (by
          rw [hb]
          cases hx' : x.testBit m <;> cases hy' : y.testBit m <;> simp_all)).symm
        rw [hx2] at e2
        cases hym : y.testBit m <;> cases hfy : N.f k y <;> rw [hym, hfy] at e e2 <;> simp only [Bool.not_false, Bool.not_true] at e2
        · show sgU N.n (N.f k) m = true
          rw [← sgU_spec N.n (N.f k) m (by omega), anyB_iff]
          exact ⟨_, hz, by unfold upS; rw [e]; simpa using e2⟩
        · show sgD N.n (N.f k) m = true
          rw [← sgD_spec N.n (N.f k) m (by omega), anyB_iff]
          exact ⟨_, hz, by unfold downS; rw [e]; simpa using e2⟩
        · show sgD N.n (N.f k) m = true
          rw [← sgD_spec N.n (N.f k) m (by omega), anyB_iff]
          exact ⟨_, hz, by unfold downS; rw [e]; simpa using e2⟩
        · show sgU N.n (N.f k) m = true
          rw [← sgU_spec N.n (N.f k) m (by omega), anyB_iff]
          exact ⟨_, hz, by unfold upS; rw [e]; simpa using e2⟩
  exact key N.n (Nat.le_refl _) (by rw [mixN_all hx hy])

/-! ### closed ways out of predecessors -/
theorem long_way {R : Nat → Nat → Bool → Prop} {D : Nat → Prop} (hp : ∀ i, D i → ∃ j s, D j ∧ R j i s) (m : Nat) : ∀ i, D i → ∃ b s l, l.length = m ∧ Wk R b i s l ∧ D b ∧ ∀ x ∈ l, D x := by
  induction m with
  | zero => intro i hi; exact ⟨i, true, [], rfl, .nil _, hi, fun x hx => by cases hx⟩
  | succ m ih =>
    intro i hi
    obtain ⟨b, s, l, h1, h2, h3, h4⟩ := ih i hi
    obtain ⟨j, t, hj, hr⟩ := hp b h3
    exact ⟨j, _, j :: l, by simp [h1], .cons hr h2, hj, fun x hx => by
      rcases List.mem_cons.1 hx with rfl | hx
      · exact hj
      · exact h4 x hx⟩
theorem closed_way {R : Nat → Nat → Bool → Prop} {n : Nat} {a b : Nat} {s : Bool} {l : List Nat} (h : Wk R a b s l) (hl : n < l.length) (hlt : ∀ x ∈ l, x < n) : ∃ c t m, m ≠ [] ∧ m.Nodup ∧ Wk R c c t m ∧ ∀ x ∈ m, x ∈ l := by
  have hn : ¬ l.Nodup := fun hn => by have := nodup_length hn hlt; omega
  obtain ⟨x, l1, l2, l3, rfl⟩ := dup_of hn
  obtain ⟨s1, s2, h1, h2, e⟩ := h.split
  obtain ⟨s3, s4, h3, h4, e2⟩ := Wk.split (l := x :: l2) h2
  obtain ⟨c, t, m, k1, k2, k3, k4⟩ := simple_some _ x s3 (x :: l2) (Nat.le_refl _) (by simp) h3
  exact ⟨c, t, m, k3, k2, k1, fun y hy => by
    have := k4 y hy
    simp only [List.mem_cons, List.mem_append] at this ⊢
    rcases this with h | h
    · exact .inr (.inl h)
    · exact .inr (.inr (.inl h))⟩
theorem closed_of_pred {R : Nat → Nat → Bool → Prop} {D : Nat → Prop} {n : Nat} (hD : ∀ i, D i → i < n) (hp : ∀ i, D i → ∃ j s, D j ∧ R j i s) {i : Nat} (hi : D i) : ∃ c t m, m ≠ [] ∧ m.Nodup ∧ Wk R c c t m ∧ ∀ x ∈ m, D x := by
  obtain ⟨b, s, l, h1, h2, h3, h4⟩ := long_way hp (n + 1) i hi
  obtain ⟨c, t, m, k1, k2, k3, k4⟩ := closed_way (n := n) h2 (by omega) fun x hx => hD x (h4 x hx)
  exact ⟨c, t, m, k1, k2, k3, fun x hx => h4 x (k4 x hx)⟩
theorem bit_ne_of {n x y : Nat} (hx : x < pw n) (hy : y < pw n) (h : x ≠ y) : ∃ i, i < n ∧ x.testBit i ≠ y.testBit i := by
  apply Classical.byContradiction
  intro hc
  apply h
  apply Nat.eq_of_testBit_eq
  intro i
  by_cases hi : i < n
  · apply Classical.byContradiction
    intro e
    exact hc ⟨i, hi, e⟩
  · rw [testBit_high hx (by omega), testBit_high hy (by omega)]
theorem fix_bit {N : Net} {s i : Nat} (h : stepN N s = s) (hi : i < N.n) : N.f i s = s.testBit i := by
  have := stepN_testBit N s i
  rw [h, decide_eq_true hi, Bool.true_and] at this
  exact this.symm
/-- two fixed points: a circuit of plus, all of whose switches are other ones in both -/
theorem two_points {N : Net} {x y : Nat} (hx : x < pw N.n) (hy : y < pw N.n) (fx : stepN N x = x) (fy : stepN N y = y) (h : x ≠ y) : ∃ c, c ∈ circL N ∧ adm (circC N c) true ∧ ∀ i ∈ c, x.testBit i ≠ y.testBit i := by
  obtain ⟨i, hi, hne⟩ := bit_ne_of hx hy h
  obtain ⟨c, t, m, k1, k2, k3, k4⟩ := closed_of_pred (R := fun j i s => arcB N j i s ∧ s = (y.testBit j == y.testBit i)) (D := fun i => i < N.n ∧ x.testBit i ≠ y.testBit i) (n := N.n) (fun i h => h.1)
    (fun i ⟨hi, hne⟩ => by
      obtain ⟨j, hj, hjne, ha⟩ := flip_arc hi hx hy (by rw [fix_bit fx hi, fix_bit fy hi]; exact hne)
      rw [fix_bit fy hi] at ha
      exact ⟨j, _, ⟨hj, hjne⟩, ha, rfl⟩) ⟨hi, hne⟩
  have hs : ∀ {a b : Nat} {s : Bool} {l : List Nat}, Wk (fun j i s => arcB N j i s ∧ s = (y.testBit j == y.testBit i)) a b s l → s = (y.testBit a == y.testBit b) := by
    intro a b s l h
    induction h with
    | nil => simp
    | @cons a b c s t l r _ ih =>
      rw [r.2, ih]
      cases y.testBit a <;> cases y.testBit b <;> cases y.testBit c <;> rfl
  have ht := hs k3
  have e : (y.testBit c == y.testBit c) = true := by simp
  rw [e] at ht
  subst ht
  obtain ⟨d, hd, ha, hm⟩ := circ_of (k3.mono fun _ _ _ h => h.1) k2 k1
  exact ⟨d, hd, ha, fun i hi => (k4 i ((hm i).1 hi)).2⟩

/-! ### steps of one switch at a time -/
inductive AR (N : Net) : Nat → Nat → Prop
  | refl (s : Nat) : AR N s s
  | step {s i t : Nat} : i < N.n → AR N (setN s i (N.f i s)) t → AR N s t
theorem AR.trans {N : Net} {s t u : Nat} (h : AR N s t) (k : AR N t u) : AR N s u := by
  induction h with
  | refl => exact k
  | step hi _ ih => exact .step hi (ih k)
theorem AR.one {N : Net} {s i : Nat} (hi : i < N.n) : AR N s (setN s i (N.f i s)) := .step hi (.refl _)
theorem AR.lt {N : Net} {s t : Nat} (h : AR N s t) (hs : s < pw N.n) : t < pw N.n := by
  induction h with
  | refl => exact hs
  | step hi _ ih => exact ih (setN_lt _ _ _ _ hs hi)

section minus
open Classical
/-- how many numbers below n are of a kind -/
noncomputable def cntP (n : Nat) (p : Nat → Prop) : Nat := ((List.range n).filter fun i => decide (p i)).length
theorem cntP_lt {n : Nat} {p q : Nat → Prop} (h : ∀ i, i < n → p i → q i) {i : Nat} (hi : i < n) (h1 : ¬ p i) (h2 : q i) : cntP n p < cntP n q := by
  unfold cntP
  have key : ∀ l : List Nat, (∀ j ∈ l, p j → q j) → (l.filter fun i => decide (p i)).length ≤ (l.filter fun i => decide (q i)).length ∧ (i ∈ l → (l.filter fun i => decide (p i)).length < (l.filter fun i => decide (q i)).length) := by
    intro l
    induction l with
    | nil => intro _; exact ⟨Nat.le_refl _, fun h => by cases h⟩
    | cons a r ih =>
      intro hl
      have ih := ih fun j hj => hl j (by simp [hj])
      have ha := hl a (by simp)
      by_cases hpa : p a
      · rw [List.filter_cons_of_pos (by simpa using hpa), List.filter_cons_of_pos (by simpa using ha hpa)]
        simp only [List.length_cons]
        refine ⟨by omega, fun hm => ?_⟩
        rcases List.mem_cons.1 hm with rfl | hm
        · exact absurd hpa h1
        · have := ih.2 hm; omega
      · rw [List.filter_cons_of_neg (by simpa using hpa)]
        by_cases hqa : q a
        · rw [List.filter_cons_of_pos (by simpa using hqa)]
          simp only [List.length_cons]
          exact ⟨by omega, fun _ => by omega⟩
        · rw [List.filter_cons_of_neg (by simpa using hqa)]
          refine ⟨ih.1, fun hm => ?_⟩
          rcases List.mem_cons.1 hm with rfl | hm
          · exact absurd h2 hqa
          · exact ih.2 hm
  exact (key _ fun j hj => h j (List.mem_range.1 hj)).2 (List.mem_range.2 hi)
/-- is there a way? -/
def WyB (N : Net) (a b : Nat) : Prop := ∃ s l, Wk (arcB N) a b s l
theorem WyB.refl (N : Net) (a : Nat) : WyB N a a := ⟨true, [], .nil a⟩
theorem WyB.trans {N : Net} {a b c : Nat} (h : WyB N a b) (k : WyB N b c) : WyB N a c := by
  obtain ⟨s, l, h⟩ := h
  obtain ⟨t, m, k⟩ := k
  exact ⟨_, _, h.append k⟩
def closedS (N : Net) (S : Nat → Prop) : Prop := ∀ i k s, S k → arcB N i k s → S i
def restS (N : Net) (S : Nat → Prop) (s : Nat) : Prop := ∀ k, k < N.n → S k → N.f k s = s.testBit k
theorem closed_wy {N : Net} {S : Nat → Prop} (h : closedS N S) {a b : Nat} (hw : WyB N a b) (hb : S b) : S a := by
  obtain ⟨s, l, hw⟩ := hw
  induction hw with
  | nil => exact hb
  | cons r _ ih => exact h _ _ _ (ih hb) r
theorem closed_or {N : Net} {S : Nat → Prop} (h : closedS N S) (v : Nat) : closedS N fun i => S i ∨ WyB N i v := fun i k s hk ha => by
  rcases hk with hk | hk
  · exact .inl (h i k s hk ha)
  · exact .inr (WyB.trans ⟨s, _, Wk.one ha⟩ hk)
/-- a step of a switch outside leaves at rest what is closed -/
theorem rest_keep {N : Net} {S : Nat → Prop} (hc : closedS N S) {s i : Nat} {b : Bool} (hs : s < pw N.n) (hi : i < N.n) (hn : ¬ S i) (h : restS N S s) : restS N S (setN s i b) := fun k hk hS => by
  have hki : k ≠ i := fun e => hn (e ▸ hS)
  rw [setN_testBit, if_neg hki, ← h k hk hS]
  apply Classical.byContradiction
  intro hne
  obtain ⟨j, hj, hjne, ha⟩ := flip_arc hk (setN_lt s i N.n b hs hi) hs hne
  have : j = i := by
    apply Classical.byContradiction
    intro e
    rw [setN_testBit, if_neg e] at hjne
    exact hjne rfl
  subst this
  exact hn (hc _ _ _ hS ha)
theorem settle_one {N : Net} (hneg : ∀ c ∈ circL N, ¬ adm (circC N c) false) {S : Nat → Prop} (hc : closedS N S) {v : Nat} (hSv : ¬ S v) (hcon : ∀ u, u < N.n → WyB N u v → ¬ S u → WyB N v u) {s : Nat} (hs : s < pw N.n) (hr : restS N S s) :
    ∃ t, t < pw N.n ∧ AR N s t ∧ restS N (fun i => S i ∨ WyB N i v) t := by
  let σ : Nat → Bool := fun i => decide (∃ l, Wk (arcB N) v i true l)
  have hσ : ∀ i u l, WyB N i v → Wk (arcB N) v i u l → σ i = u := by
    intro i u l hiv hw
    cases u
    · have : ¬ ∃ l, Wk (arcB N) v i true l := by
        rintro ⟨l', hw'⟩
        obtain ⟨t, m, hb⟩ := hiv
        have h1 := hw.append hb
        have h2 := hw'.append hb
        have : ∃ l, Wk (arcB N) v v false l := by
          cases t
          · exact ⟨_, h2⟩
          · exact ⟨_, h1⟩
        obtain ⟨l, h⟩ := this
        obtain ⟨b, m, k1, k2, k3, _⟩ := simple_minus _ v l (Nat.le_refl _) h
        obtain ⟨c, hcm, ha, _⟩ := circ_of k1 k2 k3
        exact hneg c hcm ha
      exact decide_eq_false this
    · exact decide_eq_true ⟨l, hw⟩
  let C : Nat → Prop := fun i => i < N.n ∧ WyB N i v ∧ ¬ S i
  have harc : ∀ i k u, C i → C k → arcB N i k u → σ k = (σ i == u) := by
    intro i k u hi hk ha
    obtain ⟨t, l, hw⟩ := hcon i hi.1 hi.2.1 hi.2.2
    have h2 := hw.append (Wk.one ha)
    rw [hσ i t l hi.2.1 hw, hσ k _ _ hk.2.1 h2]
  have mono : ∀ k x y, C k → x < pw N.n → y < pw N.n → (∀ j, j < N.n → x.testBit j ≠ y.testBit j → C j ∧ y.testBit j = σ j) → N.f k x = σ k → N.f k y = σ k := by
    intro k x y hk hx hy hd hf
    by_cases e : N.f k x = N.f k y
    · rw [← e]; exact hf
    · obtain ⟨j, hj, hjne, ha⟩ := flip_arc hk.1 hx hy e
      obtain ⟨hCj, hyj⟩ := hd j hj hjne
      have := harc j k _ hCj hk ha
      rw [hyj] at this
      rw [this]
      cases σ j <;> cases N.f k y <;> rfl
  have up : ∀ m s, cntP N.n (fun i => C i ∧ s.testBit i ≠ σ i) ≤ m → s < pw N.n → restS N S s → ∃ t, t < pw N.n ∧ AR N s t ∧ restS N S t ∧ ∀ i, C i → N.f i t = σ i → t.testBit i = σ i := by
    intro m
    induction m with
    | zero =>
      intro s hm hs hr
      refine ⟨s, hs, .refl _, hr, fun i hi hf => ?_⟩
      apply Classical.byContradiction
      intro hne
      have := cntP_lt (n := N.n) (p := fun _ => False) (q := fun i => C i ∧ s.testBit i ≠ σ i) (fun _ _ h => h.elim) hi.1 (fun h => h) ⟨hi, hne⟩
      omega
    | succ m ih =>
      intro s hm hs hr
      by_cases hex : ∃ i, C i ∧ N.f i s = σ i ∧ s.testBit i ≠ σ i
      · obtain ⟨i, hi, hf, hne⟩ := hex
        have hs' := setN_lt s i N.n (N.f i s) hs hi.1
        obtain ⟨t, h1, h2, h3, h4⟩ := ih (setN s i (N.f i s)) (by
          have := cntP_lt (n := N.n) (p := fun j => C j ∧ (setN s i (N.f i s)).testBit j ≠ σ j) (q := fun j => C j ∧ s.testBit j ≠ σ j) (fun j _ ⟨h1, h2⟩ => ⟨h1, fun e => h2 (by
            rw [setN_testBit]
            by_cases hj : j = i
            · rw [if_pos hj, hj]; exact hf
            · rw [if_neg hj]; exact e)⟩) hi.1 (fun ⟨_, h2⟩ => h2 (by rw [setN_testBit, if_pos rfl]; exact hf)) ⟨hi, hne⟩
          omega) hs' (rest_keep hc hs hi.1 hi.2.2 hr)
        exact ⟨t, h1, .step hi.1 h2, h3, h4⟩
      · refine ⟨s, hs, .refl _, hr, fun i hi hf => ?_⟩
        apply Classical.byContradiction
        intro hne
        exact hex ⟨i, hi, hf, hne⟩
  have down : ∀ m s, cntP N.n (fun i => C i ∧ s.testBit i = σ i) ≤ m → s < pw N.n → restS N S s → (∀ i, C i → N.f i s = σ i → s.testBit i = σ i) → ∃ t, t < pw N.n ∧ AR N s t ∧ restS N S t ∧ ∀ i, C i → N.f i t = t.testBit i := by
    intro m
    induction m with
    | zero =>
      intro s hm hs hr hin
      refine ⟨s, hs, .refl _, hr, fun i hi => ?_⟩
      apply Classical.byContradiction
      intro hne
      have hsi : s.testBit i = σ i := by
        by_cases hf : N.f i s = σ i
        · exact hin i hi hf
        · revert hf hne
          cases N.f i s <;> cases s.testBit i <;> cases σ i <;> simp
      have := cntP_lt (n := N.n) (p := fun _ => False) (q := fun i => C i ∧ s.testBit i = σ i) (fun _ _ h => h.elim) hi.1 (fun h => h) ⟨hi, hsi⟩
      omega
    | succ m ih =>
      intro s hm hs hr hin
      by_cases hex : ∃ i, C i ∧ N.f i s ≠ s.testBit i
      · obtain ⟨i, hi, hne⟩ := hex
        have hfi : N.f i s ≠ σ i := fun hf => hne (by rw [hf, hin i hi hf])
        have hsi : s.testBit i = σ i := by
          revert hfi hne
          cases N.f i s <;> cases s.testBit i <;> cases σ i <;> simp
        have hs' := setN_lt s i N.n (N.f i s) hs hi.1
        obtain ⟨t, h1, h2, h3, h4⟩ := ih (setN s i (N.f i s)) (by
          have := cntP_lt (n := N.n) (p := fun j => C j ∧ (setN s i (N.f i s)).testBit j = σ j) (q := fun j => C j ∧ s.testBit j = σ j) (fun j _ ⟨h1, h2⟩ => ⟨h1, by
            rw [setN_testBit] at h2
            by_cases hj : j = i
            · rw [hj]; exact hsi
            · rwa [if_neg hj] at h2⟩) hi.1 (fun ⟨_, h2⟩ => by rw [setN_testBit, if_pos rfl] at h2; exact hfi h2) ⟨hi, hsi⟩
          omega) hs' (rest_keep hc hs hi.1 hi.2.2 hr) (fun k hk hf => by
            have hfs := mono k _ s hk hs' hs (fun j hj hjne => by
              have : j = i := by
                apply Classical.byContradiction
                intro e
                rw [setN_testBit, if_neg e] at hjne
                exact hjne rfl
              subst this
              exact ⟨hi, hsi⟩) hf
            have hks := hin k hk hfs
            by_cases e : k = i
            · subst e; exact absurd hfs hfi
            · rw [setN_testBit, if_neg e]; exact hks)
        exact ⟨t, h1, .step hi.1 h2, h3, h4⟩
      · refine ⟨s, hs, .refl _, hr, fun i hi => ?_⟩
        apply Classical.byContradiction
        intro hne
        exact hex ⟨i, hi, hne⟩
  obtain ⟨t1, a1, a2, a3, a4⟩ := up _ s (Nat.le_refl _) hs hr
  obtain ⟨t2, b1, b2, b3, b4⟩ := down _ t1 (Nat.le_refl _) a1 a3 a4
  refine ⟨t2, b1, a2.trans b2, fun k hk hor => ?_⟩
  by_cases hS : S k
  · exact b3 k hk hS
  · rcases hor with h | h
    · exact absurd h hS
    · exact b4 k ⟨hk, h, hS⟩
theorem settle_to {N : Net} (hneg : ∀ c ∈ circL N, ¬ adm (circC N c) false) (m : Nat) : ∀ (v : Nat) (S : Nat → Prop), v < N.n → closedS N S → cntP N.n (fun i => WyB N i v ∧ ¬ S i) ≤ m → ∀ s, s < pw N.n → restS N S s →
    ∃ t, t < pw N.n ∧ AR N s t ∧ restS N (fun i => S i ∨ WyB N i v) t := by
  induction m with
  | zero =>
    intro v S hv hc hm s hs hr
    refine ⟨s, hs, .refl _, fun k hk hor => ?_⟩
    apply Classical.byContradiction
    intro hne
    have hkS : ¬ S k := fun h => hne (hr k hk h)
    have hw : WyB N k v := hor.resolve_left hkS
    have := cntP_lt (n := N.n) (p := fun _ => False) (q := fun i => WyB N i v ∧ ¬ S i) (fun _ _ h => h.elim) hk (fun h => h) ⟨hw, hkS⟩
    omega
  | succ m ih =>
    intro v S hv hc hm s hs hr
    by_cases hSv : S v
    · refine ⟨s, hs, .refl _, fun k hk hor => ?_⟩
      rcases hor with h | h
      · exact hr k hk h
      · exact hr k hk (closed_wy hc h hSv)
    · by_cases hex : ∃ u, u < N.n ∧ WyB N u v ∧ ¬ S u ∧ ¬ WyB N v u
      · obtain ⟨u, hu, huv, hSu, hvu⟩ := hex
        obtain ⟨t, h1, h2, h3⟩ := ih u S hu hc (by
          have := cntP_lt (n := N.n) (p := fun i => WyB N i u ∧ ¬ S i) (q := fun i => WyB N i v ∧ ¬ S i) (fun i _ ⟨a, b⟩ => ⟨a.trans huv, b⟩) hv (fun ⟨a, _⟩ => hvu a) ⟨WyB.refl N v, hSv⟩
          omega) s hs hr
        obtain ⟨t2, k1, k2, k3⟩ := ih v (fun i => S i ∨ WyB N i u) hv (closed_or hc u) (by
          have := cntP_lt (n := N.n) (p := fun i => WyB N i v ∧ ¬ (S i ∨ WyB N i u)) (q := fun i => WyB N i v ∧ ¬ S i) (fun i _ ⟨a, b⟩ => ⟨a, fun h => b (.inl h)⟩) hu (fun ⟨_, b⟩ => b (.inr (WyB.refl N u))) ⟨huv, hSu⟩
          omega) t h1 h3
        exact ⟨t2, k1, h2.trans k2, fun k hk hor => k3 k hk (by
          rcases hor with h | h
          · exact .inl (.inl h)
          · exact .inr h)⟩
      · exact settle_one hneg hc hSv (fun u hu huv hSu => by
          apply Classical.byContradiction
          intro h
          exact hex ⟨u, hu, huv, hSu, h⟩) hs hr
/-- without circuits of minus, single steps lead from each state to a fixed point -/
theorem to_point {N : Net} (hneg : ∀ c ∈ circL N, ¬ adm (circC N c) false) {s : Nat} (hs : s < pw N.n) : ∃ t, t < pw N.n ∧ AR N s t ∧ stepN N t = t := by
  have key : ∀ v, v ≤ N.n → ∃ S, closedS N S ∧ (∀ i, i < v → S i) ∧ ∃ t, t < pw N.n ∧ AR N s t ∧ restS N S t := by
    intro v
    induction v with
    | zero => intro _; exact ⟨fun _ => False, fun _ _ _ h _ => h, fun i h => by omega, s, hs, .refl _, fun _ _ h => h.elim⟩
    | succ v ih =>
      intro hv
      obtain ⟨S, h1, h2, t, h3, h4, h5⟩ := ih (by omega)
      obtain ⟨t2, k1, k2, k3⟩ := settle_to hneg _ v S (by omega) h1 (Nat.le_refl _) t h3 h5
      exact ⟨_, closed_or h1 v, fun i hi => by
        by_cases e : i = v
        · subst e; exact .inr (WyB.refl N i)
        · exact .inl (h2 i (by omega)), t2, k1, h4.trans k2, k3⟩
  obtain ⟨S, _, h2, t, h3, h4, h5⟩ := key N.n (Nat.le_refl _)
  refine ⟨t, h3, h4, ?_⟩
  apply Nat.eq_of_testBit_eq
  intro i
  rw [stepN_testBit]
  by_cases hi : i < N.n
  · rw [decide_eq_true hi, Bool.true_and, h5 i hi (h2 i hi)]
  · rw [decide_eq_false hi, Bool.false_and, testBit_high h3 (by omega)]
end minus
end Go.Sw

namespace Go.Sw
open Go

/-- the states after one step of a restless switch below k -/
def nextTo (N : Net) (s : Nat) : Nat → List Nat
  | 0 => []
  | k + 1 => if setN s k (N.f k s) ≠ s then nextTo N s k ++ [setN s k (N.f k s)] else nextTo N s k
def nextL (N : Net) (s : Nat) : List Nat := nextTo N s N.n
theorem nextTo_mem {N : Net} {s k t : Nat} : t ∈ nextTo N s k ↔ t ≠ s ∧ ∃ i, i < k ∧ t = setN s i (N.f i s) := by
  induction k with
  | zero => simp [nextTo]
  | succ k ih =>
    rw [nextTo]
    constructor
    · intro h
      split at h
      · rename_i hne
        rcases List.mem_append.1 h with h | h
        · obtain ⟨h1, i, hi, h2⟩ := ih.1 h
          exact ⟨h1, i, by omega, h2⟩
        · obtain rfl : t = setN s k (N.f k s) := by simpa using h
          exact ⟨hne, k, by omega, rfl⟩
      · obtain ⟨h1, i, hi, h2⟩ := ih.1 h
        exact ⟨h1, i, by omega, h2⟩
    · rintro ⟨h1, i, hi, h2⟩
      by_cases e : i = k
      · subst e
        rw [if_pos (by rw [← h2]; exact h1)]
        rw [← h2]; simp
      · have := ih.2 ⟨h1, i, by omega, h2⟩
        split
        · exact List.mem_append_left _ this
        · exact this
theorem nextTo_length (N : Net) (s k : Nat) : (nextTo N s k).length ≤ k := by
  induction k with
  | zero => exact Nat.le_refl _
  | succ k ih =>
    rw [nextTo]
    split
    · rw [List.length_append]; simp; omega
    · omega
theorem nextL_lt {N : Net} {s t : Nat} (hs : s < pw N.n) (h : t ∈ nextL N s) : t < pw N.n := by
  obtain ⟨_, i, hi, rfl⟩ := nextTo_mem.1 h
  exact setN_lt _ _ _ _ hs hi
theorem AR.snoc {N : Net} {s t u : Nat} (h : AR N s t) (k : u ∈ nextL N t) : AR N s u := by
  obtain ⟨_, i, hi, rfl⟩ := nextTo_mem.1 k
  exact h.trans (AR.one hi)
/-- a set that has a state and all that next ones of it are, has all that steps lead to -/
theorem AR.closed {N : Net} {S : Nat → Prop} {s t : Nat} (h : AR N s t) (hs : S s) (hc : ∀ a b, S a → b ∈ nextL N a → S b) : S t := by
  induction h with
  | refl => exact hs
  | @step a i t hi _ ih =>
    apply ih
    by_cases e : setN a i (N.f i a) = a
    · rw [e]; exact hs
    · exact hc _ _ hs (nextTo_mem.2 ⟨e, i, hi, rfl⟩)
noncomputable def arB (N : Net) (s t : Nat) : Bool := @decide (AR N s t) (Classical.propDecidable _)
theorem arB_iff {N : Net} {s t : Nat} : arB N s t = true ↔ AR N s t := by unfold arB; exact @decide_eq_true_iff _ (Classical.propDecidable _)
theorem arB_refl (N : Net) (s : Nat) : arB N s s = true := arB_iff.2 (.refl s)
/-- all numbers below k are of a kind -/
def allB (p : Nat → Bool) : Nat → Bool
  | 0 => true
  | k + 1 => allB p k && p k
theorem allB_iff (p : Nat → Bool) (k : Nat) : allB p k = true ↔ ∀ i, i < k → p i = true := by
  induction k with
  | zero => simp [allB]
  | succ k ih =>
    rw [allB, Bool.and_eq_true, ih]
    constructor
    · rintro ⟨h1, h2⟩ i hi
      by_cases e : i = k
      · subst e; exact h2
      · exact h1 i (by omega)
    · intro h; exact ⟨fun i hi => h i (by omega), h k (by omega)⟩
noncomputable def steadyB (N : Net) (s : Nat) : Bool := allB (fun t => !arB N s t || arB N t s) (pw N.n)
theorem steadyB_iff {N : Net} {s : Nat} (hs : s < pw N.n) : steadyB N s = true ↔ ∀ t, AR N s t → AR N t s := by
  unfold steadyB
  rw [allB_iff]
  constructor
  · intro h t ht
    have := h t (ht.lt hs)
    rw [arB_iff.2 ht] at this
    simpa [arB_iff] using this
  · intro h t _
    by_cases e : arB N s t = true
    · rw [e]
      have := arB_iff.2 (h t (arB_iff.1 e))
      rw [this]; rfl
    · have : arB N s t = false := by simpa using e
      rw [this]; rfl
/-- the numbers below k of a kind -/
def pickL (p : Nat → Bool) : Nat → List Nat
  | 0 => []
  | k + 1 => if p k then pickL p k ++ [k] else pickL p k
theorem pickL_mem {p : Nat → Bool} {k t : Nat} : t ∈ pickL p k ↔ t < k ∧ p t = true := by
  induction k with
  | zero => simp [pickL]
  | succ k ih =>
    rw [pickL]
    split
    · rename_i hp
      rw [List.mem_append, ih]
      constructor
      · rintro (⟨h1, h2⟩ | h)
        · exact ⟨by omega, h2⟩
        · obtain rfl : t = k := by simpa using h
          exact ⟨by omega, hp⟩
      · rintro ⟨h1, h2⟩
        by_cases e : t = k
        · subst e; simp
        · exact .inl ⟨by omega, h2⟩
    · rename_i hp
      rw [ih]
      constructor
      · rintro ⟨h1, h2⟩; exact ⟨by omega, h2⟩
      · rintro ⟨h1, h2⟩
        refine ⟨?_, h2⟩
        by_cases e : t = k
        · subst e; exact absurd h2 hp
        · omega
theorem pickL_length (p : Nat → Bool) (k : Nat) : (pickL p k).length ≤ k := by
  induction k with
  | zero => exact Nat.le_refl _
  | succ k ih =>
    rw [pickL]
    split
    · rw [List.length_append]; simp; omega
    · omega
theorem pickL_congr {p q : Nat → Bool} {k : Nat} (h : ∀ i, i < k → p i = q i) : pickL p k = pickL q k := by
  induction k with
  | zero => rfl
  | succ k ih => rw [pickL, pickL, h k (by omega), ih fun i hi => h i (by omega)]
theorem pickL_head {p : Nat → Bool} {k m : Nat} (hm : m < k) (hp : p m = true) (h : ∀ i, i < m → p i = false) : (pickL p k).headD 0 = m ∧ pickL p k ≠ [] := by
  induction k with
  | zero => omega
  | succ k ih =>
    rw [pickL]
    by_cases e : m = k
    · subst e
      have : pickL p m = [] := by
        rw [List.eq_nil_iff_forall_not_mem]
        intro t ht
        obtain ⟨h1, h2⟩ := pickL_mem.1 ht
        rw [h t h1] at h2; cases h2
      rw [this, if_pos hp]; simp
    · obtain ⟨h1, h2⟩ := ih (by omega)
      split
      · cases hl : pickL p k with
        | nil => exact absurd hl h2
        | cons a r => rw [hl] at h1; exact ⟨h1, by simp⟩
      · exact ⟨h1, h2⟩
/-- what a state's steps lead to, in order -/
noncomputable def stR (N : Net) (s : Nat) : List Nat := pickL (arB N s) (pw N.n)
/-- the least state of an attractor -/
noncomputable def leastB (N : Net) (s : Nat) : Bool := steadyB N s && allB (fun t => !arB N s t) s
theorem leastB_iff {N : Net} {s : Nat} : leastB N s = true ↔ steadyB N s = true ∧ ∀ t, t < s → arB N s t = false := by
  unfold leastB
  rw [Bool.and_eq_true, allB_iff]
  simp
theorem stR_head {N : Net} {s : Nat} (hs : s < pw N.n) (h : leastB N s = true) : (stR N s).headD 0 = s ∧ stR N s ≠ [] :=
  pickL_head hs (arB_refl N s) (leastB_iff.1 h).2
theorem stR_head_of {N : Net} {s : Nat} (hs : s < pw N.n) (h : steadyB N s = true) (hh : (stR N s).headD 0 = s) : leastB N s = true := by
  rw [leastB_iff]
  refine ⟨h, fun t ht => ?_⟩
  cases e : arB N s t with
  | false => rfl
  | true =>
    exfalso
    -- the first of all that are reached is not above t
    have key : ∀ k, t < k → ∃ m, m ≤ t ∧ (pickL (arB N s) k).headD 0 = m ∧ pickL (arB N s) k ≠ [] := by
      intro k
      induction k with
      | zero => intro h; omega
      | succ k ih =>
        intro hk
        rw [pickL]
        by_cases e2 : t = k
        · subst e2
          rw [e, if_pos rfl]
          cases hl : pickL (arB N s) t with
          | nil => exact ⟨t, Nat.le_refl _, rfl, by simp⟩
          | cons a r =>
            have : a ∈ pickL (arB N s) t := by rw [hl]; simp
            have := (pickL_mem.1 this).1
            exact ⟨a, by omega, rfl, by simp⟩
        · obtain ⟨m, h1, h2, h3⟩ := ih (by omega)
          split
          · cases hl : pickL (arB N s) k with
            | nil => exact absurd hl h3
            | cons a r => rw [hl] at h2; exact ⟨m, h1, h2, by simp⟩
          · exact ⟨m, h1, h2, h3⟩
    obtain ⟨m, h1, h2, _⟩ := key (pw N.n) (by omega)
    have h3 : (stR N s).headD 0 = m := h2
    omega
/-- the least states of the attractors, and the attractors -/
noncomputable def attS (N : Net) : List Nat := pickL (leastB N) (pw N.n)
noncomputable def attL (N : Net) : List (List Nat) := (attS N).map (stR N)
/-- has an attractor told before the state? -/
theorem done_iff {N : Net} {k : Nat} (hk : k < pw N.n) (hst : steadyB N k = true) : (∃ s, s < k ∧ leastB N s = true ∧ AR N s k) ↔ leastB N k = false := by
  constructor
  · rintro ⟨s, hs, hl, ha⟩
    cases e : leastB N k with
    | false => rfl
    | true =>
      have h1 := (leastB_iff.1 e).2 s hs
      have h2 := (steadyB_iff (by omega)).1 (leastB_iff.1 hl).1 k ha
      rw [arB_iff.2 h2] at h1; cases h1
  · intro h
    -- the least state that k leads to
    have hex : ∃ t, t < k ∧ AR N k t := by
      apply Classical.byContradiction
      intro hc
      have : leastB N k = true := leastB_iff.2 ⟨hst, fun t ht => by
        cases e : arB N k t with
        | false => rfl
        | true => exact absurd ⟨t, ht, arB_iff.1 e⟩ hc⟩
      rw [h] at this; cases this
    have hmin : ∀ n, ∀ t, t < n → AR N k t → ∃ m, AR N k m ∧ m ≤ t ∧ ∀ u, u < m → ¬ AR N k u := by
      intro n
      induction n with
      | zero => intro t h; omega
      | succ n ih =>
        intro t ht ha
        by_cases hc : ∃ u, u < t ∧ AR N k u
        · obtain ⟨u, hu, hau⟩ := hc
          obtain ⟨m, h1, h2, h3⟩ := ih u (by omega) hau
          exact ⟨m, h1, by omega, h3⟩
        · exact ⟨t, ha, Nat.le_refl _, fun u hu hau => hc ⟨u, hu, hau⟩⟩
    obtain ⟨t, ht, hat⟩ := hex
    obtain ⟨m, h1, h2, h3⟩ := hmin (t + 1) t (by omega) hat
    have hback := (steadyB_iff hk).1 hst
    have hmk := hback m h1
    refine ⟨m, by omega, leastB_iff.2 ⟨(steadyB_iff (by omega)).2 fun u hu => ?_, fun u hu => ?_⟩, hmk⟩
    · exact (hback u (h1.trans hu)).trans h1
    · cases e : arB N m u with
      | false => rfl
      | true => exact absurd (h1.trans (arB_iff.1 e)) (h3 u hu)
/-- single steps do not leave a trap -/
theorem trap_AR {N : Net} {p : Trm} (ht : trapP N p = true) {s t : Nat} (h : AR N s t) (hs : s < pw N.n) (hp : hasP N.n p s = true) : hasP N.n p t = true := by
  induction h with
  | refl => exact hp
  | @step a i t hi _ ih =>
    refine ih (setN_lt _ _ _ _ hs hi) ?_
    rw [hasP_iff] at hp ⊢
    intro j hj
    have h1 := (hasP_iff _ _ _).1 ((trapP_iff N p).1 ht a hs ((hasP_iff _ _ _).2 hp)) j hj
    rw [setN_testBit]
    by_cases e : j = i
    · subst e
      rw [stepN_testBit, decide_eq_true hj, Bool.true_and] at h1
      rw [if_pos rfl]; exact h1
    · rw [if_neg e]; exact hp j hj
/-- how many attractors lie in a trap -/
noncomputable def attIn (N : Net) (p : Trm) : Nat := ((attS N).filter fun s => hasP N.n p s).length
noncomputable def attI (w t : ByteArray) : Int := if termOk w t && trapP (netOf w) (ofT t) then (attIn (netOf w) (ofT t) : Nat) else -1
theorem att_all {N : Net} {p : Trm} (ht : trapP N p = true) {s : Nat} (hs : s < pw N.n) : ((stR N s).any fun u => !hasP N.n p u) = !hasP N.n p s := by
  rw [Bool.eq_iff_iff, List.any_eq_true]
  constructor
  · rintro ⟨u, hu, hn⟩
    have ha := arB_iff.1 (pickL_mem.1 hu).2
    cases e : hasP N.n p s with
    | false => rfl
    | true => rw [trap_AR ht ha hs e] at hn; cases hn
  · intro h
    exact ⟨s, pickL_mem.2 ⟨hs, arB_refl N s⟩, h⟩
end Go.Sw

namespace Go.Sw
open Go

def unmN (n : Nat) (S : Nat → Bool) : Nat := (pickL (fun i => !S i) n).length
theorem unm_put {n u : Nat} {S : Nat → Bool} (hu : u < n) (h : S u = false) : unmN n (fun j => j == u || S j) + 1 = unmN n S := by
  unfold unmN
  have key : ∀ k, (pickL (fun i => !(i == u || S i)) k).length + (if u < k then 1 else 0) = (pickL (fun i => !S i) k).length := by
    intro k
    induction k with
    | zero => simp [pickL]
    | succ k ih =>
      rw [pickL, pickL]
      by_cases e : k = u
      · subst e
        have a1 : ¬ k < k := by omega
        have a2 : k < k + 1 := by omega
        have a3 : ¬ (!(k == k || S k)) = true := by simp
        have a4 : (!S k) = true := by simp [h]
        rw [if_neg a1] at ih
        rw [if_neg a3, if_pos a4, if_pos a2, List.length_append, List.length_singleton]
        omega
      · have e2 : (k == u || S k) = S k := by simp [e]
        rw [e2]
        have e3 : (if u < k + 1 then 1 else 0) = if u < k then 1 else 0 := by
          by_cases hlt : u < k
          · have a1 : u < k + 1 := by omega
            rw [if_pos hlt, if_pos a1]
          · have a1 : ¬ u < k + 1 := by omega
            rw [if_neg hlt, if_neg a1]
        rw [e3]
        by_cases hk : (!S k) = true
        · rw [if_pos hk, if_pos hk, List.length_append, List.length_append, List.length_singleton]; omega
        · rw [if_neg hk, if_neg hk]; exact ih
  have := key n
  rw [if_pos hu] at this
  exact this
theorem unm_le (n : Nat) (S : Nat → Bool) : unmN n S ≤ n := pickL_length _ _
/-- the set holds the start, only what steps lead to, all that is on the stack; what is not on the stack has its next ones in it, but for one state x, whose first m next ones are -/
structure RInv (N : Net) (s : Nat) (S : Nat → Bool) (L : List Nat) (x : Option (Nat × Nat)) : Prop where
  start : S s = true
  only : ∀ i, S i = true → i < pw N.n ∧ AR N s i
  stack : ∀ i ∈ L, S i = true
  done : ∀ i, S i = true → i ∉ L → (∀ m, x ≠ some (i, m)) → ∀ j ∈ nextL N i, S j = true
  part : ∀ t m, x = some (t, m) → S t = true ∧ ∀ k (h : k < (nextL N t).length), k < m → S (nextL N t)[k] = true
theorem RInv.init {N : Net} {s : Nat} (hs : s < pw N.n) : RInv N s (fun j => j == s || false) [s] none :=
  ⟨by simp, fun i hi => by
    have : i = s := by simpa using hi
    subst this; exact ⟨hs, .refl _⟩, fun i hi => by simpa using hi, fun i hi hn => by
    have : i = s := by simpa using hi
    subst this; simp at hn, fun t m h => by cases h⟩
theorem RInv.pop {N : Net} {s t : Nat} {S : Nat → Bool} {L : List Nat} (h : RInv N s S (L ++ [t]) none) : RInv N s S L (some (t, 0)) :=
  ⟨h.start, h.only, fun i hi => h.stack i (by simp [hi]), fun i hi hn hx => by
    by_cases e : i = t
    · subst e; exact absurd rfl (hx 0)
    · exact h.done i hi (by simp [hn, e]) (fun m => by simp), fun t' m e => by
    cases e; exact ⟨h.stack t (by simp), fun k hk hm => by omega⟩⟩
theorem RInv.skip {N : Net} {s t m : Nat} {S : Nat → Bool} {L : List Nat} (h : RInv N s S L (some (t, m))) (hm : m < (nextL N t).length) (hu : S (nextL N t)[m] = true) : RInv N s S L (some (t, m + 1)) :=
  ⟨h.start, h.only, h.stack, fun i hi hn hx => h.done i hi hn fun m' e => by
    cases e; exact hx (m + 1) rfl, fun t' m' e => by
    cases e
    refine ⟨(h.part t m rfl).1, fun k hk hkm => ?_⟩
    by_cases e : k = m
    · subst e; exact hu
    · exact (h.part t m rfl).2 k hk (by omega)⟩
theorem RInv.push {N : Net} {s t m : Nat} {S : Nat → Bool} {L : List Nat} (h : RInv N s S L (some (t, m))) (hm : m < (nextL N t).length) : RInv N s (fun j => j == (nextL N t)[m] || S j) (L ++ [(nextL N t)[m]]) (some (t, m + 1)) := by
  have ht := (h.part t m rfl).1
  have hu : (nextL N t)[m] ∈ nextL N t := List.getElem_mem hm
  refine ⟨by simp [h.start], fun i hi => ?_, fun i hi => ?_, fun i hi hn hx j hj => ?_, fun t' m' e => ?_⟩
  · rcases Bool.or_eq_true .. |>.mp hi with e | e
    · have : i = (nextL N t)[m] := by simpa using e
      subst this
      obtain ⟨h1, h2⟩ := h.only t ht
      exact ⟨nextL_lt h1 hu, h2.snoc hu⟩
    · exact h.only i e
  · rcases List.mem_append.1 hi with e | e
    · simp [h.stack i e]
    · have : i = (nextL N t)[m] := by simpa using e
      simp [this]
  · have hni : i ≠ (nextL N t)[m] := fun e => hn (by simp [e])
    have hSi : S i = true := by simpa [hni] using hi
    have := h.done i hSi (fun hm2 => hn (by simp [hm2])) (fun m' e => by cases e; exact hx (m + 1) rfl) j hj
    simp [this]
  · cases e
    refine ⟨by simp [ht], fun k hk hkm => ?_⟩
    by_cases e : k = m
    · subst e; simp
    · simp [(h.part t m rfl).2 k hk (by omega)]
theorem RInv.close {N : Net} {s t m : Nat} {S : Nat → Bool} {L : List Nat} (h : RInv N s S L (some (t, m))) (hm : (nextL N t).length ≤ m) : RInv N s S L none :=
  ⟨h.start, h.only, h.stack, fun i hi hn _ => by
    by_cases e : i = t
    · subst e
      intro j hj
      obtain ⟨k, hk, rfl⟩ := List.getElem_of_mem hj
      exact (h.part i m rfl).2 k hk (by omega)
    · exact h.done i hi hn fun m' e2 => by cases e2; exact e rfl, fun t' m' e => by cases e⟩
theorem RInv.end' {N : Net} {s : Nat} {S : Nat → Bool} (h : RInv N s S [] none) : ∀ i, S i = arB N s i := by
  intro i
  rw [Bool.eq_iff_iff, arB_iff]
  exact ⟨fun hi => (h.only i hi).2, fun ha => ha.closed (S := fun i => S i = true) h.start fun a b ha hb => h.done a ha (by simp) (fun m => by simp) b hb⟩
end Go.Sw

namespace Go.Sw
open Go

/-- how many switches a set has -/
def onesN (s : Nat) : Nat := (s.testBit 0).toNat + (s.testBit 1).toNat + (s.testBit 2).toNat + (s.testBit 3).toNat + (s.testBit 4).toNat
theorem onesN_le (s : Nat) : onesN s ≤ 5 := by
  unfold onesN
  cases s.testBit 0 <;> cases s.testBit 1 <;> cases s.testBit 2 <;> cases s.testBit 3 <;> cases s.testBit 4 <;> decide
/-- a circuit of the sign that a set does not meet -/
def missB (N : Net) (sign : ByteArray) (set : Nat) (c : List Nat) : Bool := isC (circC N c) sign && (setL c &&& set) == 0
def brB (N : Net) (sign : ByteArray) (set : Nat) : Bool := !(circL N).any (missB N sign set)
theorem meet_zero (c : List Nat) (set : Nat) : ((setL c &&& set) == 0) = !c.any fun k => set.testBit k := by
  rw [Bool.eq_iff_iff, beq_iff_eq, Bool.not_eq_true', List.any_eq_false]
  constructor
  · intro h k hk
    have h2 := congrArg (fun x => x.testBit k) h
    simp only [Nat.testBit_and, setL_bit, Nat.zero_testBit] at h2
    rw [List.contains_eq_mem, decide_eq_true hk, Bool.true_and] at h2
    rw [h2]; decide
  · intro h
    apply Nat.eq_of_testBit_eq
    intro k
    rw [Nat.testBit_and, setL_bit, Nat.zero_testBit, List.contains_eq_mem]
    by_cases hk : k ∈ c
    · have := h k hk
      rw [decide_eq_true hk, Bool.true_and]
      simpa using this
    · rw [decide_eq_false hk, Bool.false_and]
theorem br_all {N : Net} (sign : ByteArray) : brB N sign (pw N.n - 1) = true := by
  unfold brB
  rw [Bool.not_eq_true', List.any_eq_false]
  intro c hc
  obtain ⟨hw, _⟩ := circ_sound hc
  have : (c.any fun k => (pw N.n - 1).testBit k) = true := by
    rw [List.any_eq_true]
    refine ⟨headN c, ?_, by rw [pw_testBit]; exact decide_eq_true hw.head⟩
    cases c with
    | nil => exact absurd rfl hw.1
    | cons a r => exact List.mem_cons_self ..
  unfold missB
  rw [meet_zero, this]; simp
/-- a is no worse than b -/
def noWorse (a b : Nat) : Prop := onesN a < onesN b ∨ (onesN a = onesN b ∧ a ≤ b)
theorem noWorse.refl (a : Nat) : noWorse a a := .inr ⟨rfl, Nat.le_refl _⟩
theorem noWorse.trans {a b c : Nat} (h : noWorse a b) (k : noWorse b c) : noWorse a c := by
  unfold noWorse at *; omega
theorem noWorse.antisymm {a b : Nat} (h : noWorse a b) (k : noWorse b a) : a = b := by
  unfold noWorse at *; omega
/-- the best of the sets below k, as the program finds it -/
def bestTo (N : Net) (sign : ByteArray) : Nat → Nat
  | 0 => pw N.n - 1
  | k + 1 => if decide (onesN (bestTo N sign k) ≤ onesN k) || !brB N sign k then bestTo N sign k else k
theorem bestTo_lt (N : Net) (sign : ByteArray) (k : Nat) (hk : k ≤ pw N.n) : bestTo N sign k < pw N.n := by
  have hp : 0 < pw N.n := Nat.two_pow_pos _
  induction k with
  | zero => rw [bestTo]; omega
  | succ k ih =>
    rw [bestTo]
    split
    · exact ih (by omega)
    · omega
theorem bestTo_br (N : Net) (sign : ByteArray) (k : Nat) : brB N sign (bestTo N sign k) = true := by
  induction k with
  | zero => exact br_all sign
  | succ k ih =>
    rw [bestTo]
    split
    · exact ih
    · rename_i h
      rw [Bool.or_eq_true, not_or] at h
      simpa using h.2
theorem ones_all : ∀ n, n < 6 → ∀ s, s < 32 → s < pw n → onesN s = onesN (pw n - 1) → s = pw n - 1 := by decide +kernel
theorem bestTo_best (N : Net) (hn : N.n ≤ 5) (sign : ByteArray) (k : Nat) : (bestTo N sign k = pw N.n - 1 ∨ bestTo N sign k < k) ∧ ∀ s, s < k → s ≤ pw N.n - 1 → brB N sign s = true → noWorse (bestTo N sign k) s := by
  induction k with
  | zero => exact ⟨.inl rfl, fun s h => by omega⟩
  | succ k ih =>
    obtain ⟨i1, i2⟩ := ih
    rw [bestTo]
    split
    · rename_i h
      rw [Bool.or_eq_true, decide_eq_true_eq, Bool.not_eq_true'] at h
      refine ⟨by omega, fun s hs hsn hb => ?_⟩
      by_cases e : s = k
      · subst e
        rcases h with h | h
        · unfold noWorse
          rcases i1 with i1 | i1
          · by_cases h2 : onesN (bestTo N sign s) = onesN s
            · by_cases h3 : s = bestTo N sign s
              · right; omega
              · right
                have hp := pw_le hn
                have := ones_all N.n (by omega) s (by omega) (by omega) (by rw [← i1]; exact h2.symm)
                exact absurd (this.trans i1.symm) h3
            · omega
          · omega
        · rw [hb] at h; cases h
      · exact i2 s (by omega) hsn hb
    · rename_i h
      rw [Bool.or_eq_true, decide_eq_true_eq, not_or] at h
      refine ⟨.inr (by omega), fun s hs hsn hb => ?_⟩
      by_cases e : s = k
      · subst e; exact .refl _
      · have := i2 s (by omega) hsn hb
        unfold noWorse at *
        omega
theorem bestTo_end {N : Net} (hn : N.n ≤ 5) (sign : ByteArray) {b : Nat} (hb : brB N sign b = true) (hlt : b < pw N.n) (h : ∀ s, s < pw N.n → brB N sign s = true → noWorse b s) : b = bestTo N sign (pw N.n) := by
  obtain ⟨_, h2⟩ := bestTo_best N hn sign (pw N.n)
  exact (h _ (bestTo_lt N sign _ (Nat.le_refl _)) (bestTo_br N sign _)).antisymm (h2 b hlt (by omega) hb)
/-- what BreakingSet says -/
def breakI (w sign : ByteArray) : Int := if netOk w && plusB sign then (bestTo (netOf w) sign (pw (netOf w).n) : Nat) else -1
theorem breakI_no {w sign : ByteArray} (h : netOk w = false ∨ plusB sign = false) : breakI w sign = -1 := by
  unfold breakI
  rcases h with h | h <;> rw [h] <;> simp
end Go.Sw

namespace Go.Sw
open Go

theorem iterN_mono {N : Net} (h : monoN N = true) (k : Nat) {s t : Nat} (ht : t < pw N.n) (hle : leB s t = true) : leB (iterN N k s) (iterN N k t) = true := by
  induction k generalizing s t with
  | zero => exact hle
  | succ k ih => exact ih (stepN_lt N t) (step_mono h ht hle)
theorem lim_lt {N : Net} {s : Nat} (h : s < pw N.n) : limN N s < pw N.n := iterN_lt N 32 s h
theorem lim_same {N : Net} {s : Nat} (h : stepN N s = s) : limN N s = s := iterN_fix N 32 s h
theorem rise_up {N : Net} (h : monoN N = true) {s : Nat} (hs : riseP N s) (k : Nat) : leB s (iterN N k s) = true := by
  induction k with
  | zero => exact leB_refl s
  | succ k ih =>
    rw [iterN_succ]
    exact leB_trans hs.2 (step_mono h (iterN_lt N k s hs.1) ih)
theorem fall_down {N : Net} (h : monoN N = true) {s : Nat} (hs : fallP N s) (k : Nat) : leB (iterN N k s) s = true := by
  induction k with
  | zero => exact leB_refl s
  | succ k ih =>
    rw [iterN_succ]
    exact leB_trans (step_mono h hs.1 ih) hs.2
theorem lim_le {N : Net} (h : monoN N = true) {s p : Nat} (hp : p < pw N.n) (hf : stepN N p = p) (hle : leB s p = true) : leB (limN N s) p = true := by
  have := iterN_mono h 32 hp hle
  rw [iterN_fix N 32 p hf] at this
  exact this
theorem le_lim {N : Net} (h : monoN N = true) {s p : Nat} (hs : s < pw N.n) (hf : stepN N p = p) (hle : leB p s = true) : leB p (limN N s) = true := by
  have := iterN_mono h 32 hs hle
  rw [iterN_fix N 32 p hf] at this
  exact this
theorem leB_or_left (s t : Nat) : leB s (s ||| t) = true := (leB_iff _ _).2 fun i hi => by rw [Nat.testBit_or, hi]; rfl
theorem leB_or_right (s t : Nat) : leB t (s ||| t) = true := (leB_iff _ _).2 fun i hi => by rw [Nat.testBit_or, hi, Bool.or_true]
theorem leB_and_left (s t : Nat) : leB (s &&& t) s = true := (leB_iff _ _).2 fun i hi => by rw [Nat.testBit_and, Bool.and_eq_true] at hi; exact hi.1
theorem leB_and_right (s t : Nat) : leB (s &&& t) t = true := (leB_iff _ _).2 fun i hi => by rw [Nat.testBit_and, Bool.and_eq_true] at hi; exact hi.2
theorem leB_or {s t p : Nat} (h1 : leB s p = true) (h2 : leB t p = true) : leB (s ||| t) p = true := (leB_iff _ _).2 fun i hi => by
  rw [Nat.testBit_or, Bool.or_eq_true] at hi
  exact hi.elim ((leB_iff _ _).1 h1 i) ((leB_iff _ _).1 h2 i)
theorem leB_and {s t p : Nat} (h1 : leB p s = true) (h2 : leB p t = true) : leB p (s &&& t) = true := (leB_iff _ _).2 fun i hi => by
  rw [Nat.testBit_and, (leB_iff _ _).1 h1 i hi, (leB_iff _ _).1 h2 i hi]; rfl
theorem or_of_le {s t : Nat} (h : leB t s = true) : s ||| t = s := leB_antisymm (leB_or (leB_refl s) h) (leB_or_left s t)
theorem and_of_le {s t : Nat} (h : leB s t = true) : s &&& t = s := leB_antisymm (leB_and_left s t) (leB_and (leB_refl s) h)
theorem or_rise {N : Net} (h : monoN N = true) {s t : Nat} (hs : s < pw N.n) (ht : t < pw N.n) (fs : stepN N s = s) (ft : stepN N t = t) : riseP N (s ||| t) := by
  have hl := Nat.or_lt_two_pow hs ht
  refine ⟨hl, leB_or ?_ ?_⟩
  · have := step_mono h hl (leB_or_left s t); rwa [fs] at this
  · have := step_mono h hl (leB_or_right s t); rwa [ft] at this
theorem and_fall {N : Net} (h : monoN N = true) {s t : Nat} (hs : s < pw N.n) (ht : t < pw N.n) (fs : stepN N s = s) (ft : stepN N t = t) : fallP N (s &&& t) := by
  refine ⟨Nat.lt_of_le_of_lt Nat.and_le_left hs, leB_and ?_ ?_⟩
  · have := step_mono h hs (leB_and_left s t); rwa [fs] at this
  · have := step_mono h ht (leB_and_right s t); rwa [ft] at this
/-- two fixed points: what both answers are -/
theorem both_yes {w : ByteArray} {x y : Int} (h : bothB w x y = true) : netOk w = true ∧ ∃ s t : Nat, x = s ∧ y = t ∧ s < pw (netOf w).n ∧ t < pw (netOf w).n ∧ stepN (netOf w) s = s ∧ stepN (netOf w) t = t := by
  unfold bothB at h
  rw [Bool.and_eq_true, beq_iff_eq, beq_iff_eq] at h
  have one : ∀ z : Int, restI w z = 0 → netOk w = true ∧ ∃ s : Nat, z = s ∧ s < pw (netOf w).n ∧ stepN (netOf w) s = s := fun z hz => by
    have h1 := rest_zero hz
    obtain ⟨h2, h3, h4⟩ := stB_yes h1
    obtain ⟨s, rfl⟩ := Int.eq_ofNat_of_zero_le h3
    refine ⟨h2, s, rfl, by omega, ?_⟩
    unfold restI at hz
    rw [h1, if_pos rfl] at hz
    have hx : stepN (netOf w) s ^^^ s = 0 := by
      have : ((stepN (netOf w) (s : Int).toNat ^^^ (s : Int).toNat : Nat) : Int) = 0 := hz
      rw [Int.toNat_natCast] at this; omega
    apply Nat.eq_of_testBit_eq
    intro i
    have h0 := congrArg (fun z => z.testBit i) hx
    simp only [Nat.testBit_xor, Nat.zero_testBit] at h0
    revert h0
    cases (stepN (netOf w) s).testBit i <;> cases s.testBit i <;> simp
  obtain ⟨h1, s, e1, e2, e3⟩ := one x h.1
  obtain ⟨_, t, e4, e5, e6⟩ := one y h.2
  exact ⟨h1, s, t, e1, e4, e2, e5, e3, e6⟩
theorem stB_nat {w : ByteArray} (h : netOk w = true) {s : Nat} (hs : s < pw (netOf w).n) : stB w (s : Int) = true := by
  unfold stB
  rw [h, Bool.true_and, decide_eq_true (by omega), decide_eq_true (by omega)]; rfl
theorem riseB_nat {w : ByteArray} (h : netOk w = true) {s : Nat} (hr : riseP (netOf w) s) : riseB w (s : Int) = true := by
  unfold riseB
  rw [stB_nat h hr.1, Bool.true_and, Int.toNat_natCast]; exact hr.2
theorem fallB_nat {w : ByteArray} (h : netOk w = true) {s : Nat} (hr : fallP (netOf w) s) : fallB w (s : Int) = true := by
  unfold fallB
  rw [stB_nat h hr.1, Bool.true_and, Int.toNat_natCast]; exact hr.2
theorem riseI_nat {w : ByteArray} (h : netOk w = true) (hm : monoN (netOf w) = true) {s : Nat} (hr : riseP (netOf w) s) : riseI w (s : Int) = ((limN (netOf w) s : Nat) : Int) := by
  unfold riseI monoB
  rw [h, hm, riseB_nat h hr, Int.toNat_natCast]; rfl
theorem fallI_nat {w : ByteArray} (h : netOk w = true) (hm : monoN (netOf w) = true) {s : Nat} (hr : fallP (netOf w) s) : fallI w (s : Int) = ((limN (netOf w) s : Nat) : Int) := by
  unfold fallI monoB
  rw [h, hm, fallB_nat h hr, Int.toNat_natCast]; rfl
theorem bothB_nat {w : ByteArray} (h : netOk w = true) {s t : Nat} (hs : s < pw (netOf w).n) (ht : t < pw (netOf w).n) (fs : stepN (netOf w) s = s) (ft : stepN (netOf w) t = t) : bothB w (s : Int) (t : Int) = true := by
  unfold bothB restI
  rw [stB_nat h hs, stB_nat h ht]
  simp [fs, ft]
theorem joinI_nat {w : ByteArray} (h : netOk w = true) (hm : monoN (netOf w) = true) {s t : Nat} (hs : s < pw (netOf w).n) (ht : t < pw (netOf w).n) (fs : stepN (netOf w) s = s) (ft : stepN (netOf w) t = t) : joinI w (s : Int) (t : Int) = ((limN (netOf w) (s ||| t) : Nat) : Int) := by
  unfold joinI
  rw [bothB_nat h hs ht fs ft, if_pos rfl, Int.toNat_natCast, Int.toNat_natCast]
  exact riseI_nat h hm (or_rise hm hs ht fs ft)
theorem meetI_nat {w : ByteArray} (h : netOk w = true) (hm : monoN (netOf w) = true) {s t : Nat} (hs : s < pw (netOf w).n) (ht : t < pw (netOf w).n) (fs : stepN (netOf w) s = s) (ft : stepN (netOf w) t = t) : meetI w (s : Int) (t : Int) = ((limN (netOf w) (s &&& t) : Nat) : Int) := by
  unfold meetI
  rw [bothB_nat h hs ht fs ft, if_pos rfl, Int.toNat_natCast, Int.toNat_natCast]
  exact fallI_nat h hm (and_fall hm hs ht fs ft)
/-- either there are two fixed points of a monotone network, or both answers are -1 -/
theorem join_cases (w : ByteArray) (x y : Int) : (joinI w x y = -1 ∧ meetI w x y = -1) ∨
    (netOk w = true ∧ monoN (netOf w) = true ∧ ∃ s t : Nat, x = s ∧ y = t ∧ s < pw (netOf w).n ∧ t < pw (netOf w).n ∧ stepN (netOf w) s = s ∧ stepN (netOf w) t = t) := by
  cases hb : bothB w x y
  · left; unfold joinI meetI; rw [hb]; exact ⟨rfl, rfl⟩
  · obtain ⟨h1, h2⟩ := both_yes hb
    cases hm : monoN (netOf w)
    · left
      unfold joinI meetI riseI fallI monoB
      rw [hb, hm, Bool.and_false, Bool.false_and, Bool.false_and]; exact ⟨rfl, rfl⟩
    · exact .inr ⟨h1, rfl, h2⟩
/-- the laws of join and meet -/
structure JM (N : Net) (s t j m : Nat) : Prop where
  jlt : j < pw N.n
  mlt : m < pw N.n
  jf : stepN N j = j
  mf : stepN N m = m
  up : leB (s ||| t) j = true
  down : leB m (s &&& t) = true
  least : ∀ p, p < pw N.n → stepN N p = p → leB (s ||| t) p = true → leB j p = true
  great : ∀ p, p < pw N.n → stepN N p = p → leB p (s &&& t) = true → leB p m = true
  sm : limN N (s ||| m) = s
  sj : limN N (s &&& j) = s
  ts : limN N (t ||| s) = j
theorem join_meet {N : Net} (h : monoN N = true) (h5 : N.n ≤ 5) {s t : Nat} (hs : s < pw N.n) (ht : t < pw N.n) (fs : stepN N s = s) (ft : stepN N t = t) : JM N s t (limN N (s ||| t)) (limN N (s &&& t)) := by
  have hr := or_rise h hs ht fs ft
  have hf := and_fall h hs ht fs ft
  have up : leB (s ||| t) (limN N (s ||| t)) = true := rise_up h hr 32
  have down : leB (limN N (s &&& t)) (s &&& t) = true := fall_down h hf 32
  refine ⟨lim_lt hr.1, lim_lt hf.1, (rise_rest h h5 hr).2, (fall_rest h h5 hf).2, up, down, fun p hp hpf hle => lim_le h hp hpf hle, fun p hp hpf hle => le_lim h hf.1 hpf hle, ?_, ?_, ?_⟩
  · rw [or_of_le (leB_trans down (leB_and_left s t)), lim_same fs]
  · rw [and_of_le (leB_trans (leB_or_left s t) up), lim_same fs]
  · rw [Nat.or_comm]
end Go.Sw

namespace Go.Sw
open Go

/-- the first p states from s are unlike, the next is the i-th again -/
structure Orb (N : Net) (s p i : Nat) : Prop where
  lt : i < p
  le : p ≤ 32
  back : iterN N p s = iterN N i s
  unlike : ∀ a b, a < b → b < p → iterN N a s ≠ iterN N b s
/-- the first k states from s -/
def orbL (N : Net) (s k : Nat) : List Nat := (List.range k).map fun a => iterN N a s
theorem orbL_length (N : Net) (s k : Nat) : (orbL N s k).length = k := by simp [orbL]
theorem orbL_succ (N : Net) (s k : Nat) : orbL N s (k + 1) = orbL N s k ++ [iterN N k s] := by simp [orbL, List.range_succ]
theorem orbL_get (N : Net) (s k a : Nat) (h : a < k) : (orbL N s k)[a]'(by rw [orbL_length]; exact h) = iterN N a s := by simp [orbL]
def unlikeP (N : Net) (s k : Nat) : Prop := ∀ a b, a < b → b < k → iterN N a s ≠ iterN N b s
theorem orbL_nodup {N : Net} {s k : Nat} (h : unlikeP N s k) : (orbL N s k).Nodup := by
  rw [List.nodup_iff_pairwise_ne, List.pairwise_iff_getElem]
  intro a b ha hb hab
  rw [orbL_length] at ha hb
  rw [orbL_get N s k a ha, orbL_get N s k b hb]
  exact h a b hab hb
theorem unlike_le {N : Net} {s k : Nat} (hs : s < pw N.n) (h : unlikeP N s k) : k ≤ pw N.n := by
  have := nodup_length (orbL_nodup h) (n := pw N.n) fun x hx => by
    unfold orbL at hx
    obtain ⟨a, _, rfl⟩ := List.mem_map.1 hx
    exact iterN_lt N a s hs
  rwa [orbL_length] at this
/-- the place of a state among the first k, counted from 1, or 0 -/
def placeN (N : Net) (s : Nat) : Nat → Nat → Nat
  | 0, _ => 0
  | k + 1, x => if iterN N k s = x then k + 1 else placeN N s k x
theorem place_zero {N : Net} {s k x : Nat} : placeN N s k x = 0 ↔ ∀ a, a < k → iterN N a s ≠ x := by
  induction k with
  | zero => exact ⟨fun _ a h => absurd h (Nat.not_lt_zero _), fun _ => rfl⟩
  | succ k ih =>
    rw [placeN]
    split
    · rename_i e
      exact ⟨fun h => by omega, fun h => absurd e (h k (Nat.lt_succ_self k))⟩
    · rename_i e
      rw [ih]
      constructor
      · intro h a ha
        by_cases e2 : a = k
        · subst e2; exact e
        · exact h a (by omega)
      · exact fun h a ha => h a (by omega)
theorem place_pos {N : Net} {s k x : Nat} (h : placeN N s k x ≠ 0) : ∃ a, a < k ∧ iterN N a s = x ∧ placeN N s k x = a + 1 := by
  induction k with
  | zero => exact absurd rfl h
  | succ k ih =>
    rw [placeN] at h ⊢
    split
    · rename_i e; exact ⟨k, Nat.lt_succ_self k, e, rfl⟩
    · rename_i e
      rw [if_neg e] at h
      obtain ⟨a, h1, h2, h3⟩ := ih h
      exact ⟨a, by omega, h2, h3⟩
theorem place_le {N : Net} {s k x : Nat} : placeN N s k x ≤ k := by
  by_cases e : placeN N s k x = 0
  · omega
  · obtain ⟨a, h1, _, h3⟩ := place_pos e; omega
theorem unlike_succ {N : Net} {s k : Nat} (h : unlikeP N s k) (hz : placeN N s k (iterN N k s) = 0) : unlikeP N s (k + 1) := fun a b hab hb => by
  by_cases e : b = k
  · subst e; exact place_zero.1 hz a hab
  · exact h a b hab (by omega)
theorem orb_end {N : Net} {s k : Nat} (hs : s < pw N.n) (h5 : N.n ≤ 5) (h : unlikeP N s k) (hz : placeN N s k (iterN N k s) ≠ 0) : ∃ i, placeN N s k (iterN N k s) = i + 1 ∧ Orb N s k i := by
  obtain ⟨a, h1, h2, h3⟩ := place_pos hz
  exact ⟨a, h3, h1, Nat.le_trans (unlike_le hs h) (pw_le h5).2, h2.symm, h⟩
/-- states of the cycle to which s leads -/
def CycW (N : Net) (s : Nat) (L : List Nat) : Prop := 0 < L.length ∧ L.length ≤ 32 ∧ L.Nodup ∧ ∀ x ∈ L, ∃ a q, x = iterN N a s ∧ 1 ≤ q ∧ iterN N q x = x
/-- the part of the orbit that comes again -/
def cycL (N : Net) (s p i : Nat) : List Nat := (orbL N s p).drop i
theorem orb_cyc {N : Net} {s p i : Nat} (h : Orb N s p i) : CycW N s (cycL N s p i) := by
  have hl := h.lt
  have hle := h.le
  unfold cycL
  refine ⟨by rw [List.length_drop, orbL_length]; omega, by rw [List.length_drop, orbL_length]; omega, (orbL_nodup h.unlike).sublist (List.drop_sublist _ _), fun x hx => ?_⟩
  obtain ⟨j, hj, rfl⟩ := List.getElem_of_mem hx
  rw [List.length_drop, orbL_length] at hj
  rw [List.getElem_drop, orbL_get N s p (i + j) (by omega)]
  refine ⟨i + j, p - i, rfl, by omega, ?_⟩
  rw [← iterN_add, show p - i + (i + j) = j + p by omega, iterN_add, h.back, ← iterN_add, Nat.add_comm]
theorem CycW.turn {N : Net} {s k : Nat} {L : List Nat} (h : CycW N s L) : CycW N s (L.drop k ++ L.take k) := by
  obtain ⟨h1, h2, h3, h4⟩ := h
  have hp : (L.drop k ++ L.take k).Perm L := (List.perm_append_comm).trans (by rw [List.take_append_drop])
  refine ⟨by rw [hp.length_eq]; exact h1, by rw [hp.length_eq]; exact h2, hp.nodup_iff.2 h3, fun x hx => h4 x (hp.mem_iff.1 hx)⟩
theorem CycW.lt {N : Net} {s : Nat} {L : List Nat} (h : CycW N s L) (hs : s < pw N.n) {x : Nat} (hx : x ∈ L) : x < pw N.n := by
  obtain ⟨a, _, rfl, _⟩ := h.2.2.2 x hx
  exact iterN_lt N a s hs
theorem iter_mul {N : Net} {x q : Nat} (h : iterN N q x = x) (m : Nat) : iterN N (m * q) x = x := by
  induction m with
  | zero => rw [Nat.zero_mul]; rfl
  | succ m ih => rw [Nat.succ_mul, iterN_add, h, ih]
theorem iter_late {N : Net} {s k : Nat} (hr : restP N 32 s) (hk : 32 ≤ k) : iterN N k s = limN N s := by
  unfold limN
  rw [show k = (k - 32) + 32 by omega, iterN_add]
  exact iterN_fix N _ _ hr.2
/-- of a state that comes to rest the cycle is where it comes to rest -/
theorem cyc_rest {N : Net} {s : Nat} {L : List Nat} (h : CycW N s L) (hr : restP N 32 s) : L = [limN N s] := by
  obtain ⟨h1, _, h3, h4⟩ := h
  have hall : ∀ x ∈ L, x = limN N s := fun x hx => by
    obtain ⟨a, q, e, hq, hx2⟩ := h4 x hx
    have h5 := iter_mul hx2 32
    rw [e, ← iterN_add, iter_late hr (by have : 32 * 1 ≤ 32 * q := Nat.mul_le_mul_left _ hq; omega)] at h5
    rw [e]; exact h5.symm
  match L, h1, h3, hall with
  | [x], _, _, hall => rw [hall x (by simp)]
  | x :: y :: r, _, h3, hall =>
    exfalso
    have e1 := hall x (by simp)
    have e2 := hall y (by simp)
    rw [List.nodup_cons] at h3
    exact h3.1 (by rw [e1, e2]; simp)
/-- the least and the greatest fixed point of a monotone network -/
theorem low_rise {N : Net} : riseP N 0 := ⟨Nat.two_pow_pos _, (leB_iff _ _).2 fun i hi => by rw [Nat.zero_testBit] at hi; exact absurd hi (by decide)⟩
theorem leB_top {n s : Nat} (h : s < pw n) : leB s (pw n - 1) = true := (leB_iff _ _).2 fun i hi => by
  have hin : i < n := by
    apply Classical.byContradiction
    intro hn
    have : s.testBit i = false := Nat.testBit_lt_two_pow (Nat.lt_of_lt_of_le h (Nat.pow_le_pow_right (by decide) (by omega)))
    rw [this] at hi; exact absurd hi (by decide)
  unfold pw
  rw [Nat.testBit_two_pow_sub_one, decide_eq_true hin]
theorem top_fall {N : Net} : fallP N (pw N.n - 1) := ⟨by have : 0 < pw N.n := Nat.two_pow_pos _; omega, leB_top (stepN_lt N _)⟩
theorem leB_zero (s : Nat) : leB 0 s = true := (leB_iff _ _).2 fun i hi => by rw [Nat.zero_testBit] at hi; exact absurd hi (by decide)
theorem cyc_between {N : Net} (h : monoN N = true) (h5 : N.n ≤ 5) {x q : Nat} (hx : x < pw N.n) (hq : 1 ≤ q) (hb : iterN N q x = x) : leB (limN N 0) x = true ∧ leB x (limN N (pw N.n - 1)) = true := by
  have hm := iter_mul hb 32
  have hge : 32 ≤ 32 * q := by have : 32 * 1 ≤ 32 * q := Nat.mul_le_mul_left _ hq; omega
  have h1 := iterN_mono h (32 * q) hx (leB_zero x)
  have ht : pw N.n - 1 < pw N.n := (top_fall (N := N)).1
  have h2 := iterN_mono h (32 * q) ht (leB_top hx)
  rw [hm, iter_late (rise_rest h h5 low_rise) hge] at h1
  rw [hm, iter_late (fall_rest h h5 top_fall) hge] at h2
  exact ⟨h1, h2⟩
/-- single steps lead a state that rises to where it comes to rest -/
theorem setN_up {N : Net} (h : monoN N = true) {s i : Nat} (hs : riseP N s) (hi : i < N.n) (h0 : s.testBit i = false) (h1 : N.f i s = true) : riseP N (setN s i true) ∧ leB (setN s i true) (stepN N s) = true ∧ s < setN s i true := by
  have hbit : ∀ j, (setN s i true).testBit j = if j = i then true else s.testBit j := fun j => by
    rw [setN_testBit]
  have hlt : setN s i true < pw N.n := setN_lt s i N.n true hs.1 hi
  have hle : leB s (setN s i true) = true := (leB_iff _ _).2 fun j hj => by
    rw [hbit]; split
    · rfl
    · exact hj
  have hup : leB (setN s i true) (stepN N s) = true := (leB_iff _ _).2 fun j hj => by
    rw [hbit] at hj
    split at hj
    · rename_i e; rw [e, stepN_testBit, decide_eq_true hi, h1]; rfl
    · exact (leB_iff _ _).1 hs.2 j hj
  refine ⟨⟨hlt, leB_trans hup (step_mono h hlt hle)⟩, hup, ?_⟩
  have h3 := leB_le hle
  have h4 : s ≠ setN s i true := fun e => by
    have := hbit i
    rw [← e, h0, if_pos rfl] at this
    exact absurd this (by decide)
  omega
theorem rise_AR {N : Net} (h : monoN N = true) (h5 : N.n ≤ 5) : ∀ (m s : Nat), 32 - s ≤ m → riseP N s → AR N s (limN N s) := by
  intro m
  induction m with
  | zero =>
    intro s hm hs
    have := hs.1
    have := pw_le h5
    omega
  | succ m ih =>
    intro s hm hs
    by_cases e : stepN N s = s
    · rw [lim_same e]; exact .refl s
    · obtain ⟨i, hi, hne⟩ := bit_ne_of (stepN_lt N s) hs.1 e
      have h0 : s.testBit i = false := by
        cases hb : s.testBit i
        · rfl
        · exact absurd ((leB_iff _ _).1 hs.2 i hb) (by rw [hb] at hne; simpa using hne)
      have h1 : N.f i s = true := by
        rw [h0, stepN_testBit, decide_eq_true hi, Bool.true_and] at hne
        simpa using hne
      obtain ⟨h2, h3, h4⟩ := setN_up h hs hi h0 h1
      have hlim : limN N (setN s i true) = limN N s := by
        apply leB_antisymm
        · refine lim_le h (lim_lt hs.1) (rise_rest h h5 hs).2 (leB_trans h3 ?_)
          have := rise_up h ⟨stepN_lt N s, step_mono h (stepN_lt N s) hs.2⟩ 31
          exact this
        · have hle : leB s (setN s i true) = true := (leB_iff _ _).2 fun j hj => by
            rw [setN_testBit]; split
            · rfl
            · exact hj
          exact iterN_mono h 32 h2.1 hle
      have := ih (setN s i true) (by omega) h2
      rw [hlim] at this
      refine .step hi ?_
      rw [h1]; exact this
end Go.Sw

namespace Go.Sw
open Go
set_option linter.unusedVariables false

theorem arc_iff {N : Net} {i k : Nat} {s : Bool} : arcB N i k s ↔ (i < N.n ∧ k < N.n) ∧ ∃ x, x < pw N.n ∧ x.testBit i = false ∧ N.f k x = !s ∧ N.f k (x ||| 2 ^ i) = s := by
  unfold arcB
  refine and_congr_right fun _ => ?_
  cases s
  · rw [if_neg (by decide)]
    unfold sgD
    rw [anyB_iff]
    constructor
    · rintro ⟨x, hx, h⟩
      unfold downB at h
      simp only [Bool.and_eq_true, Bool.not_eq_true'] at h
      exact ⟨x, hx, h.1, h.2.1, h.2.2⟩
    · rintro ⟨x, hx, h1, h2, h3⟩
      refine ⟨x, hx, ?_⟩
      unfold downB
      rw [h1, h2, h3]; rfl
  · rw [if_pos rfl]
    unfold sgU
    rw [anyB_iff]
    constructor
    · rintro ⟨x, hx, h⟩
      unfold upB at h
      simp only [Bool.and_eq_true, Bool.not_eq_true'] at h
      exact ⟨x, hx, h.1, h.2.1, h.2.2⟩
    · rintro ⟨x, hx, h1, h2, h3⟩
      refine ⟨x, hx, ?_⟩
      unfold upB
      rw [h1, h2, h3]; rfl
/-- the arcs of M are those of N, but for the sign where just one end is in a set -/
structure Twist (set : Nat) (N M : Net) : Prop where
  n : N.n = M.n
  to' : ∀ i k s, arcB M i k s → arcB N i k (s ^^ (set.testBit i ^^ set.testBit k))
  of' : ∀ i k s, arcB N i k s → arcB M i k (s ^^ (set.testBit i ^^ set.testBit k))
theorem Twist.symm {set : Nat} {N M : Net} (h : Twist set N M) : Twist set M N := ⟨h.n.symm, h.of', h.to'⟩
theorem arc_eqv {N M : Net} (h : N.eqv M) {i k : Nat} {s : Bool} (ha : arcB N i k s) : arcB M i k s := by
  unfold arcB at ha ⊢
  obtain ⟨⟨h1, h2⟩, h3⟩ := ha
  rw [h.1] at h1 h2
  refine ⟨⟨h1, h2⟩, ?_⟩
  cases s
  · rw [if_neg (by decide)] at h3 ⊢
    rw [← sgD_congr h1 (fun x hx => h.2 k (by rw [h.1]; exact h2) x (by rw [h.1]; exact hx)), ← h.1]; exact h3
  · rw [if_pos rfl] at h3 ⊢
    rw [← sgU_congr h1 (fun x hx => h.2 k (by rw [h.1]; exact h2) x (by rw [h.1]; exact hx)), ← h.1]; exact h3
theorem Twist.of_eqv {N M : Net} (h : N.eqv M) : Twist 0 N M :=
  ⟨h.1, fun i k s ha => by simpa using arc_eqv h.symm ha, fun i k s ha => by simpa using arc_eqv h ha⟩
theorem turn_arc {N : Net} {set i k : Nat} {s : Bool} (hset : set < pw N.n) (h : arcB (turnN N set) i k s) : arcB N i k (s ^^ (set.testBit i ^^ set.testBit k)) := by
  obtain ⟨⟨hi, hk⟩, x, hx, h1, h2, h3⟩ := arc_iff.1 h
  have hi' : i < N.n := hi
  have hx' : x < pw N.n := hx
  have h2' : (N.f k (x ^^^ set) ^^ set.testBit k) = !s := h2
  have h3' : (N.f k ((x ||| 2 ^ i) ^^^ set) ^^ set.testBit k) = s := h3
  refine arc_iff.2 ⟨⟨hi, hk⟩, ?_⟩
  have hor : x ||| 2 ^ i < pw N.n := Nat.or_lt_two_pow hx' (Nat.pow_lt_pow_right (by decide) hi')
  have hb : ∀ j, ((x ||| 2 ^ i) ^^^ set).testBit j = ((if j = i then true else x.testBit j) ^^ set.testBit j) := fun j => by rw [Nat.testBit_xor, or_testBit_two]
  cases hu : set.testBit i
  · refine ⟨x ^^^ set, xor_lt hx' hset, by rw [Nat.testBit_xor, h1, hu]; rfl, ?_, ?_⟩
    · rw [Bool.false_xor]
      revert h2'
      cases N.f k (x ^^^ set) <;> cases set.testBit k <;> cases s <;> decide
    · have e : (x ^^^ set) ||| 2 ^ i = (x ||| 2 ^ i) ^^^ set := by
        apply Nat.eq_of_testBit_eq
        intro j
        rw [hb, or_testBit_two, Nat.testBit_xor]
        by_cases ej : j = i
        · subst ej; simp [hu]
        · simp [ej]
      rw [e, Bool.false_xor]
      revert h3'
      cases N.f k ((x ||| 2 ^ i) ^^^ set) <;> cases set.testBit k <;> cases s <;> decide
  · refine ⟨(x ||| 2 ^ i) ^^^ set, xor_lt hor hset, by rw [hb, hu, if_pos rfl]; rfl, ?_, ?_⟩
    · revert h3'
      cases N.f k ((x ||| 2 ^ i) ^^^ set) <;> cases set.testBit k <;> cases s <;> decide
    · have e : ((x ||| 2 ^ i) ^^^ set) ||| 2 ^ i = x ^^^ set := by
        apply Nat.eq_of_testBit_eq
        intro j
        rw [or_testBit_two, hb, Nat.testBit_xor]
        by_cases ej : j = i
        · subst ej; simp [hu, h1]
        · simp [ej]
      rw [e]
      revert h2'
      cases N.f k (x ^^^ set) <;> cases set.testBit k <;> cases s <;> decide
theorem turn_back (N : Net) (set : Nat) : (turnN (turnN N set) set).eqv N := ⟨rfl, fun i hi s hs => by
  show ((N.f i ((s ^^^ set) ^^^ set) ^^ set.testBit i) ^^ set.testBit i) = N.f i s
  rw [Nat.xor_assoc, Nat.xor_self, Nat.xor_zero]
  cases N.f i s <;> cases set.testBit i <;> rfl⟩
theorem turn_twist {N : Net} {set : Nat} (hset : set < pw N.n) : Twist set N (turnN N set) :=
  ⟨rfl, fun i k s h => turn_arc hset h, fun i k s h => by
    have h1 := arc_eqv (turn_back N set).symm h
    have h2 := turn_arc (N := turnN N set) hset h1
    exact h2⟩
theorem Twist.eqv {set : Nat} {N M K : Net} (h : Twist set N M) (g : M.eqv K) : Twist set N K :=
  ⟨h.n.trans g.1, fun i k s ha => h.to' i k s (arc_eqv g.symm ha), fun i k s ha => arc_eqv g (h.of' i k s ha)⟩
theorem twist_wk {set : Nat} {N M : Net} (h : Twist set N M) {a b : Nat} {s : Bool} {l : List Nat} (hw : Wk (arcB M) a b s l) : Wk (arcB N) a b (s ^^ (set.testBit a ^^ set.testBit b)) l := by
  induction hw with
  | nil a => rw [Bool.xor_self, Bool.xor_false]; exact .nil a
  | @cons a b c s t l r _ ih =>
    have h1 := Wk.cons (h.to' a b s r) ih
    have e : ((s ^^ (set.testBit a ^^ set.testBit b)) == (t ^^ (set.testBit b ^^ set.testBit c))) = ((s == t) ^^ (set.testBit a ^^ set.testBit c)) := by
      cases s <;> cases t <;> cases set.testBit a <;> cases set.testBit b <;> cases set.testBit c <;> rfl
    rw [e] at h1
    exact h1
theorem twist_closed {set : Nat} {N M : Net} (h : Twist set N M) {a : Nat} {s : Bool} {l : List Nat} : Wk (arcB M) a a s l ↔ Wk (arcB N) a a s l := by
  constructor
  · intro hw
    have := twist_wk h hw
    rwa [Bool.xor_self, Bool.xor_false] at this
  · intro hw
    have := twist_wk h.symm hw
    rwa [Bool.xor_self, Bool.xor_false] at this
theorem twist_circ {set : Nat} {N M : Net} (h : Twist set N M) {s : Bool} : (∃ c ∈ circL M, adm (circC M c) s) ↔ ∃ c ∈ circL N, adm (circC N c) s := by
  rw [circ_iff, circ_iff]
  constructor
  · rintro ⟨a, l, h1, h2, h3⟩; exact ⟨a, l, h1, h2, (twist_closed h).1 h3⟩
  · rintro ⟨a, l, h1, h2, h3⟩; exact ⟨a, l, h1, h2, (twist_closed h).2 h3⟩
theorem twist_inf {set : Nat} {N M : Net} (h : Twist set N M) {i k : Nat} (hi : i < N.n) (hk : k < N.n) : infB M i k = infB N i k := by
  rw [Bool.eq_iff_iff]
  constructor
  · intro hinf
    obtain ⟨s, hs⟩ := inf_arc (N := M) (by rw [← h.n]; exact hi) (by rw [← h.n]; exact hk) hinf
    exact arc_inf (h.to' i k s hs)
  · intro hinf
    obtain ⟨s, hs⟩ := inf_arc hi hk hinf
    exact arc_inf (h.of' i k s hs)
theorem subL_congr2 {α : Type} {g g' : Nat → List α} {p q : Nat → Bool} {m : Nat} (hp : ∀ k, k < m → p k = q k) (h : ∀ k, k < m → p k = true → g k = g' k) : subL g p m = subL g' q m := by
  induction m with
  | zero => rfl
  | succ m ih =>
    have ih := ih (fun k hk => hp k (by omega)) fun k hk => h k (by omega)
    rw [subL, subL, ← hp m (by omega), ih]
    split
    · rename_i e; rw [h m (by omega) e]
    · rfl
theorem twist_walk {set : Nat} {N M : Net} (h : Twist set N M) : ∀ (f : Nat) (way : List Nat), WayOk N way → walkL M f way = walkL N f way := by
  intro f
  induction f with
  | zero => intro way _; rfl
  | succ f ih =>
    intro way hw
    rw [walkL, walkL]
    have h1 : closeB M way = closeB N way := twist_inf h hw.last hw.head
    have h2 : ∀ k, k < N.n → goesB M way k = goesB N way k := fun k hk => by
      unfold goesB
      rw [twist_inf h hw.last hk]
    rw [h1, ← h.n, subL_congr2 h2 fun k hk hg => ih (way ++ [k]) (hw.snoc hk (by rw [← h2 k hk]; exact hg))]
theorem twist_circL {set : Nat} {N M : Net} (h : Twist set N M) : circL M = circL N := by
  unfold circL
  rw [← h.n]
  exact subL_congr fun i hi _ => twist_walk h N.n [i] (WayOk.one hi)
theorem adm_wk {N : Net} {c : List Nat} {s : Bool} (hc : c ∈ circL N) : adm (circC N c) s ↔ Wk (arcB N) (headN c) (headN c) s c := by
  constructor
  · intro ha; exact (circ_wk hc ha).1
  · intro hw
    have hne := (circ_sound hc).1.1
    match c, hne, hw with
    | a :: r, _, hw =>
      have := circC_adm r [a] true s (by simp) (.inr rfl) hw
      rw [true_beq'] at this
      exact this
theorem adm_eq {a b : Nat} (ha : 1 ≤ a ∧ a ≤ 3) (hb : 1 ≤ b ∧ b ≤ 3) (h : ∀ s, adm a s ↔ adm b s) : a = b := by
  have h1 := h true
  have h2 := h false
  unfold adm at h1 h2
  simp only [if_true, Bool.false_eq_true, if_false] at h1 h2
  omega
theorem twist_circC {set : Nat} {N M : Net} (h : Twist set N M) {c : List Nat} (hc : c ∈ circL N) : circC M c = circC N c := by
  refine adm_eq (circC_le M c) (circC_le N c) fun s => ?_
  rw [adm_wk hc, adm_wk (N := M) (by rw [twist_circL h]; exact hc)]
  exact twist_closed h
theorem twist_circs {set : Nat} {t u : ByteArray} (h : Twist set (netOf t) (netOf u)) (ht : netOk t = true) (hu : netOk u = true) : circsL u = circsL t := by
  unfold circsL
  rw [ht, hu, if_pos rfl, if_pos rfl, twist_circL h]
  refine List.map_congr_left fun c hc => ?_
  unfold circT
  rw [twist_circC h hc]
/-- fixed points of the turned network -/
theorem turn_stepX {N : Net} {set s : Nat} (hset : set < pw N.n) (hs : s < pw N.n) : stepN (turnN N set) s = stepN N (s ^^^ set) ^^^ set := by
  apply Nat.eq_of_testBit_eq
  intro i
  rw [stepN_testBit, Nat.testBit_xor, stepN_testBit]
  show (decide (i < N.n) && (N.f i (s ^^^ set) ^^ set.testBit i)) = _
  by_cases hi : i < N.n
  · rw [decide_eq_true hi]; simp
  · rw [decide_eq_false hi, testBit_high hset (by omega)]; rfl
theorem turn_fix {N : Net} {set s : Nat} (hset : set < pw N.n) (hs : s < pw N.n) : stepN (turnN N set) s = s ↔ stepN N (s ^^^ set) = s ^^^ set := by
  rw [turn_stepX hset hs]
  constructor
  · intro h
    have := congrArg (· ^^^ set) h
    simp only [Nat.xor_assoc, Nat.xor_self, Nat.xor_zero] at this
    exact this
  · intro h
    rw [h, Nat.xor_assoc, Nat.xor_self, Nat.xor_zero]
end Go.Sw

namespace Go.Sw
open Go

/-- an arrow's text -/
def arrT (N : Net) (i k : Nat) : ByteArray := bs [UInt8.ofNat (48 + i), 62, UInt8.ofNat (48 + k), signT (edgeC N i k)]
/-- the arrows of a switch to those below k; of the switches below i -/
def rowA (N : Net) (i : Nat) : Nat → List ByteArray
  | 0 => []
  | k + 1 => if 0 < edgeC N i k then rowA N i k ++ [arrT N i k] else rowA N i k
def arrL (N : Net) : Nat → List ByteArray
  | 0 => []
  | i + 1 => arrL N i ++ rowA N i N.n
def arrowsL (w : ByteArray) : List ByteArray := if netOk w then arrL (netOf w) (netOf w).n else []
/-- the arrows told so far -/
def partA (N : Net) (i k : Nat) : List ByteArray := arrL N i ++ rowA N i k
theorem partA_zero (N : Net) (i : Nat) : partA N i 0 = arrL N i := List.append_nil _
theorem partA_end (N : Net) (i : Nat) : partA N i N.n = arrL N (i + 1) := rfl
theorem rowA_length (N : Net) (i k : Nat) : (rowA N i k).length ≤ k := by
  induction k with
  | zero => exact Nat.le_refl _
  | succ k ih =>
    rw [rowA]
    split
    · rw [List.length_append]; simp; omega
    · omega
theorem arrL_length {N : Net} (hn : N.n ≤ 5) (i : Nat) : (arrL N i).length ≤ i * 5 := by
  induction i with
  | zero => exact Nat.le_refl _
  | succ i ih =>
    have := rowA_length N i N.n
    rw [arrL, List.length_append]; omega
theorem arrowsL_length (w : ByteArray) : (arrowsL w).length ≤ 25 := by
  unfold arrowsL
  split
  · rename_i h
    have h1 := netOf_ok h
    have := arrL_length h1.2 (netOf w).n
    omega
  · simp
theorem rowA_yes {N : Net} {i k : Nat} (h : 0 < edgeC N i k) : rowA N i (k + 1) = rowA N i k ++ [arrT N i k] := by rw [rowA, if_pos h]
theorem rowA_no {N : Net} {i k : Nat} (h : edgeC N i k = 0) : rowA N i (k + 1) = rowA N i k := by rw [rowA, if_neg (by omega)]
theorem partA_yes {N : Net} {i k : Nat} (h : 0 < edgeC N i k) : partA N i (k + 1) = partA N i k ++ [arrT N i k] := by unfold partA; rw [rowA_yes h, List.append_assoc]
theorem partA_no {N : Net} {i k : Nat} (h : edgeC N i k = 0) : partA N i (k + 1) = partA N i k := by unfold partA; rw [rowA_no h]
theorem partA_length {N : Net} (hn : N.n ≤ 5) (i k : Nat) : (partA N i k).length ≤ i * 5 + k := by
  have h1 := arrL_length hn i
  have h2 := rowA_length N i k
  unfold partA
  rw [List.length_append]; omega
end Go.Sw

namespace Go.Sw
open Go

def updT (p : Trm) (n : Nat) (o : Option Bool) : Trm := fun i => if i = n then o else p i
def threeP (n : Nat) (p : Trm) : List Trm := [updT p n none, updT p n (some false), updT p n (some true)]
/-- all terms of n switches, in order -/
def allP : Nat → List Trm
  | 0 => [fun _ => none]
  | n + 1 => (allP n).flatMap (threeP n)
def allL (n : Nat) : List ByteArray := (allP n).map (termT n)
def three (t : ByteArray) : List ByteArray := [t ++ ⟨#[42]⟩, t ++ ⟨#[48]⟩, t ++ ⟨#[49]⟩]
theorem termT_succ (n : Nat) (p : Trm) : termT (n + 1) p = termT n p ++ bs [letterT (p n)] := by
  apply ba_ext
  simp [termT, List.range_succ, ByteArray.data_append, bs_data]
theorem termT_upd (n : Nat) (p : Trm) (o : Option Bool) : termT (n + 1) (updT p n o) = termT n p ++ bs [letterT o] := by
  rw [termT_succ]
  congr 1
  · exact termT_congr fun i hi => by unfold updT; rw [if_neg (by omega)]
  · unfold updT; rw [if_pos rfl]
theorem allL_succ (n : Nat) : allL (n + 1) = (allL n).flatMap three := by
  unfold allL
  rw [allP, List.map_flatMap, List.flatMap_map]
  congr 1
  funext p
  simp only [threeP, List.map_cons, List.map_nil, termT_upd]
  rfl
theorem allL_zero : allL 0 = [ByteArray.empty] := by
  unfold allL allP
  rw [List.map_cons, List.map_nil]
  congr 1
theorem allL_size (n : Nat) : ∀ t ∈ allL n, t.size = n := by
  intro t ht
  obtain ⟨p, _, rfl⟩ := List.mem_map.1 ht
  exact termT_size n p
theorem allP_has (n : Nat) (p : Trm) : ∃ q ∈ allP n, ∀ i, i < n → q i = p i := by
  induction n with
  | zero => exact ⟨_, List.mem_singleton.2 rfl, fun i hi => by omega⟩
  | succ n ih =>
    obtain ⟨q, hq, h⟩ := ih
    refine ⟨updT q n (p n), ?_, fun i hi => ?_⟩
    · rw [allP, List.mem_flatMap]
      refine ⟨q, hq, ?_⟩
      unfold threeP
      rcases p n with _ | _ | _ <;> simp
    · unfold updT
      by_cases e : i = n
      · rw [if_pos e, e]
      · rw [if_neg e]; exact h i (by omega)
theorem allL_length (n : Nat) : (allL n).length = 3 ^ n := by
  induction n with
  | zero => rw [allL_zero]; rfl
  | succ n ih =>
    rw [allL_succ]
    have : ∀ l : List ByteArray, (l.flatMap three).length = l.length * 3 := by
      intro l
      induction l with
      | nil => rfl
      | cons a r ih => rw [List.flatMap_cons, List.length_append, ih]; simp [three]; omega
    rw [this, ih, Nat.pow_succ]
theorem allL_le {n : Nat} (h : n ≤ 5) : (allL n).length ≤ 243 := by
  rw [allL_length]
  exact Nat.pow_le_pow_right (by omega) h
/-! ### their order -/
def ltT (a b : ByteArray) : Prop := Op.bytesLess a.data.toList b.data.toList = true
theorem less_append {x y : List UInt8} (hl : x.length = y.length) (h : Op.bytesLess x y = true) (u v : List UInt8) : Op.bytesLess (x ++ u) (y ++ v) = true := by
  induction x generalizing y with
  | nil =>
    have : y = [] := List.length_eq_zero_iff.1 (by simpa using hl.symm)
    subst this
    simp [Op.bytesLess] at h
  | cons a x ih =>
    cases y with
    | nil => simp at hl
    | cons b y =>
      simp only [List.length_cons, Nat.add_right_cancel_iff] at hl
      simp only [Op.bytesLess, Bool.or_eq_true, decide_eq_true_eq, Bool.and_eq_true, beq_iff_eq, List.cons_append] at h ⊢
      rcases h with h | ⟨h1, h2⟩
      · exact .inl h
      · exact .inr ⟨h1, ih hl h2⟩
theorem less_same (x : List UInt8) {a b : UInt8} (h : a < b) : Op.bytesLess (x ++ [a]) (x ++ [b]) = true := by
  induction x with
  | nil => simp [Op.bytesLess, h]
  | cons c x ih => simp [Op.bytesLess, ih]
theorem less_irrefl (x : List UInt8) : Op.bytesLess x x = false := by
  induction x with
  | nil => rfl
  | cons a x ih => simp [Op.bytesLess, ih]
theorem ltT_three (t : ByteArray) : (three t).Pairwise ltT := by
  unfold three ltT
  simp only [List.pairwise_cons, List.mem_cons, List.not_mem_nil, or_false, ByteArray.data_append, Array.toList_append]
  refine ⟨fun b hb => ?_, fun b hb => ?_, fun b hb => hb.elim, List.Pairwise.nil⟩
  · rcases hb with rfl | rfl
    · simpa [ByteArray.data_append] using less_same t.data.toList (a := 42) (b := 48) (by decide)
    · simpa [ByteArray.data_append] using less_same t.data.toList (a := 42) (b := 49) (by decide)
  · subst hb
    simpa [ByteArray.data_append] using less_same t.data.toList (a := 48) (b := 49) (by decide)
theorem allL_sorted (n : Nat) : (allL n).Pairwise ltT := by
  induction n with
  | zero => rw [allL_zero]; exact List.pairwise_singleton _ _
  | succ n ih =>
    rw [allL_succ]
    have hsz := allL_size n
    generalize allL n = l at ih hsz
    induction l with
    | nil => exact List.Pairwise.nil
    | cons a r ih2 =>
      rw [List.flatMap_cons, List.pairwise_append]
      rw [List.pairwise_cons] at ih
      refine ⟨ltT_three a, ih2 ih.2 fun t ht => hsz t (by simp [ht]), fun x hx y hy => ?_⟩
      obtain ⟨b, hb, hy⟩ := List.mem_flatMap.1 hy
      have hab := ih.1 b hb
      have h1 := hsz a (by simp)
      have h2 := hsz b (by simp [hb])
      have hl : a.data.toList.length = b.data.toList.length := by
        have e1 : a.data.toList.length = a.size := by simp
        have e2 : b.data.toList.length = b.size := by simp
        omega
      unfold three at hx hy
      unfold ltT at hab ⊢
      simp only [List.mem_cons, List.not_mem_nil, or_false] at hx hy
      rcases hx with rfl | rfl | rfl <;> rcases hy with rfl | rfl | rfl <;> (rw [ByteArray.data_append, ByteArray.data_append, Array.toList_append, Array.toList_append]; exact less_append hl hab _ _)
theorem ltT_irrefl (a : ByteArray) : ¬ ltT a a := by unfold ltT; rw [less_irrefl]; simp
theorem allL_nodup (n : Nat) : (allL n).Nodup := (allL_sorted n).imp fun h e => by subst e; exact ltT_irrefl _ h
/-! ### traps -/
def trapsP (N : Net) : List Trm := (allP N.n).filter (trapP N)
def trapsT (N : Net) : List ByteArray := (trapsP N).map (termT N.n)
def trapsL (w : ByteArray) : List ByteArray := if netOk w then trapsT (netOf w) else []
/-- the traps among the first k terms -/
def trapsTo (N : Net) (k : Nat) : List ByteArray := (((allP N.n).take k).filter (trapP N)).map (termT N.n)
theorem trapsTo_zero (N : Net) : trapsTo N 0 = [] := rfl
theorem trapsTo_succ {N : Net} {k : Nat} (h : k < (allP N.n).length) : trapsTo N (k + 1) = if trapP N (allP N.n)[k] then trapsTo N k ++ [termT N.n (allP N.n)[k]] else trapsTo N k := by
  unfold trapsTo
  rw [List.take_succ_eq_append_getElem h, List.filter_append, List.map_append]
  by_cases hp : trapP N (allP N.n)[k] = true
  · rw [if_pos hp, List.filter_cons_of_pos hp]; rfl
  · rw [if_neg hp, List.filter_cons_of_neg hp]; simp
theorem trapsTo_all (N : Net) : trapsTo N (allP N.n).length = trapsT N := by unfold trapsTo trapsT trapsP; rw [List.take_length]
theorem allP_length (n : Nat) : (allP n).length = (allL n).length := by simp [allL]
theorem trapsTo_length {N : Net} (hn : N.n ≤ 5) (k : Nat) : (trapsTo N k).length ≤ 243 := by
  unfold trapsTo
  rw [List.length_map]
  have h1 := List.length_filter_le (trapP N) ((allP N.n).take k)
  have h2 := List.length_take_le k (allP N.n)
  have h3 : ((allP N.n).take k).length ≤ (allP N.n).length := by rw [List.length_take]; omega
  have h4 := allL_le hn
  rw [← allP_length] at h4
  omega
theorem trapsT_sub (N : Net) : (trapsT N).Sublist (allL N.n) := (List.filter_sublist).map _
theorem trapsL_length (w : ByteArray) : (trapsL w).length ≤ 243 := by
  unfold trapsL
  split
  · rename_i h
    have := (trapsT_sub (netOf w)).length_le
    have := allL_le (netOf_ok h).2
    omega
  · simp
theorem trapsL_sorted (w : ByteArray) : (trapsL w).Pairwise ltT := by
  unfold trapsL
  split
  · exact (allL_sorted _).sublist (trapsT_sub _)
  · exact List.Pairwise.nil
theorem trapsL_nodup (w : ByteArray) : (trapsL w).Nodup := (trapsL_sorted w).imp fun h e => by subst e; exact ltT_irrefl _ h
/-- a term lies within another one -/
def insTo (p q : Trm) : Nat → Bool
  | 0 => true
  | k + 1 => insTo p q k && ((q k).isNone || p k == q k)
theorem insTo_iff (p q : Trm) (k : Nat) : insTo p q k = true ↔ ∀ i, i < k → q i = none ∨ p i = q i := by
  induction k with
  | zero => simp [insTo]
  | succ k ih =>
    rw [insTo, Bool.and_eq_true, ih, Bool.or_eq_true, Option.isNone_iff_eq_none, beq_iff_eq]
    constructor
    · rintro ⟨h1, h2⟩ i hi
      by_cases e : i = k
      · subst e; exact h2
      · exact h1 i (by omega)
    · intro h
      exact ⟨fun i hi => h i (by omega), h k (by omega)⟩
/-- the same of texts -/
def insB (t u : ByteArray) : Bool := insTo (ofT t) (ofT u) t.size
theorem ofT_term {n : Nat} {p : Trm} {i : Nat} (hi : i < n) : ofT (termT n p) i = p i := by
  unfold ofT
  have h : i < (termT n p).data.toList.length := by
    have := termT_size n p
    simp; omega
  rw [List.getD_eq_getElem?_getD, List.getElem?_eq_getElem h, Option.getD_some, byte_at _ i (by rw [termT_size]; exact hi), termT_get n p i hi]
  rcases p i with _ | _ | _ <;> rfl
theorem insTo_congr {p q p' q' : Trm} {k : Nat} (h1 : ∀ i, i < k → p i = p' i) (h2 : ∀ i, i < k → q i = q' i) : insTo p q k = insTo p' q' k := by
  induction k with
  | zero => rfl
  | succ k ih => rw [insTo, insTo, ih (fun i hi => h1 i (by omega)) (fun i hi => h2 i (by omega)), h1 k (by omega), h2 k (by omega)]
theorem insB_term (n : Nat) (p q : Trm) : insB (termT n p) (termT n q) = insTo p q n := by
  unfold insB
  rw [termT_size]
  exact insTo_congr (fun i hi => ofT_term hi) (fun i hi => ofT_term hi)
def neqT (u t : ByteArray) : Bool := !(u.toList == t.toList)
/-- has a list another text within t; around t? -/
def lessB (xs : List ByteArray) (t : ByteArray) : Bool := xs.any fun u => neqT u t && insB u t
def moreB (xs : List ByteArray) (t : ByteArray) : Bool := xs.any fun u => neqT u t && insB t u
def leastT (xs : List ByteArray) : List ByteArray := xs.filter fun t => !lessB xs t
def greatT (xs : List ByteArray) : List ByteArray := xs.filter fun t => !moreB xs t
def leastL (w : ByteArray) : List ByteArray := leastT (trapsL w)
def greatL (w : ByteArray) : List ByteArray := greatT (trapsL w).tail
theorem leastL_length (w : ByteArray) : (leastL w).length ≤ 243 := Nat.le_trans (List.length_filter_le _ _) (trapsL_length w)
theorem greatL_length (w : ByteArray) : (greatL w).length ≤ 243 := by
  refine Nat.le_trans (List.length_filter_le _ _) ?_
  have := trapsL_length w
  rw [List.length_tail]; omega
end Go.Sw

namespace Go.Sw
open Go

def condB (least : Bool) (xs : List ByteArray) (i k : Nat) : Bool :=
  if least then insB (xs.getD k ByteArray.empty) (xs.getD i ByteArray.empty) else decide (0 < k) && insB (xs.getD i ByteArray.empty) (xs.getD k ByteArray.empty)
/-- is the text at place i kept, by what stands at the places below k? -/
def keepTo (least : Bool) (xs : List ByteArray) (i : Nat) : Nat → Bool
  | 0 => least || decide (0 < i)
  | k + 1 => keepTo least xs i k && !(!decide (k = i) && condB least xs i k)
def outTo (least : Bool) (xs : List ByteArray) : Nat → List ByteArray
  | 0 => []
  | m + 1 => if keepTo least xs m xs.length then outTo least xs m ++ [xs.getD m ByteArray.empty] else outTo least xs m
theorem keepTo_iff (least : Bool) (xs : List ByteArray) (i k : Nat) : keepTo least xs i k = true ↔ (least = true ∨ 0 < i) ∧ ∀ j, j < k → j ≠ i → condB least xs i j = false := by
  induction k with
  | zero => simp [keepTo]
  | succ k ih =>
    rw [keepTo, Bool.and_eq_true, ih]
    constructor
    · rintro ⟨⟨h1, h2⟩, h3⟩
      refine ⟨h1, fun j hj hne => ?_⟩
      by_cases e : j = k
      · subst e; simpa [hne] using h3
      · exact h2 j (by omega) hne
    · rintro ⟨h1, h2⟩
      refine ⟨⟨h1, fun j hj hne => h2 j (by omega) hne⟩, ?_⟩
      by_cases e : k = i
      · simp [e]
      · simp [e, h2 k (by omega) e]
theorem outTo_length (least : Bool) (xs : List ByteArray) (m : Nat) : (outTo least xs m).length ≤ m := by
  induction m with
  | zero => exact Nat.le_refl _
  | succ m ih =>
    rw [outTo]
    split
    · rw [List.length_append]; simp; omega
    · omega
theorem getD_get {xs : List ByteArray} {i : Nat} (h : i < xs.length) : xs.getD i ByteArray.empty = xs[i] := by rw [List.getD_eq_getElem?_getD, List.getElem?_eq_getElem h]; rfl
theorem neqT_iff {u t : ByteArray} : neqT u t = true ↔ u ≠ t := by
  unfold neqT
  rw [Bool.not_eq_true', beq_eq_false_iff_ne, ne_eq, ByteArray.toList_eq, ByteArray.toList_eq]
  exact ⟨fun h e => h (by rw [e]), fun h e => h (ba_ext e)⟩
theorem get_ne {xs : List ByteArray} (hn : xs.Nodup) {i j : Nat} (hi : i < xs.length) (hj : j < xs.length) (h : i ≠ j) : xs[i] ≠ xs[j] := by
  have hp := List.pairwise_iff_getElem.1 hn
  by_cases hlt : i < j
  · exact hp i j hi hj hlt
  · exact fun e => hp j i hj hi (by omega) e.symm
theorem keep_least {xs : List ByteArray} (hn : xs.Nodup) {i : Nat} (hi : i < xs.length) : keepTo true xs i xs.length = !lessB xs xs[i] := by
  rw [Bool.eq_iff_iff, keepTo_iff, Bool.not_eq_true', lessB, List.any_eq_false]
  constructor
  · rintro ⟨_, h⟩ u hu hc
    obtain ⟨j, hj, rfl⟩ := List.getElem_of_mem hu
    rw [Bool.and_eq_true, neqT_iff] at hc
    have hne : j ≠ i := fun e => hc.1 (by subst e; rfl)
    have := h j hj hne
    unfold condB at this
    rw [if_pos rfl, getD_get hj, getD_get hi] at this
    rw [this] at hc; exact absurd hc.2 (by decide)
  · intro h
    refine ⟨.inl rfl, fun j hj hne => ?_⟩
    unfold condB
    rw [if_pos rfl, getD_get hj, getD_get hi]
    have := h xs[j] (List.getElem_mem hj)
    cases e : insB xs[j] xs[i] with
    | false => rfl
    | true => exact absurd (by rw [Bool.and_eq_true, neqT_iff]; exact ⟨get_ne hn hj hi hne, e⟩) this
theorem out_least {xs : List ByteArray} (hn : xs.Nodup) : outTo true xs xs.length = leastT xs := by
  have key : ∀ m, m ≤ xs.length → outTo true xs m = (xs.take m).filter fun t => !lessB xs t := by
    intro m
    induction m with
    | zero => intro _; rfl
    | succ m ih =>
      intro hm
      rw [outTo, ih (by omega), keep_least hn (by omega), List.take_succ_eq_append_getElem (by omega), List.filter_append, getD_get (by omega)]
      cases e : lessB xs xs[m]
      · rw [List.filter_cons_of_pos (by rw [e]; rfl)]; rfl
      · rw [List.filter_cons_of_neg (by rw [e]; decide)]; simp
  have := key xs.length (Nat.le_refl _)
  rw [List.take_length] at this
  exact this
theorem keep_great {x : ByteArray} {r : List ByteArray} (hn : (x :: r).Nodup) {i : Nat} (hi : i < r.length) : keepTo false (x :: r) (i + 1) (x :: r).length = !moreB r r[i] := by
  have hnr := (List.nodup_cons.1 hn).2
  rw [Bool.eq_iff_iff, keepTo_iff, Bool.not_eq_true', moreB, List.any_eq_false]
  constructor
  · rintro ⟨_, h⟩ u hu hc
    obtain ⟨j, hj, rfl⟩ := List.getElem_of_mem hu
    rw [Bool.and_eq_true, neqT_iff] at hc
    have hne : j ≠ i := fun e => hc.1 (by subst e; rfl)
    have := h (j + 1) (by simp; omega) (by omega)
    unfold condB at this
    rw [if_neg (by decide), getD_get (xs := x :: r) (by simp; omega), getD_get (xs := x :: r) (by simp; omega), decide_eq_true (by omega), Bool.true_and] at this
    simp only [List.getElem_cons_succ] at this
    rw [this] at hc; exact absurd hc.2 (by decide)
  · intro h
    refine ⟨.inr (by omega), fun j hj hne => ?_⟩
    unfold condB
    rw [if_neg (by decide)]
    rcases j with _ | j
    · rfl
    · have hj' : j < r.length := by simp at hj; omega
      rw [getD_get (xs := x :: r) (by simp; omega), getD_get (xs := x :: r) (by simp; omega)]
      simp only [List.getElem_cons_succ]
      have := h r[j] (List.getElem_mem hj')
      cases e : insB r[i] r[j] with
      | false => simp
      | true => exact absurd (by rw [Bool.and_eq_true, neqT_iff]; exact ⟨get_ne hnr hj' hi (by omega), e⟩) this
theorem out_great {xs : List ByteArray} (hn : xs.Nodup) : outTo false xs xs.length = greatT xs.tail := by
  cases xs with
  | nil => rfl
  | cons x r =>
    have key : ∀ m, m ≤ r.length → outTo false (x :: r) (m + 1) = (r.take m).filter fun t => !moreB r t := by
      intro m
      induction m with
      | zero =>
        intro _
        rw [outTo]
        have : keepTo false (x :: r) 0 (x :: r).length = false := by
          cases e : keepTo false (x :: r) 0 (x :: r).length with
          | false => rfl
          | true =>
            have := ((keepTo_iff _ _ _ _).1 e).1
            simp at this
        rw [this]; rfl
      | succ m ih =>
        intro hm
        rw [outTo, ih (by omega), keep_great hn (by omega), List.take_succ_eq_append_getElem (by omega), List.filter_append, getD_get (xs := x :: r) (by simp; omega)]
        simp only [List.getElem_cons_succ]
        cases e : moreB r r[m]
        · rw [List.filter_cons_of_pos (by rw [e]; rfl)]; rfl
        · rw [List.filter_cons_of_neg (by rw [e]; decide)]; simp
    have := key r.length (Nat.le_refl _)
    rw [List.take_length] at this
    exact this
end Go.Sw

namespace Go.Sw
open Go

/-- the first switch that can be removed, or -1 -/
def ffI (N : Net) : Int := firstI (freeB N) N.n
theorem ffI_cases (N : Net) : (ffI N = -1 ∧ ∀ k, k < N.n → freeB N k = false) ∨ ∃ k : Nat, k < N.n ∧ ffI N = (k : Int) ∧ freeB N k = true ∧ ∀ j, j < k → freeB N j = false := firstI_cases _ _
theorem firstI_congr {p q : Nat → Bool} {m : Nat} (h : ∀ s, s < m → p s = q s) : firstI p m = firstI q m := by
  induction m with
  | zero => rfl
  | succ m ih => rw [firstI, firstI, ih fun s hs => h s (by omega), h m (by omega)]
theorem Net.eqv.ff {N M : Net} (h : N.eqv M) : ffI N = ffI M := by
  unfold ffI
  rw [← h.1]
  exact firstI_congr fun i hi => h.free hi
/-- what is removed, what is left, a state with all removed switches put in -/
def redG : Nat → Net → List Int
  | 0, _ => []
  | f + 1, N => if ffI N < 0 then [] else ffI N :: redG f (remN N (ffI N).toNat)
def redN : Nat → Net → Net
  | 0, N => N
  | f + 1, N => if ffI N < 0 then N else redN f (remN N (ffI N).toNat)
def redP : Nat → Net → Nat → Nat
  | 0, _, s => s
  | f + 1, N, s => if ffI N < 0 then s else liftN N (ffI N).toNat (redP f (remN N (ffI N).toNat) s)
theorem freeB_two {N : Net} {k : Nat} (h : freeB N k = true) : 2 ≤ N.n := by
  simp only [freeB, Bool.and_eq_true, decide_eq_true_eq] at h; exact h.1
theorem redG_none {N : Net} (h : ffI N = -1) (f : Nat) : redG f N = [] := by cases f <;> simp [redG, h]
theorem redN_none {N : Net} (h : ffI N = -1) (f : Nat) : redN f N = N := by cases f <;> simp [redN, h]
theorem redP_none {N : Net} (h : ffI N = -1) (f s : Nat) : redP f N s = s := by cases f <;> simp [redP, h]
theorem redG_some {N : Net} {k : Nat} (h : ffI N = (k : Int)) (f : Nat) : redG (f + 1) N = (k : Int) :: redG f (remN N k) := by
  rw [redG, h, if_neg (by omega), Int.toNat_natCast]
theorem redN_some {N : Net} {k : Nat} (h : ffI N = (k : Int)) (f : Nat) : redN (f + 1) N = redN f (remN N k) := by
  rw [redN, h, if_neg (by omega), Int.toNat_natCast]
theorem redP_some {N : Net} {k : Nat} (h : ffI N = (k : Int)) (f s : Nat) : redP (f + 1) N s = liftN N k (redP f (remN N k) s) := by
  rw [redP, h, if_neg (by omega), Int.toNat_natCast]
theorem remN_n (N : Net) (k : Nat) : (remN N k).n = N.n - 1 := rfl
theorem redG_length (f : Nat) (N : Net) : (redG f N).length ≤ f := by
  induction f generalizing N with
  | zero => exact Nat.le_refl _
  | succ f ih =>
    rcases ffI_cases N with ⟨h, _⟩ | ⟨k, _, h, _⟩
    · rw [redG_none h]; simp
    · rw [redG_some h]; have := ih (remN N k); simp; omega
/-- enough steps -/
theorem redN_pos (f : Nat) (N : Net) (h1 : 1 ≤ N.n) : 1 ≤ (redN f N).n ∧ (redN f N).n ≤ N.n := by
  induction f generalizing N with
  | zero => exact ⟨h1, Nat.le_refl _⟩
  | succ f ih =>
    rcases ffI_cases N with ⟨h, _⟩ | ⟨k, hk, h, hf, _⟩
    · rw [redN_none h]; exact ⟨h1, Nat.le_refl _⟩
    · rw [redN_some h]
      have := ih (remN N k) (by rw [remN_n]; have := freeB_two hf; omega)
      rw [remN_n] at this; omega
theorem redN_done (f : Nat) (N : Net) (h : N.n ≤ f) : ffI (redN f N) = -1 := by
  induction f generalizing N with
  | zero =>
    show firstI _ N.n = -1
    rw [show N.n = 0 by omega]; rfl
  | succ f ih =>
    rcases ffI_cases N with ⟨h, _⟩ | ⟨k, hk, h', hf, _⟩
    · rw [redN_none h]; exact h
    · rw [redN_some h']; exact ih _ (by rw [remN_n]; omega)
theorem redP_lt (f : Nat) (N : Net) (s : Nat) (hs : s < pw (redN f N).n) : redP f N s < pw N.n := by
  induction f generalizing N with
  | zero => exact hs
  | succ f ih =>
    rcases ffI_cases N with ⟨h, _⟩ | ⟨k, hk, h, hf, _⟩
    · rw [redP_none h]; rwa [redN_none h] at hs
    · rw [redP_some h]
      rw [redN_some h] at hs
      exact liftN_lt N k _ hk (ih (remN N k) hs)
theorem Net.eqv.redG {N M : Net} (h : N.eqv M) (f : Nat) : redG f N = redG f M := by
  induction f generalizing N M with
  | zero => rfl
  | succ f ih =>
    rcases ffI_cases N with ⟨h', _⟩ | ⟨k, hk, h', hf, _⟩
    · rw [redG_none h', redG_none (h.ff ▸ h')]
    · rw [redG_some h', redG_some (h.ff ▸ h'), ih (h.rem hk)]
theorem Net.eqv.redN {N M : Net} (h : N.eqv M) (f : Nat) : (redN f N).eqv (redN f M) := by
  induction f generalizing N M with
  | zero => exact h
  | succ f ih =>
    rcases ffI_cases N with ⟨h', _⟩ | ⟨k, hk, h', hf, _⟩
    · rw [redN_none h', redN_none (h.ff ▸ h')]; exact h
    · rw [redN_some h', redN_some (h.ff ▸ h')]; exact ih (h.rem hk)
theorem Net.eqv.redP {N M : Net} (h : N.eqv M) (f s : Nat) (hs : s < pw (Go.Sw.redN f N).n) : redP f N s = redP f M s := by
  induction f generalizing N M with
  | zero => rfl
  | succ f ih =>
    rcases ffI_cases N with ⟨h', _⟩ | ⟨k, hk, h', hf, _⟩
    · rw [redP_none h', redP_none (h.ff ▸ h')]
    · rw [redP_some h', redP_some (h.ff ▸ h')]
      rw [redN_some h'] at hs
      rw [← ih (h.rem hk) hs, h.lift hk (redP_lt f (remN N k) s hs)]
/-- a state lifted along a list of networks, the last one first -/
def liftAllN : List Net → List Nat → Nat → Nat
  | M :: Ms, k :: G, s => liftN M k (liftAllN Ms G s)
  | _, _, s => s
theorem liftAllN_snoc (Ms : List Net) (G : List Nat) (M : Net) (k s : Nat) (h : Ms.length = G.length) : liftAllN (Ms ++ [M]) (G ++ [k]) s = liftAllN Ms G (liftN M k s) := by
  induction Ms generalizing G with
  | nil =>
    cases G with
    | nil => rfl
    | cons a G => simp at h
  | cons A Ms ih =>
    cases G with
    | nil => simp at h
    | cons a G =>
      show liftN A a (liftAllN (Ms ++ [M]) (G ++ [k]) s) = liftN A a (liftAllN Ms G (liftN M k s))
      rw [ih G (by simpa using h)]
/-- removing from N0 on through the networks Ms the switches G leads to M -/
inductive Path (N0 : Net) : List Net → List Nat → Net → Prop
  | nil : Path N0 [] [] N0
  | snoc {Ms : List Net} {G : List Nat} {M M' : Net} {k : Nat} : Path N0 Ms G M → ffI M = (k : Int) → M'.eqv (remN M k) → Path N0 (Ms ++ [M]) (G ++ [k]) M'
theorem ff_lt {N : Net} {k : Nat} (h : ffI N = (k : Int)) : k < N.n ∧ freeB N k = true := by
  rcases ffI_cases N with ⟨h', _⟩ | ⟨j, hj, h', hf, _⟩
  · rw [h'] at h; omega
  · have : j = k := by rw [h'] at h; omega
    subst this; exact ⟨hj, hf⟩
theorem Path.lens {N0 M : Net} {Ms : List Net} {G : List Nat} (h : Path N0 Ms G M) : Ms.length = G.length ∧ M.n + G.length = N0.n := by
  induction h with
  | nil => simp
  | snoc hp hk he ih =>
    have h1 := ff_lt hk
    have h2 := freeB_two h1.2
    have h3 := he.1
    rw [remN_n] at h3
    simp only [List.length_append, List.length_singleton]
    omega
/-- each network of the way, and its switch -/
theorem Path.get {N0 M : Net} {Ms : List Net} {G : List Nat} (h : Path N0 Ms G M) : ∀ j (h1 : j < Ms.length) (h2 : j < G.length), G[j] < Ms[j].n ∧ 2 ≤ Ms[j].n ∧ Ms[j].n + j = N0.n := by
  induction h with
  | nil => intro j h1; simp at h1
  | @snoc Ms G M M' k hp hk he ih =>
    intro j h1 h2
    have hl := hp.lens
    by_cases e : j < Ms.length
    · rw [List.getElem_append_left e, List.getElem_append_left (by omega)]
      exact ih j e (by omega)
    · simp only [List.length_append, List.length_singleton] at h1
      have e1 : j = Ms.length := by omega
      have h3 := ff_lt hk
      have h4 := freeB_two h3.2
      rw [List.getElem_append_right (by omega), List.getElem_append_right (by omega)]
      simp only [List.getElem_singleton]
      exact ⟨h3.1, h4, by omega⟩
theorem Path.red {N0 M : Net} {Ms : List Net} {G : List Nat} (h : Path N0 Ms G M) (f : Nat) (hf : G.length ≤ f) :
    redG f N0 = G.map Int.ofNat ++ redG (f - G.length) M ∧ (redN f N0).eqv (redN (f - G.length) M) ∧ ∀ s, s < pw (redN (f - G.length) M).n → redP f N0 s = liftAllN Ms G (redP (f - G.length) M s) := by
  induction h with
  | nil => exact ⟨rfl, Net.eqv.refl _, fun s _ => rfl⟩
  | @snoc Ms G M M' k hp hk he ih =>
    simp only [List.length_append, List.length_singleton] at hf
    obtain ⟨h1, h2, h3⟩ := ih (by omega)
    have e : f - G.length = (f - (G ++ [k]).length) + 1 := by simp; omega
    obtain ⟨m, hm⟩ : ∃ m, f - (G ++ [k]).length = m := ⟨_, rfl⟩
    rw [hm] at e ⊢
    rw [e, redG_some hk] at h1
    rw [e, redN_some hk] at h2
    have h4 := he.symm.redN m
    refine ⟨?_, h2.trans h4, fun s hs => ?_⟩
    · rw [h1, he.redG m]; simp
    · have hs' : s < pw (redN m (remN M k)).n := by rw [h4.1]; exact hs
      have h5 := h3 s (by rw [e, redN_some hk]; exact hs')
      rw [e, redP_some hk] at h5
      rw [h5, liftAllN_snoc _ _ _ _ _ hp.lens.1, he.symm.redP m s hs']
/-- what ReduceNetwork and LiftPoint say -/
def redT (w : ByteArray) : ByteArray := if netOk w then netText (redN (netOf w).n (netOf w)) else ByteArray.empty
def redL (w : ByteArray) : List Int := if netOk w then redG (netOf w).n (netOf w) else []
theorem redL_length (w : ByteArray) : (redL w).length ≤ 5 := by
  unfold redL
  split
  · rename_i h
    have := redG_length (netOf w).n (netOf w)
    have := (netOf_ok h).2
    omega
  · simp
def liftPB (w : ByteArray) (s : Int) : Bool := netOk w && (decide (0 ≤ s) && decide (s < (pw (redN (netOf w).n (netOf w)).n : Nat)))
def liftPI (w : ByteArray) (s : Int) : Int := if liftPB w s then (redP (netOf w).n (netOf w) s.toNat : Nat) else -1
end Go.Sw
