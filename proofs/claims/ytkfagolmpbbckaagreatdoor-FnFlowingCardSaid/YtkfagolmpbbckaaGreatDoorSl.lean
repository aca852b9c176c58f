/- Slices of numbers: made by append, clipped, compared, marked and held. -/
import Derived.Test.YtkfagolmpbbckaaGreatDoorProg
import Derived.Test.YtkfagolmpbbckaaGreatDoorP1
import Derived.Deep.WholeRow
import Derived.WalkSpells
import Derived.Maps.AppendAt
namespace Go.Proofs.YtkfagolmpbbckaaGreatDoor
open Go Go.RowKit Go.Sw
set_option maxRecDepth 100000
set_option linter.unusedVariables false

theorem int_row : (Tryz.prog.info? 3).map (fun i => (i.zero, i.size, i.bytes)) = some (some (.int .i64 0), 1, 8) := by kernel_rfl
theorem int_one (s : Int) (w : World) : (Instr.buildSlice 27 1 [(0, .int .i64 s)].toArray).run Tryz.prog w =
    .ok (.slice (some ⟨w.heap.size, 0, none⟩) 1 1) (w.alloc (.cells #[.int .i64 s] 3)) := by kernel_rfl
theorem int_none (w : World) : (Instr.buildSlice 27 0 [].toArray).run Tryz.prog w =
    .ok (.slice (some ⟨w.heap.size, 0, none⟩) 0 0) (w.alloc (.cells #[] 3)) := by kernel_rfl
def ints (xs : List Int) : List Value := xs.map (Value.int .i64)
theorem ints_length (xs : List Int) : (ints xs).length = xs.length := by simp [ints]
theorem ints_snoc (xs : List Int) (x : Int) : ints (xs ++ [x]) = ints xs ++ [.int .i64 x] := by simp [ints]
/-- append of a number to a list of numbers that the call owns -/
theorem wpList_int_append {ops : Array Oper} {rest : List Oper} {o : Oper} {a : Act} {w : World} {Q : Exit → Act → World → Prop} (hgd : o.guard = none) (s x : Operand)
    (ho : o.op = .call { callee := .builtin .append, args := #[s, x], argTypes := #[27, 27] })
    (base : Nat) (v : Value) (xs : List Int) (hs : a.eval s = v) (hown : w.ownsRow base 3 1 v xs.length (ints xs))
    (b : Nat) (p : Int) (hx : a.eval x = .slice (some ⟨b, 0, none⟩) 1 1) (hc : w.cell? ⟨b, 0, none⟩ = some (.int .i64 p)) (hk : xs.length ≤ 4000000) {B : Nat} {w0 : World} (hW : Below B w0 w) (hB : B ≤ base) (hB0 : base ≤ w.heap.size)
    (h : ∀ v' w', w'.ownsRow base 3 1 v' (xs ++ [p]).length (ints (xs ++ [p])) → Below B w0 w' → wpList Tryz.prog ops Q rest (a.put o.dst v') w') : wpList Tryz.prog ops Q (o :: rest) a w := by
  obtain ⟨i0, hi, hz0, hz1, hz2⟩ := info_parts int_row
  refine wpList_append_own _ hgd s x 27 ho base 3 i0 (.int .i64 0) 1 8 Tryz.underlying27 hi hz0 hz1 hz2 rfl (by decide) v xs.length (ints xs) hs hown ⟨b, 0, none⟩ 1 1 [.int .i64 p] hx rfl
    (fun j u hu => by
      rcases j with _ | j
      · simp at hu; subst hu; simpa [Addr.add] using hc
      · simp at hu) (fun u hu => by simp at hu; subst hu; rfl) (by unfold maxLen; omega) (by omega) hB0 ?_
  intro v' w' h1 h2 _
  refine h v' w' (by rw [ints_snoc, List.length_append]; exact h1) (hW.grown h2 (by omega) fun g hg => Nat.le_trans hB (own_ge hown hg))

/-- the same, told what stays: every block but the list's own -/
theorem wpList_int_appendK {ops : Array Oper} {rest : List Oper} {o : Oper} {a : Act} {w : World} {Q : Exit → Act → World → Prop} (hgd : o.guard = none) (s x : Operand)
    (ho : o.op = .call { callee := .builtin .append, args := #[s, x], argTypes := #[27, 27] })
    (base : Nat) (v : Value) (xs : List Int) (hs : a.eval s = v) (hown : w.ownsRow base 3 1 v xs.length (ints xs))
    (b : Nat) (p : Int) (hx : a.eval x = .slice (some ⟨b, 0, none⟩) 1 1) (hc : w.cell? ⟨b, 0, none⟩ = some (.int .i64 p)) (hk : xs.length ≤ 4000000) {B : Nat} {w0 : World} (hW : Below B w0 w) (hB : B ≤ base) (hB0 : base ≤ w.heap.size)
    (h : ∀ v' w', w'.ownsRow base 3 1 v' (xs ++ [p]).length (ints (xs ++ [p])) → Below B w0 w' → (∀ k, k < w.heap.size → v.ownBlock ≠ some k → w'.heap[k]? = w.heap[k]? ∧ v'.ownBlock ≠ some k) → wpList Tryz.prog ops Q rest (a.put o.dst v') w') : wpList Tryz.prog ops Q (o :: rest) a w := by
  obtain ⟨i0, hi, hz0, hz1, hz2⟩ := info_parts int_row
  refine wpList_append_own_at w hgd s x 27 ho base 3 i0 (.int .i64 0) 1 8 Tryz.underlying27 hi hz0 hz1 hz2 rfl (by decide) v xs.length (ints xs) hs hown ⟨b, 0, none⟩ 1 1 [.int .i64 p] hx rfl
    (fun j u hu => by
      rcases j with _ | j
      · simp at hu; subst hu; simpa [Addr.add] using hc
      · simp at hu) (fun u hu => by simp at hu; subst hu; rfl) (by unfold maxLen; omega) (by omega) hB0 ?_
  intro v' w' h1 h2 _ h4
  refine h v' w' (by rw [ints_snoc, List.length_append]; exact h1) (hW.grown h2 (by omega) fun g hg => Nat.le_trans hB (own_ge hown hg)) fun k hk hne => ⟨h2.block k hk fun e => hne e.symm, ?_⟩
  rcases h4 with h4 | h4
  · rw [h4]; exact hne
  · rw [h4]; intro e; cases e; exact Nat.lt_irrefl _ hk
/-- numbers lie in a slice whose block is at or above B, and may be written -/
structure IntsAt (w : World) (B : Nat) (a : Option Addr) (xs : List Int) : Prop where
  at' : 0 < xs.length → ∃ g cur t, a = some ⟨g, 0, none⟩ ∧ B ≤ g ∧ w.heap[g]? = some (.cells cur t (0, 0)) ∧ xs.length ≤ cur.size ∧ ∀ j (h : j < xs.length), cur[j]? = some (.int .i64 xs[j])
theorem IntsAt.below {w w' : World} {B : Nat} {a : Option Addr} {xs : List Int} (h : IntsAt w B a xs) (hb : Below w.heap.size w w') : IntsAt w' B a xs :=
  ⟨fun h0 => by
    obtain ⟨g, cur, t, h1, h2, h3, h4⟩ := h.at' h0
    exact ⟨g, cur, t, h1, h2, (hb.block _ (block_lt h3)).trans h3, h4⟩⟩
theorem IntsAt.below' {w w' : World} {B B' : Nat} {a : Option Addr} {xs : List Int} (h : IntsAt w B a xs) (hb : Below B' w w') (hlt : 0 < xs.length → ∀ g, a = some ⟨g, 0, none⟩ → g < B') : IntsAt w' B a xs :=
  ⟨fun h0 => by
    obtain ⟨g, cur, t, h1, h2, h3, h4⟩ := h.at' h0
    exact ⟨g, cur, t, h1, h2, (hb.block _ (hlt h0 g h1)).trans h3, h4⟩⟩
theorem IntsAt.mono {w : World} {B B' : Nat} {a : Option Addr} {xs : List Int} (h : IntsAt w B a xs) (hb : B' ≤ B) : IntsAt w B' a xs :=
  ⟨fun h0 => by
    obtain ⟨g, cur, t, h1, h2, h3⟩ := h.at' h0
    exact ⟨g, cur, t, h1, by omega, h3⟩⟩
theorem IntsAt.lt {w : World} {B : Nat} {a : Option Addr} {xs : List Int} (h : IntsAt w B a xs) : 0 < xs.length → ∀ g, a = some ⟨g, 0, none⟩ → g < w.heap.size := fun h0 g hg => by
  obtain ⟨g', cur, t, h1, h2, h3, h4⟩ := h.at' h0
  rw [hg] at h1
  obtain rfl : g = g' := by simpa using h1
  exact block_lt h3
theorem intsAt_nil (w : World) (B : Nat) (a : Option Addr) : IntsAt w B a [] := ⟨fun h => absurd h (by simp)⟩
theorem intsAt_of_own {w : World} {base : Nat} {e : TypeId} {v : Value} {xs : List Int} (h : w.ownsRow base e 1 v xs.length (ints xs)) : ∃ a cap, v = .slice a xs.length cap ∧ xs.length ≤ cap ∧ IntsAt w base a xs := by
  rcases h.2 with ⟨rfl, hz⟩ | ⟨g, cap, cur, rfl, hb, hg, h1, h2, h3, h4⟩
  · refine ⟨none, 0, by rw [hz], by omega, ⟨fun h0 => by omega⟩⟩
  · refine ⟨_, cap, rfl, h1, ⟨fun h0 => ⟨g, cur, e, rfl, hb, hg, by omega, fun j hj => ?_⟩⟩⟩
    have : (ints xs)[j]? = some (.int .i64 xs[j]) := by simp [ints, hj]
    rw [← h4, List.getElem?_take] at this
    rw [if_pos (by omega)] at this
    simpa using this



/-- n numbers from q on -/
def marks (q n : Nat) : List Int := (List.range n).map fun j => ((q + j : Nat) : Int)
theorem marks_length (q n : Nat) : (marks q n).length = n := by simp [marks]
theorem marks_get (q n j : Nat) (h : j < n) : (marks q n)[j]'(by rw [marks_length]; exact h) = ((q + j : Nat) : Int) := by simp [marks]





theorem clip_any (a : Option Addr) (n cap : Nat) (ha : 0 < n → ∃ g, a = some ⟨g, 0, none⟩) (hc : n ≤ cap) (hm : n ≤ 4000000) (w : World) :
    Calls Tryz.prog 115 #[.slice a n cap] w fun e w' => e = .returned (.slice a n n) ∧ w = w' := by
  by_cases h0 : n = 0
  · subst h0
    go_enter Tryz.func115, Tryz.ntmps115
    go_wp2
    go_ret
    exact ⟨rfl, rfl⟩
  · obtain ⟨g, rfl⟩ := ha (by omega)
    have hadd : (⟨g, 0, none⟩ : Addr).add 0 = ⟨g, 0, none⟩ := by simp [Addr.add]
    go_enter Tryz.func115, Tryz.ntmps115
    go_wp2
    go_ret
    exact ⟨rfl, rfl⟩
end Go.Proofs.YtkfagolmpbbckaaGreatDoor
