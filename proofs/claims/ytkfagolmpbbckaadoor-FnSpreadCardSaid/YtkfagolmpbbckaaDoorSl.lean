/- Slices of numbers: made by append, clipped, compared, marked and held. -/
import Derived.Test.YtkfagolmpbbckaaDoorProg
import Derived.Test.YtkfagolmpbbckaaDoorKit
import Derived.Deep.WholeRow
import Derived.WalkSpells
import Derived.Maps.AppendAt
namespace Go.Proofs.YtkfagolmpbbckaaDoor
open Go Go.RowKit Go.Sw
set_option maxRecDepth 100000
set_option linter.unusedVariables false

theorem int_row : (Tryd.prog.info? 3).map (fun i => (i.zero, i.size, i.bytes)) = some (some (.int .i64 0), 1, 8) := by kernel_rfl
theorem int_one (s : Int) (w : World) : (Instr.buildSlice 26 1 [(0, .int .i64 s)].toArray).run Tryd.prog w =
    .ok (.slice (some ⟨w.heap.size, 0, none⟩) 1 1) (w.alloc (.cells #[.int .i64 s] 3)) := by kernel_rfl
theorem int_none (w : World) : (Instr.buildSlice 26 0 [].toArray).run Tryd.prog w =
    .ok (.slice (some ⟨w.heap.size, 0, none⟩) 0 0) (w.alloc (.cells #[] 3)) := by kernel_rfl
def ints (xs : List Int) : List Value := xs.map (Value.int .i64)
theorem ints_length (xs : List Int) : (ints xs).length = xs.length := by simp [ints]
theorem ints_snoc (xs : List Int) (x : Int) : ints (xs ++ [x]) = ints xs ++ [.int .i64 x] := by simp [ints]
/-- append of a number to a list of numbers that the call owns -/
theorem wpList_int_append {ops : Array Oper} {rest : List Oper} {o : Oper} {a : Act} {w : World} {Q : Exit → Act → World → Prop} (hgd : o.guard = none) (s x : Operand)
    (ho : o.op = .call { callee := .builtin .append, args := #[s, x], argTypes := #[26, 26] })
    (base : Nat) (v : Value) (xs : List Int) (hs : a.eval s = v) (hown : w.ownsRow base 3 1 v xs.length (ints xs))
    (b : Nat) (p : Int) (hx : a.eval x = .slice (some ⟨b, 0, none⟩) 1 1) (hc : w.cell? ⟨b, 0, none⟩ = some (.int .i64 p)) (hk : xs.length ≤ 4000000) {B : Nat} {w0 : World} (hW : Below B w0 w) (hB : B ≤ base) (hB0 : base ≤ w.heap.size)
    (h : ∀ v' w', w'.ownsRow base 3 1 v' (xs ++ [p]).length (ints (xs ++ [p])) → Below B w0 w' → wpList Tryd.prog ops Q rest (a.put o.dst v') w') : wpList Tryd.prog ops Q (o :: rest) a w := by
  obtain ⟨i0, hi, hz0, hz1, hz2⟩ := info_parts int_row
  refine wpList_append_own _ hgd s x 26 ho base 3 i0 (.int .i64 0) 1 8 Tryd.underlying26 hi hz0 hz1 hz2 rfl (by decide) v xs.length (ints xs) hs hown ⟨b, 0, none⟩ 1 1 [.int .i64 p] hx rfl
    (fun j u hu => by
      rcases j with _ | j
      · simp at hu; subst hu; simpa [Addr.add] using hc
      · simp at hu) (fun u hu => by simp at hu; subst hu; rfl) (by unfold maxLen; omega) (by omega) hB0 ?_
  intro v' w' h1 h2 _
  refine h v' w' (by rw [ints_snoc, List.length_append]; exact h1) (hW.grown h2 (by omega) fun g hg => Nat.le_trans hB (own_ge hown hg))

/-- the same, told what stays: every block but the list's own -/
theorem wpList_int_appendK {ops : Array Oper} {rest : List Oper} {o : Oper} {a : Act} {w : World} {Q : Exit → Act → World → Prop} (hgd : o.guard = none) (s x : Operand)
    (ho : o.op = .call { callee := .builtin .append, args := #[s, x], argTypes := #[26, 26] })
    (base : Nat) (v : Value) (xs : List Int) (hs : a.eval s = v) (hown : w.ownsRow base 3 1 v xs.length (ints xs))
    (b : Nat) (p : Int) (hx : a.eval x = .slice (some ⟨b, 0, none⟩) 1 1) (hc : w.cell? ⟨b, 0, none⟩ = some (.int .i64 p)) (hk : xs.length ≤ 4000000) {B : Nat} {w0 : World} (hW : Below B w0 w) (hB : B ≤ base) (hB0 : base ≤ w.heap.size)
    (h : ∀ v' w', w'.ownsRow base 3 1 v' (xs ++ [p]).length (ints (xs ++ [p])) → Below B w0 w' → (∀ k, k < w.heap.size → v.ownBlock ≠ some k → w'.heap[k]? = w.heap[k]? ∧ v'.ownBlock ≠ some k) → wpList Tryd.prog ops Q rest (a.put o.dst v') w') : wpList Tryd.prog ops Q (o :: rest) a w := by
  obtain ⟨i0, hi, hz0, hz1, hz2⟩ := info_parts int_row
  refine wpList_append_own_at w hgd s x 26 ho base 3 i0 (.int .i64 0) 1 8 Tryd.underlying26 hi hz0 hz1 hz2 rfl (by decide) v xs.length (ints xs) hs hown ⟨b, 0, none⟩ 1 1 [.int .i64 p] hx rfl
    (fun j u hu => by
      rcases j with _ | j
      · simp at hu; subst hu; simpa [Addr.add] using hc
      · simp at hu) (fun u hu => by simp at hu; subst hu; rfl) (by unfold maxLen; omega) (by omega) hB0 ?_
  intro v' w' h1 h2 _ h4
  refine h v' w' (by rw [ints_snoc, List.length_append]; exact h1) (hW.grown h2 (by omega) fun g hg => Nat.le_trans hB (own_ge hown hg)) fun k hk hne => ⟨h2.block k hk fun e => hne e.symm, ?_⟩
  rcases h4 with h4 | h4
  · rw [h4]; exact hne
  · rw [h4]; intro e; cases e; exact Nat.lt_irrefl _ hk
/-- numbers lie in a slice whose block is at or above B, and may be written -/
structure IntsAt (w : World) (B : Nat) (a : Option Addr) (xs : List Int) : Prop where
  at' : 0 < xs.length → ∃ g cur t, a = some ⟨g, 0, none⟩ ∧ B ≤ g ∧ w.heap[g]? = some (.cells cur t (0, 0)) ∧ xs.length ≤ cur.size ∧ ∀ j (h : j < xs.length), cur[j]? = some (.int .i64 xs[j])
theorem IntsAt.below {w w' : World} {B : Nat} {a : Option Addr} {xs : List Int} (h : IntsAt w B a xs) (hb : Below w.heap.size w w') : IntsAt w' B a xs :=
  ⟨fun h0 => by
    obtain ⟨g, cur, t, h1, h2, h3, h4⟩ := h.at' h0
    exact ⟨g, cur, t, h1, h2, (hb.block _ (block_lt h3)).trans h3, h4⟩⟩
theorem IntsAt.below' {w w' : World} {B B' : Nat} {a : Option Addr} {xs : List Int} (h : IntsAt w B a xs) (hb : Below B' w w') (hlt : 0 < xs.length → ∀ g, a = some ⟨g, 0, none⟩ → g < B') : IntsAt w' B a xs :=
  ⟨fun h0 => by
    obtain ⟨g, cur, t, h1, h2, h3, h4⟩ := h.at' h0
    exact ⟨g, cur, t, h1, h2, (hb.block _ (hlt h0 g h1)).trans h3, h4⟩⟩
theorem IntsAt.mono {w : World} {B B' : Nat} {a : Option Addr} {xs : List Int} (h : IntsAt w B a xs) (hb : B' ≤ B) : IntsAt w B' a xs :=
  ⟨fun h0 => by
    obtain ⟨g, cur, t, h1, h2, h3⟩ := h.at' h0
    exact ⟨g, cur, t, h1, by omega, h3⟩⟩
theorem IntsAt.lt {w : World} {B : Nat} {a : Option Addr} {xs : List Int} (h : IntsAt w B a xs) : 0 < xs.length → ∀ g, a = some ⟨g, 0, none⟩ → g < w.heap.size := fun h0 g hg => by
  obtain ⟨g', cur, t, h1, h2, h3, h4⟩ := h.at' h0
  rw [hg] at h1
  obtain rfl : g = g' := by simpa using h1
  exact block_lt h3
theorem intsAt_nil (w : World) (B : Nat) (a : Option Addr) : IntsAt w B a [] := ⟨fun h => absurd h (by simp)⟩
theorem intsAt_of_own {w : World} {base : Nat} {e : TypeId} {v : Value} {xs : List Int} (h : w.ownsRow base e 1 v xs.length (ints xs)) : ∃ a cap, v = .slice a xs.length cap ∧ xs.length ≤ cap ∧ IntsAt w base a xs := by
  rcases h.2 with ⟨rfl, hz⟩ | ⟨g, cap, cur, rfl, hb, hg, h1, h2, h3, h4⟩
  · refine ⟨none, 0, by rw [hz], by omega, ⟨fun h0 => by omega⟩⟩
  · refine ⟨_, cap, rfl, h1, ⟨fun h0 => ⟨g, cur, e, rfl, hb, hg, by omega, fun j hj => ?_⟩⟩⟩
    have : (ints xs)[j]? = some (.int .i64 xs[j]) := by simp [ints, hj]
    rw [← h4, List.getElem?_take] at this
    rw [if_pos (by omega)] at this
    simpa using this

theorem eqIntS_any (B1 B2 : Nat) (a b : Option Addr) (ca cb : Nat) (xs : List Int) (w : World) (h1 : IntsAt w B1 a xs) (h2 : IntsAt w B2 b xs) (hn1 : xs.length ≤ 4000000) :
    Calls Tryd.prog 55 #[.slice a xs.length ca, .slice b xs.length cb] w fun e w' => Below w.heap.size w w' ∧ e = .returned (.bool true) := by
  have H1 := Lib.hid h1.at'
  have H2 := Lib.hid h2.at'
  clear h1 h2
  go_enter Tryd.func55, Tryd.ntmps55
  go_wp2_with fail
  go_loopw [5] (fun i wr => (∃ k : Nat, k ≤ xs.length ∧ i = .int .i64 k) ∧ ∃ nq, wr = w.drewN nq) (fun i _ => xs.length - (intOf i).toNat)
  case atStart => exact ⟨⟨0, Nat.zero_le _, rfl⟩, 0, rfl⟩
  case round =>
    obtain ⟨⟨k, hk, rfl⟩, nq0, rfl⟩ := hrel
    by_cases hlt : k < xs.length
    · obtain ⟨g1, c1, t1, rfl, _, hc1, _, hj1⟩ := H1.out (by omega)
      obtain ⟨g2, c2, t2, rfl, _, hc2, _, hj2⟩ := H2.out (by omega)
      have e1 : w.cell? ⟨g1, k, none⟩ = some (.int .i64 xs[k]) := by rw [cell_of_row w _ _ _ _ _ hc1]; exact hj1 k hlt
      have e2 : w.cell? ⟨g2, k, none⟩ = some (.int .i64 xs[k]) := by rw [cell_of_row w _ _ _ _ _ hc2]; exact hj2 k hlt
      clear hj1 hj2 hc1 hc2
      go_wp2_with fail
      go_quiet (fail)
      go_wp2_with fail
      first
        | (go_roundw
           case rel => exact ⟨⟨k + 1, by omega, by go_num⟩, _, rfl⟩
           case measure => simp [intOf] <;> omega)
        | exact ⟨⟨⟨k + 1, by omega, by go_num⟩, _, rfl⟩, by simp [intOf] <;> omega⟩
    · go_wp2_with fail
      go_ret
      exact ⟨below_drewN (Below.refl _ _) _, rfl⟩


/-- n numbers from q on -/
def marks (q n : Nat) : List Int := (List.range n).map fun j => ((q + j : Nat) : Int)
theorem marks_length (q n : Nat) : (marks q n).length = n := by simp [marks]
theorem marks_get (q n j : Nat) (h : j < n) : (marks q n)[j]'(by rw [marks_length]; exact h) = ((q + j : Nat) : Int) := by simp [marks]

theorem markIntS_any (B n q : Nat) (a : Option Addr) (ca : Nat) (xs : List Int) (w : World) (h1 : IntsAt w B a xs) (hn : xs.length = n) (hn1 : n ≤ 4000000) (hq : q ≤ 4000000) :
    Calls Tryd.prog 56 #[.slice a n ca, .int .i64 q] w fun e w' => (Below B w w' ∧ IntsAt w' B a (marks q n)) ∧ e = .returned (.int .i64 ((q + n : Nat) : Int)) := by
  have H1 := Lib.hid h1.at'
  have Hn := Lib.hid hn
  clear h1 hn
  by_cases h0 : n = 0
  · subst h0
    go_enter Tryd.func56, Tryd.ntmps56
    go_wp2_with fail
    go_loop [1, 5] (fun m i => m = .int .i64 ((q + 0 : Nat) : Int) ∧ i = .int .i64 0) (fun _ _ => 0)
    case atStart => exact ⟨rfl, rfl⟩
    case round =>
      obtain ⟨rfl, rfl⟩ := hrel
      go_wp2_with fail
      go_ret
      exact ⟨⟨Below.refl _ _, intsAt_nil _ _ _⟩, rfl⟩
  · obtain ⟨g, cur, t, rfl, hB, hc, hsz, _⟩ := H1.out (by rw [Hn.out]; omega)
    have hsz' : n ≤ cur.size := by rw [← Hn.out]; exact hsz
    have Hc := Lib.hid hc
    clear hc hsz
    go_enter Tryd.func56, Tryd.ntmps56
    go_wp2_with fail
    go_loopw [1, 5] (fun m i wr => ∃ k : Nat, k ≤ n ∧ i = .int .i64 k ∧ m = .int .i64 ((q + k : Nat) : Int) ∧ (∃ cur', wr.heap[g]? = some (.cells cur' t (0, 0)) ∧ n ≤ cur'.size ∧ ∀ j, j < k → cur'[j]? = some (.int .i64 ((q + j : Nat) : Int))) ∧ Below B w wr) (fun _ i _ => n - (intOf i).toNat)
    case atStart => exact ⟨0, Nat.zero_le _, rfl, rfl, ⟨cur, Hc.out, hsz', fun j h => absurd h (Nat.not_lt_zero _)⟩, Below.refl _ _⟩
    case round =>
      obtain ⟨k, hk, rfl, rfl, hst, hW⟩ := hrel
      have Hst := Lib.hid hst
      obtain ⟨cur', hc', hs', hj'⟩ := hst
      by_cases hlt : k < n
      · have hcell : ∃ u, wr.cell? ⟨g, k, none⟩ = some u := by
          rw [cell_of_row wr _ _ _ _ _ hc']
          exact ⟨_, Array.getElem?_eq_getElem (show k < cur'.size by omega)⟩
        obtain ⟨u, hu⟩ := hcell
        have hf : wr.frozen? ⟨g, k, none⟩ = false := frozen_of_row wr _ _ _ _ hc'
        have Hc' := Lib.hid hc'
        have Hj' := Lib.hid hj'
        clear hc' hj'
        go_wp2_with fail
        go_roundw
        case rel =>
          refine ⟨k + 1, by omega, by go_num, by go_num, ⟨cur'.setIfInBounds k (.int .i64 ((q + k : Nat) : Int)), heap_setCell_same _ _ _ _ _ _ Hc'.out, by simpa using hs', fun j hj => ?_⟩, hW.setCell hB _⟩
          by_cases e : j = k
          · subst e; rw [Array.getElem?_setIfInBounds_self_of_lt (by omega)]
          · rw [Array.getElem?_setIfInBounds_ne (fun h => e h.symm)]; exact Hj'.out j (by omega)
        case measure => simp [intOf] <;> omega
      · obtain rfl : k = n := by omega
        clear hc' hj'
        go_wp2_with fail
        go_ret
        refine ⟨⟨hW, ⟨fun _ => ?_⟩⟩, rfl⟩
        obtain ⟨cur', hc', hs', hj'⟩ := Hst.out
        exact ⟨g, cur', t, rfl, hB, hc', by rw [marks_length]; exact hs', fun j hj => by
          rw [marks_length] at hj
          rw [marks_get q k j hj]; exact hj' j hj⟩


theorem heldIntS_any (B n q : Nat) (a : Option Addr) (ca : Nat) (w : World) (h1 : IntsAt w B a (marks q n)) (hn1 : n ≤ 4000000) (hq : q ≤ 4000000) :
    Calls Tryd.prog 57 #[.slice a n ca, .int .i64 q] w fun e w' => w = w' ∧ e = .returned (.int .i64 ((q + n : Nat) : Int)) := by
  have H1 := Lib.hid h1.at'
  clear h1
  go_enter Tryd.func57, Tryd.ntmps57
  go_wp2_with fail
  go_loop [1, 5] (fun m i => ∃ k : Nat, k ≤ n ∧ i = .int .i64 k ∧ m = .int .i64 ((q + k : Nat) : Int)) (fun _ i => n - (intOf i).toNat)
  case atStart => exact ⟨0, Nat.zero_le _, rfl, rfl⟩
  case round =>
    obtain ⟨k, hk, rfl, rfl⟩ := hrel
    by_cases hlt : k < n
    · obtain ⟨g, cur, t, rfl, hB, hc, hsz, hj⟩ := H1.out (by rw [marks_length]; omega)
      have hu : w.cell? ⟨g, k, none⟩ = some (.int .i64 ((q + k : Nat) : Int)) := by
        rw [cell_of_row w _ _ _ _ _ hc, hj k (by rw [marks_length]; exact hlt), marks_get q n k hlt]
      clear hj hc
      go_wp2_with fail
      go_round
      case rel => exact ⟨k + 1, by omega, by go_num, by go_num⟩
      case measure => simp [intOf] <;> omega
    · obtain rfl : k = n := by omega
      go_wp2_with fail
      go_ret
      exact ⟨rfl, rfl⟩


theorem clip_any (a : Option Addr) (n cap : Nat) (ha : 0 < n → ∃ g, a = some ⟨g, 0, none⟩) (hc : n ≤ cap) (hm : n ≤ 4000000) (w : World) :
    Calls Tryd.prog 112 #[.slice a n cap] w fun e w' => e = .returned (.slice a n n) ∧ w = w' := by
  by_cases h0 : n = 0
  · subst h0
    go_enter Tryd.func112, Tryd.ntmps112
    go_wp2
    go_ret
    exact ⟨rfl, rfl⟩
  · obtain ⟨g, rfl⟩ := ha (by omega)
    have hadd : (⟨g, 0, none⟩ : Addr).add 0 = ⟨g, 0, none⟩ := by simp [Addr.add]
    go_enter Tryd.func112, Tryd.ntmps112
    go_wp2
    go_ret
    exact ⟨rfl, rfl⟩
end Go.Proofs.YtkfagolmpbbckaaDoor
