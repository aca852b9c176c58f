/- Slices of texts: made by append, clipped, compared, marked and held. -/
import Derived.Test.YtkfagolmpbbckaaGreatDoorProg
import Derived.Test.YtkfagolmpbbckaaGreatDoorP1
import Derived.Test.YtkfagolmpbbckaaGreatDoorSpecA
import Derived.Deep.WholeRow
import Derived.WalkSpells
import Derived.Maps.AppendAt
namespace Go.Proofs.YtkfagolmpbbckaaGreatDoor
open Go Go.RowKit Go.Sw
set_option maxRecDepth 100000
set_option linter.unusedVariables false

/-- the values of texts -/
def texts (xs : List ByteArray) : List Value := xs.map Value.string
theorem texts_length (xs : List ByteArray) : (texts xs).length = xs.length := by simp [texts]
theorem texts_snoc (xs : List ByteArray) (x : ByteArray) : texts (xs ++ [x]) = texts xs ++ [.string x] := by simp [texts]
/-- append of a text to a list of texts that the call owns, told what stays: every block but the list's own -/
theorem wpList_text_appendK {ops : Array Oper} {rest : List Oper} {o : Oper} {a : Act} {w : World} {Q : Exit → Act → World → Prop} (hgd : o.guard = none) (s x : Operand)
    (ho : o.op = .call { callee := .builtin .append, args := #[s, x], argTypes := #[31, 31] })
    (base : Nat) (v : Value) (xs : List ByteArray) (hs : a.eval s = v) (hown : w.ownsRow base 9 1 v xs.length (texts xs))
    (b : Nat) (p : ByteArray) (hx : a.eval x = .slice (some ⟨b, 0, none⟩) 1 1) (hc : w.cell? ⟨b, 0, none⟩ = some (.string p)) (hk : xs.length ≤ 4000000) {B : Nat} {w0 : World} (hW : Below B w0 w) (hB : B ≤ base) (hB0 : base ≤ w.heap.size)
    (h : ∀ v' w', w'.ownsRow base 9 1 v' (xs ++ [p]).length (texts (xs ++ [p])) → Below B w0 w' → (∀ k, k < w.heap.size → v.ownBlock ≠ some k → w'.heap[k]? = w.heap[k]? ∧ v'.ownBlock ≠ some k) → wpList Tryz.prog ops Q rest (a.put o.dst v') w') : wpList Tryz.prog ops Q (o :: rest) a w := by
  obtain ⟨i0, hi, hz0, hz1, hz2⟩ := info_parts str_row
  refine wpList_append_own_at w hgd s x 31 ho base 9 i0 (.string ByteArray.empty) 1 16 Tryz.underlying31 hi hz0 hz1 hz2 rfl (by decide) v xs.length (texts xs) hs hown ⟨b, 0, none⟩ 1 1 [.string p] hx rfl
    (fun j u hu => by
      rcases j with _ | j
      · simp at hu; subst hu; simpa [Addr.add] using hc
      · simp at hu) (fun u hu => by simp at hu; subst hu; rfl) (by unfold maxLen; omega) (by omega) hB0 ?_
  intro v' w' h1 h2 _ h4
  refine h v' w' (by rw [texts_snoc, List.length_append]; exact h1) (hW.grown h2 (by omega) fun g hg => Nat.le_trans hB (own_ge hown hg)) fun k hk hne => ⟨h2.block k hk fun e => hne e.symm, ?_⟩
  rcases h4 with h4 | h4
  · rw [h4]; exact hne
  · rw [h4]; intro e; cases e; exact Nat.lt_irrefl _ hk
/-- texts lie in a slice whose block is at or above B, and may be written -/
structure TextsAt (w : World) (B : Nat) (a : Option Addr) (xs : List ByteArray) : Prop where
  at' : 0 < xs.length → ∃ g cur t, a = some ⟨g, 0, none⟩ ∧ B ≤ g ∧ w.heap[g]? = some (.cells cur t (0, 0)) ∧ xs.length ≤ cur.size ∧ ∀ j (h : j < xs.length), cur[j]? = some (.string xs[j])
theorem TextsAt.below {w w' : World} {B : Nat} {a : Option Addr} {xs : List ByteArray} (h : TextsAt w B a xs) (hb : Below w.heap.size w w') : TextsAt w' B a xs :=
  ⟨fun h0 => by
    obtain ⟨g, cur, t, h1, h2, h3, h4⟩ := h.at' h0
    exact ⟨g, cur, t, h1, h2, (hb.block _ (block_lt h3)).trans h3, h4⟩⟩
theorem TextsAt.below' {w w' : World} {B B' : Nat} {a : Option Addr} {xs : List ByteArray} (h : TextsAt w B a xs) (hb : Below B' w w') (hlt : 0 < xs.length → ∀ g, a = some ⟨g, 0, none⟩ → g < B') : TextsAt w' B a xs :=
  ⟨fun h0 => by
    obtain ⟨g, cur, t, h1, h2, h3, h4⟩ := h.at' h0
    exact ⟨g, cur, t, h1, h2, (hb.block _ (hlt h0 g h1)).trans h3, h4⟩⟩
theorem TextsAt.mono {w : World} {B B' : Nat} {a : Option Addr} {xs : List ByteArray} (h : TextsAt w B a xs) (hb : B' ≤ B) : TextsAt w B' a xs :=
  ⟨fun h0 => by
    obtain ⟨g, cur, t, h1, h2, h3⟩ := h.at' h0
    exact ⟨g, cur, t, h1, by omega, h3⟩⟩
theorem TextsAt.lt {w : World} {B : Nat} {a : Option Addr} {xs : List ByteArray} (h : TextsAt w B a xs) : 0 < xs.length → ∀ g, a = some ⟨g, 0, none⟩ → g < w.heap.size := fun h0 g hg => by
  obtain ⟨g', cur, t, h1, h2, h3, h4⟩ := h.at' h0
  rw [hg] at h1
  obtain rfl : g = g' := by simpa using h1
  exact block_lt h3
theorem textsAt_nil (w : World) (B : Nat) (a : Option Addr) : TextsAt w B a [] := ⟨fun h => absurd h (by simp)⟩
theorem textsAt_of_own {w : World} {base : Nat} {e : TypeId} {v : Value} {xs : List ByteArray} (h : w.ownsRow base e 1 v xs.length (texts xs)) : ∃ a cap, v = .slice a xs.length cap ∧ xs.length ≤ cap ∧ TextsAt w base a xs := by
  rcases h.2 with ⟨rfl, hz⟩ | ⟨g, cap, cur, rfl, hb, hg, h1, h2, h3, h4⟩
  · refine ⟨none, 0, by rw [hz], by omega, ⟨fun h0 => by omega⟩⟩
  · refine ⟨_, cap, rfl, h1, ⟨fun h0 => ⟨g, cur, e, rfl, hb, hg, by omega, fun j hj => ?_⟩⟩⟩
    have : (texts xs)[j]? = some (.string xs[j]) := by simp [texts, hj]
    rw [← h4, List.getElem?_take] at this
    rw [if_pos (by omega)] at this
    simpa using this


/-- the decimal digits of a number, at most so many -/
def digs : Nat → Nat → List UInt8
  | 0, _ => []
  | f + 1, k => if k = 0 then [] else digs f (k / 10) ++ [UInt8.ofNat (48 + k % 10)]
/-- the mark of a number -/
def markT (k : Nat) : ByteArray := bs (109 :: digs 20 k)
/-- n marks from q on -/
def tmarks (q n : Nat) : List ByteArray := (List.range n).map fun j => markT (q + j)
theorem tmarks_length (q n : Nat) : (tmarks q n).length = n := by simp [tmarks]
theorem tmarks_get (q n j : Nat) (h : j < n) : (tmarks q n)[j]'(by rw [tmarks_length]; exact h) = markT (q + j) := by simp [tmarks]

theorem clips_any (a : Option Addr) (n cap : Nat) (ha : 0 < n → ∃ g, a = some ⟨g, 0, none⟩) (hc : n ≤ cap) (hm : n ≤ 4000000) (w : World) :
    Calls Tryz.prog 46 #[.slice a n cap] w fun e w' => e = .returned (.slice a n n) ∧ w = w' := by
  by_cases h0 : n = 0
  · subst h0
    go_enter Tryz.func46, Tryz.ntmps46
    go_wp2
    go_ret
    exact ⟨rfl, rfl⟩
  · obtain ⟨g, rfl⟩ := ha (by omega)
    have hadd : (⟨g, 0, none⟩ : Addr).add 0 = ⟨g, 0, none⟩ := by simp [Addr.add]
    go_enter Tryz.func46, Tryz.ntmps46
    go_wp2
    go_ret
    exact ⟨rfl, rfl⟩
end Go.Proofs.YtkfagolmpbbckaaGreatDoor
