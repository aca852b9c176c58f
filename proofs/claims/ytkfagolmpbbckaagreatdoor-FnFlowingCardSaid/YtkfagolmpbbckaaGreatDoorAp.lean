/- Rows that the call owns: what stays when another one grows; append of one element of any size. -/
import Derived.Test.YtkfagolmpbbckaaGreatDoorProg
import Derived.Test.YtkfagolmpbbckaaGreatDoorNet
import Derived.Maps.AppendAt
import Derived.OwnWalk
namespace Go.Proofs.YtkfagolmpbbckaaGreatDoor
open Go Go.RowKit Go.Sw
set_option maxRecDepth 100000
set_option linter.unusedVariables false

theorem own_blt {w : World} {base e size n : Nat} {v : Value} {xs : List Value} (h : w.ownsRow base e size v n xs) {q : Nat} (hq : v.ownBlock = some q) : q < w.heap.size := (World.ownsRow.lt h q hq).2
/-- a row stays if its block does -/
theorem own_same {w w' : World} {base e size n : Nat} {v : Value} {xs : List Value} (h : w.ownsRow base e size v n xs) (hs : ∀ q, v.ownBlock = some q → w'.heap[q]? = w.heap[q]?) : w'.ownsRow base e size v n xs := by
  refine ⟨h.1, ?_⟩
  rcases h.2 with h0 | ⟨g, cap, cur, rfl, hb, hg, h1⟩
  · exact .inl h0
  · exact .inr ⟨g, cap, cur, rfl, hb, (hs g rfl).trans hg, h1⟩
theorem own_grown {w w' : World} {base e size n : Nat} {v : Value} {xs : List Value} {row : Option Nat} (h : w.ownsRow base e size v n xs) (hg : w.grownBy w' row) (hne : ∀ q, v.ownBlock = some q → row ≠ some q) : w'.ownsRow base e size v n xs :=
  own_same h fun q hq => hg.block q (own_blt h hq) fun e => hne q hq e.symm
theorem NetAt.same {w w' : World} {b n : Nat} {f : Nat → Nat → Bool} (h : NetAt w b n f) (hs : w'.heap[b]? = w.heap[b]?) : NetAt w' b n f :=
  fun i hi j v hv => by rw [World.cell?_of_block (w := w) (a := ⟨b, _, none⟩) hs]; exact h i hi j v hv
/-- append of one element of any size to a row that the call owns -/
theorem wpList_elem_append {ops : Array Oper} {rest : List Oper} {o : Oper} {a : Act} {w : World} {Q : Exit → Act → World → Prop} (hgd : o.guard = none) (s x : Operand) (ts te : TypeId) (z : Value) (size by' : Nat)
    (hrow : (Tryz.prog.info? te).map (fun i => (i.zero, i.size, i.bytes)) = some (some z, size, by')) (hzs : z.cells.size = size) (hsz : 0 < size) (hby : by' ≤ 64) (hts : Tryz.prog.underlying ts = some (.slice te))
    (ho : o.op = .call { callee := .builtin .append, args := #[s, x], argTypes := #[ts, ts] })
    (base : Nat) (v : Value) (n : Nat) (xs : List Value) (hs : a.eval s = v) (hown : w.ownsRow base te size v n xs)
    (b : Nat) (news : List Value) (hx : a.eval x = .slice (some ⟨b, 0, none⟩) 1 1) (hl : news.length = size) (hc : w.rangeAt b 0 news) (h1 : ∀ u ∈ news, u.oneCell' = true) (hk : n ≤ 1000000) (hB0 : base ≤ w.heap.size)
    (h : ∀ v' w', w'.ownsRow base te size v' (n + 1) (xs ++ news) → w.grownBy w' v.ownBlock → (v'.ownBlock = v.ownBlock ∨ v'.ownBlock = some w.heap.size) → wpList Tryz.prog ops Q rest (a.put o.dst v') w') : wpList Tryz.prog ops Q (o :: rest) a w := by
  obtain ⟨i0, hi, hz0, hz1, hz2⟩ := info_parts hrow
  refine wpList_append_own_at w hgd s x ts ho base te i0 z size by' hts hi hz0 hz1 hz2 hzs hsz v n xs hs hown ⟨b, 0, none⟩ 1 1 news hx (by rw [hl]; omega)
    (fun j u hu => by rw [Addr.add_mid]; exact hc j u hu) h1 (by unfold maxLen; omega) (by
      have : (n + 1) * by' ≤ 1000001 * 64 := Nat.mul_le_mul (by omega) hby
      omega) hB0 ?_
  intro v' w' h1 h2 _ h4
  exact h v' w' h1 h2 h4
/-- the cells of a new block -/
theorem range_one {w : World} {b : Nat} {u : Value} {t : TypeId} (hb : b = w.heap.size) : (w.alloc (.cells #[u] t)).rangeAt b 0 [u] := by
  subst hb
  intro j v hv
  rw [cell_of_row _ _ (0 + j) _ t (0, 0) (heap_alloc_last _ _), Nat.zero_add]; simpa using hv
/-- a row of one element, made just now -/
theorem own_made1 (w : World) (u : Value) (e base : Nat) (hb : base ≤ w.heap.size) : (w.alloc (.cells #[u] e)).ownsRow base e 1 (.slice (some ⟨w.heap.size, 0, none⟩) 1 1) 1 [u] :=
  ⟨rfl, .inr ⟨w.heap.size, 1, #[u], rfl, hb, heap_alloc_new w _, Nat.le_refl _, by unfold maxLen; omega, rfl, rfl⟩⟩

end Go.Proofs.YtkfagolmpbbckaaGreatDoor
