/- Maps of numbers to truths that the call makes: sets of states; looked up, written, ranged over. -/
import Derived.Test.YtkfagolmpbbckaaGreatDoorImplA
import Derived.Maps.Own
import Derived.Maps.OwnOps
import Derived.Maps.OwnSet
import Derived.Maps.RangeWalk
namespace Go.Proofs.YtkfagolmpbbckaaGreatDoor
open Go Go.RowKit Go.Sw Go.Maps
set_option maxRecDepth 100000
set_option linter.unusedVariables false

theorem mlaw : Keyed Tryz.prog 3 := int_keyed Tryz.underlying3
theorem mzero (w : World) : (zeroValue 4).run Tryz.prog w = .ok (.bool false) w := by kernel_rfl
noncomputable abbrev mR : Value → Option (DataW Unit × List MemPlace) := plainElem (H := Unit) Tryz.prog 4
def mkey (i : Nat) : Lit := .int .i64 (i : Int)
theorem mkey_inj {i j : Nat} (h : mkey i = mkey j) : i = j := by
  unfold mkey at h
  injection h with _ h
  omega
theorem mkey_of {i : Nat} (hi : i < 32) : keyOf Tryz.prog 3 (.int .i64 (i : Int)) = some (mkey i) := keyOf_int_mk Tryz.underlying3 (WalkArith.wf_i64 (by omega))
theorem plainElem_bool_inv {v : Value} {z : DataW Unit × List MemPlace} (h : mR v = some z) : ∃ x, v = .bool x ∧ z = (.lit (.bool x), []) := by
  unfold mR plainElem at h
  rw [Tryz.underlying4] at h
  cases v <;> simp at h
  exact ⟨_, rfl, h.symm⟩
/-- block b is a map of at most n entries that holds just the numbers of S, each below 32, with the value true -/
structure SetM (w : World) (b n : Nat) (S : Nat → Bool) : Prop where
  at' : ∃ D : DataW Unit, w.ownsMap Tryz.prog 3 mR b n D ∧ (∀ i, i < 32 → D.atKey (mkey i) (.lit (.bool false)) = .lit (.bool (S i))) ∧ (∀ kl, Maps.has D kl = true → ∃ i, i < 32 ∧ kl = mkey i ∧ S i = true) ∧ ∀ i, i < 32 → S i = true → Maps.has D (mkey i) = true
theorem SetM.same {w w' : World} {b n : Nat} {S : Nat → Bool} (h : SetM w b n S) (hb : w'.heap[b]? = w.heap[b]?) : SetM w' b n S := by
  obtain ⟨D, ⟨es, clock, h1, h2⟩, h3⟩ := h.at'
  exact ⟨D, ⟨es, clock, hb.trans h1, h2⟩, h3⟩
theorem SetM.lt {w : World} {b n : Nat} {S : Nat → Bool} (h : SetM w b n S) : b < w.heap.size := by
  obtain ⟨D, h1, _⟩ := h.at'
  exact h1.lt
theorem SetM.below {w w' : World} {b n : Nat} {S : Nat → Bool} (h : SetM w b n S) (hb : Below w.heap.size w w') : SetM w' b n S := h.same (hb.block b h.lt)
theorem SetM.congr {w : World} {b n : Nat} {S T : Nat → Bool} (h : SetM w b n S) (e : ∀ i, i < 32 → S i = T i) : SetM w b n T := by
  obtain ⟨D, h1, h2, h3, h4⟩ := h.at'
  exact ⟨D, h1, fun i hi => by rw [h2 i hi, e i hi], fun kl hk => by
    obtain ⟨i, hi, e1, e2⟩ := h3 kl hk
    exact ⟨i, hi, e1, by rw [← e i hi]; exact e2⟩, fun i hi hS => h4 i hi (by rw [e i hi]; exact hS)⟩
theorem setM_made (w : World) : SetM (w.alloc (.map #[] 0)) w.heap.size 0 fun _ => false :=
  ⟨.map [], World.ownsMap_made w _ _ _, fun i _ => rfl, fun kl h => by simp [Maps.has_eq] at h, fun i _ h => by cases h⟩
/-- a look-up -/
theorem wpList_lookup_setM (w : World) {ops : Array Oper} {rest : List Oper} {o : Oper} {a : Act} {Q : Exit → Act → World → Prop}
    (hg : o.guard = none) (m x : Operand) (hop : o.op = Op.lookup 93 m x false) (b n : Nat) (S : Nat → Bool) (hm : a.eval m = .map (some b)) (h : SetM w b n S) (i : Nat) (hi : i < 32) (hx : a.eval x = .int .i64 (i : Int))
    (hK : wpList Tryz.prog ops Q rest (a.put o.dst (.bool (S i))) w) : wpList Tryz.prog ops Q (o :: rest) a w := by
  refine wpList_plain hg fun K' hK' => ?_
  obtain ⟨D, h1, h2, _⟩ := h.at'
  obtain ⟨v, ps, hrun, hv⟩ := h1.lookup mlaw Tryz.underlying93 (mzero w) (plainElem_bool Tryz.underlying4 false) (mkey_of hi)
  obtain ⟨c, rfl, hc⟩ := plainElem_bool_inv hv
  rw [h2 i hi] at hc
  have e : S i = c := by
    simp only [Prod.mk.injEq] at hc
    simpa using hc.1
  unfold Oper.wp
  simp [execOp, hop, hm, hx, hrun, Result.andThen]
  rw [← e]
  exact hK' _ _ hK
theorem mkey_lit (i : Nat) : WideAt.IsKeyLit (mkey i) := by unfold mkey; first | trivial | simp [WideAt.IsKeyLit]
theorem atKey_put {D : DataW Unit} (hD : IsMap D) (i j : Nat) (z : DataW Unit) : (D.put (mkey i) (.lit (.bool true))).atKey (mkey j) z = if j = i then .lit (.bool true) else D.atKey (mkey j) z := by
  by_cases e : j = i
  · subst e; rw [if_pos rfl]; exact atKey_put_same hD (mkey_lit _) _ _
  · rw [if_neg e]; exact atKey_put_other (fun h => e (mkey_inj h)) _ _
theorem SetM.put {w' : World} {b n i : Nat} {D : DataW Unit} {S : Nat → Bool} (hi : i < 32) (h1 : w'.ownsMap Tryz.prog 3 mR b (n + 1) (D.put (mkey i) (.lit (.bool true)))) (hD : IsMap D) (h2 : ∀ i, i < 32 → D.atKey (mkey i) (.lit (.bool false)) = .lit (.bool (S i)))
    (h3 : ∀ kl, Maps.has D kl = true → ∃ i, i < 32 ∧ kl = mkey i ∧ S i = true) (h4 : ∀ i, i < 32 → S i = true → Maps.has D (mkey i) = true) : SetM w' b (n + 1) fun j => j == i || S j := by
  refine ⟨_, h1, fun j hj => ?_, fun kl hk => ?_, fun j hj hS => ?_⟩
  · rw [atKey_put hD, h2 j hj]
    by_cases e : j = i
    · subst e; simp
    · simp [e]
  · by_cases e : kl = mkey i
    · exact ⟨i, hi, e, by simp⟩
    · rw [has_put_other e] at hk
      obtain ⟨j, hj, e1, e2⟩ := h3 kl hk
      exact ⟨j, hj, e1, by simp [e2]⟩
  · by_cases e : j = i
    · subst e; exact has_put_same hD (mkey_lit _) _
    · rw [has_put_other (fun h => e (mkey_inj h))]
      have hSj : S j = true := by simpa [e] using hS
      exact h4 j hj hSj
/-- a store, an element of a literal -/
theorem wpList_update_setM (w : World) {ops : Array Oper} {rest : List Oper} {o : Oper} {a : Act} {Q : Exit → Act → World → Prop}
    (hg : o.guard = none) (m x v : Operand) (hop : o.op = Op.mapUpdate 93 m x v ∨ o.op = Op.insert 93 m x v) (b n : Nat) (S : Nat → Bool) (hm : a.eval m = .map (some b)) (h : SetM w b n S) (hn : n < 1000000) (i : Nat) (hi : i < 32) (hx : a.eval x = .int .i64 (i : Int)) (hv : a.eval v = .bool true)
    (hK : ∀ w', SetM w' b (n + 1) (fun j => j == i || S j) → w.grownBy w' (some b) → wpList Tryz.prog ops Q rest (a.put o.dst undef) w') : wpList Tryz.prog ops Q (o :: rest) a w := by
  refine wpList_plain hg fun K' hK' => ?_
  obtain ⟨D, h1, h2, h3, h4⟩ := h.at'
  obtain ⟨w', hrun, r1, r2⟩ := h1.update mlaw Tryz.underlying93 (by unfold maxLen; omega) (mkey_of hi) (plainElem_bool Tryz.underlying4 true)
  have hs := SetM.put hi r1 h1.isMap h2 h3 h4
  unfold Oper.wp
  rcases hop with hop | hop
  · simp [execOp, hop, hm, hx, hv, hrun, Result.andThen]
    exact hK' _ _ (hK w' hs r2)
  · simp [execOp, hop, hm, hx, hv, hrun, Result.andThen]
    exact hK' _ _ (hK w' hs r2)
theorem wpList_insert_setM (w : World) {ops : Array Oper} {rest : List Oper} {o : Oper} {a : Act} {Q : Exit → Act → World → Prop}
    (hg : o.guard = none) (m x v : Operand) (hop : o.op = Op.insert 93 m x v) (b n : Nat) (S : Nat → Bool) (hm : a.eval m = .map (some b)) (h : SetM w b n S) (hn : n < 1000000) (i : Nat) (hi : i < 32) (hx : a.eval x = .int .i64 (i : Int)) (hv : a.eval v = .bool true)
    (hK : ∀ w', SetM w' b (n + 1) (fun j => j == i || S j) → w.grownBy w' (some b) → wpList Tryz.prog ops Q rest (a.put o.dst undef) w') : wpList Tryz.prog ops Q (o :: rest) a w :=
  wpList_update_setM w hg m x v (.inr hop) b n S hm h hn i hi hx hv hK
theorem wpList_mapUpdate_setM (w : World) {ops : Array Oper} {rest : List Oper} {o : Oper} {a : Act} {Q : Exit → Act → World → Prop}
    (hg : o.guard = none) (m x v : Operand) (hop : o.op = Op.mapUpdate 93 m x v) (b n : Nat) (S : Nat → Bool) (hm : a.eval m = .map (some b)) (h : SetM w b n S) (hn : n < 1000000) (i : Nat) (hi : i < 32) (hx : a.eval x = .int .i64 (i : Int)) (hv : a.eval v = .bool true)
    (hK : ∀ w', SetM w' b (n + 1) (fun j => j == i || S j) → w.grownBy w' (some b) → wpList Tryz.prog ops Q rest (a.put o.dst undef) w') : wpList Tryz.prog ops Q (o :: rest) a w :=
  wpList_update_setM w hg m x v (.inl hop) b n S hm h hn i hi hx hv hK
/-- block r is an iterator over the map in block b, which holds just the numbers of S; those of left are still to come -/
def RngM (w : World) (b r n : Nat) (S left : Nat → Bool) : Prop := ∃ (D : DataW Unit) (lf : Lit → Bool) (cnt : Nat), w.ranges Tryz.prog 3 mR b r n D lf cnt ∧ (∀ i, i < 32 → D.atKey (mkey i) (.lit (.bool false)) = .lit (.bool (S i))) ∧ (∀ kl, lf kl = true → ∃ i, i < 32 ∧ kl = mkey i ∧ S i = true) ∧ ∀ i, i < 32 → lf (mkey i) = left i
theorem RngM.below {w w' : World} {b r n : Nat} {S left : Nat → Bool} (h : RngM w b r n S left) (hb : Below w.heap.size w w') : RngM w' b r n S left ∧ w'.rangeLeft b r = w.rangeLeft b r := by
  obtain ⟨D, lf, cnt, h1, h2, h3, h4⟩ := h
  have hg : w.grownBy w' none := ⟨hb.os, hb.tape, hb.output, hb.size, fun i hi _ => hb.block i hi⟩
  have hk := h1.kept hg (by simp) (by simp)
  exact ⟨⟨D, lf, cnt, hk, h2, h3, h4⟩, by rw [hk.left_eq, h1.left_eq]⟩
theorem RngM.lt {w : World} {b r n : Nat} {S left : Nat → Bool} (h : RngM w b r n S left) : r < w.heap.size ∧ b < w.heap.size ∧ r ≠ b := by
  obtain ⟨D, lf, cnt, h1, _⟩ := h
  exact ⟨h1.lt, h1.owns.lt, h1.ne⟩
theorem mkey_same (i j : Nat) : (mkey j).sameKey (mkey i) = (j == i) := by
  by_cases e : j = i
  · subst e
    simp [mkey, Lit.sameKey]
  · rw [sameKey_ne (fun h => e (mkey_inj h))]
    simp [e]
theorem wpList_range_setM (w : World) {ops : Array Oper} {rest : List Oper} {o : Oper} {a : Act} {Q : Exit → Act → World → Prop}
    (hg : o.guard = none) (m : Operand) (hop : o.op = Op.range 93 m) (b n : Nat) (S : Nat → Bool) (hm : a.eval m = .map (some b)) (h : SetM w b n S)
    (hK : ∀ w', RngM w' b w.heap.size n S S → w.grownBy w' none → w'.heap.size = w.heap.size + 1 → wpList Tryz.prog ops Q rest (a.put o.dst (.pointer (some ⟨w.heap.size, 0, none⟩))) w') : wpList Tryz.prog ops Q (o :: rest) a w := by
  obtain ⟨D, h1, h2, h3, h4⟩ := h.at'
  refine wpList_range_own w hg m 93 hop 3 4 mlaw Tryz.underlying93 mR b n D hm h1 fun w' r1 r2 r3 => hK w' ⟨D, _, _, r1, h2, h3, fun i hi => ?_⟩ r2 r3
  cases e : S i
  · cases e2 : Maps.has D (mkey i) with
    | false => rfl
    | true =>
      obtain ⟨j, _, e3, e4⟩ := h3 _ e2
      have := mkey_inj e3
      subst this
      rw [e] at e4; cases e4
  · exact h4 i hi e
theorem wpList_next_setM (w : World) {ops : Array Oper} {rest : List Oper} {o : Oper} {a : Act} {Q : Exit → Act → World → Prop}
    (hg : o.guard = none) (it : Operand) (hop : o.op = Op.next it false) (b r n : Nat) (S left : Nat → Bool) (hit : a.eval it = .pointer (some ⟨r, 0, none⟩)) (h : RngM w b r n S left)
    (hDone : (∀ i, i < 32 → left i = false) → wpList Tryz.prog ops Q rest (a.put o.dst (.tuple #[.bool false])) w)
    (hMore : ∀ (i : Nat) (w' : World), i < 32 → left i = true → S i = true → RngM w' b r n S (fun j => left j && !(j == i)) → w'.rangeLeft b r < w.rangeLeft b r → w.grownBy w' (some r) → w'.heap.size = w.heap.size →
      (Instr.entry (.pointer (some ⟨r, 0, none⟩))).run Tryz.prog w' = .ok (.tuple #[.int .i64 (i : Int), .bool true]) w' → wpList Tryz.prog ops Q rest (a.put o.dst (.tuple #[.bool true, .int .i64 (i : Int), .bool true])) w') : wpList Tryz.prog ops Q (o :: rest) a w := by
  obtain ⟨D, lf, cnt, h1, h2, h3, h4⟩ := h
  refine wpList_next_ranges w hg it hop 3 mlaw mR (Value.int .i64) Value.bool (fun key kl hkey => by
      obtain ⟨x, rfl, _⟩ := Maps.keyOf_int_inv Tryz.underlying3 hkey; exact ⟨x, rfl⟩) (fun v y hv => by
      obtain ⟨x, rfl, _⟩ := plainElem_bool_inv hv; exact ⟨x, rfl⟩) b r n D lf cnt hit h1 (fun _ hl => hDone fun i hi => by rw [← h4 i hi]; exact hl _) ?_
  intro x c kl y w' cnt' hkey hlk hv hat hrg hlt hgr hsz hen
  obtain ⟨i, hi, rfl, hS⟩ := h3 kl hlk
  obtain ⟨x', ex, ekl, _⟩ := Maps.keyOf_int_inv Tryz.underlying3 hkey
  cases ex
  have exi : x = (i : Int) := by
    unfold mkey at ekl
    injection ekl with _ e
    exact e.symm
  subst exi
  obtain ⟨c', ec, ey⟩ := plainElem_bool_inv hv
  cases ec
  have hc : c = true := by
    have e1 := hat (.lit (.bool false))
    rw [h2 i hi, hS, ey] at e1
    have e2 : (Lit.bool true) = Lit.bool c := by injection e1
    injection e2 with e3
    exact e3.symm
  subst hc
  refine hMore i w' hi (by rw [← h4 i hi]; exact hlk) hS ⟨D, _, cnt', hrg, h2, fun kl2 hk2 => ?_, fun j hj => ?_⟩ (by rw [hrg.left_eq, h1.left_eq]; exact hlt) hgr hsz hen
  · simp only [Bool.and_eq_true] at hk2
    exact h3 kl2 hk2.1
  · rw [h4 j hj, mkey_same]
end Go.Proofs.YtkfagolmpbbckaaGreatDoor
