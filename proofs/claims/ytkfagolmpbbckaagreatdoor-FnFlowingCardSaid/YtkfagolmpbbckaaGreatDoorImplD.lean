/- The program's circuits: all of them, in order. -/
import Derived.Test.YtkfagolmpbbckaaGreatDoorImplC
import Derived.Deep.RegionHeld3
namespace Go.Proofs.YtkfagolmpbbckaaGreatDoor
open Go Go.RowKit Go.Sw
set_option maxRecDepth 100000
set_option linter.unusedVariables false

theorem circ_row : (Tryz.prog.info? 53).map (fun i => (i.zero, i.size, i.bytes)) = some (some (.agg #[.slice none 0 0, .int .i64 0, .int .u8 0]), 3, 40) := by kernel_rfl
theorem circ_build (g n c : Nat) (s z : Int) (w : World) : (Instr.build 53 [(0, .slice (some ⟨g, 0, none⟩) n c), (1, .int .i64 s), (2, .int .u8 z)].toArray).run Tryz.prog w = .ok (.agg #[.slice (some ⟨g, 0, none⟩) n c, .int .i64 s, .int .u8 z]) w := by kernel_rfl
theorem circ_one (g n c : Nat) (s z : Int) (w : World) : (Instr.buildSlice 51 1 [(0, .agg #[.slice (some ⟨g, 0, none⟩) n c, .int .i64 s, .int .u8 z])].toArray).run Tryz.prog w =
    .ok (.slice (some ⟨w.heap.size, 0, none⟩) 1 1) (w.alloc (.cells #[.slice (some ⟨g, 0, none⟩) n c, .int .i64 s, .int .u8 z] 53)) := by kernel_rfl
/-- the cells of a circuit -/
def circCells (N : Net) (way : List Nat) (g c : Nat) : List Value := [.slice (some ⟨g, 0, none⟩) way.length c, .int .i64 (setL way : Nat), .int .u8 (signT (circC N way)).toNat]
/-- the circuits told lie in the row that the variable bo holds -/
structure OutAt (w : World) (N : Net) (base bo : Nat) (v : Value) (cs : List (List Nat)) : Prop where
  var : w.heap[bo]? = some (.cells #[v] 51 (0, 0))
  row : ∃ xs : List Value, w.ownsRow base 53 3 v cs.length xs ∧ ∀ j (h : j < cs.length), ∃ g c, (∀ m, m < 3 → xs[j * 3 + m]? = (circCells N cs[j] g c)[m]?) ∧ RowAt w g cs[j] ∧ g ≠ bo ∧ v.ownBlock ≠ some g
  low : bo < base
theorem OutAt.below {w w' : World} {N : Net} {base bo : Nat} {v : Value} {cs : List (List Nat)} (h : OutAt w N base bo v cs) (hb : Below w.heap.size w w') : OutAt w' N base bo v cs := by
  obtain ⟨h1, ⟨xs, h2, h3⟩, h4⟩ := h
  refine ⟨(hb.block _ (block_lt h1)).trans h1, ⟨xs, own_below h2 hb, fun j hj => ?_⟩, h4⟩
  obtain ⟨g, c, a1, a2, a3⟩ := h3 j hj
  exact ⟨g, c, a1, a2.below hb, a3⟩
/-- only the variable, its row and what is new have turned -/
structure Kp (w w' : World) (bo : Nat) (v v' : Value) : Prop where
  os : w'.os = w.os
  tape : w'.tape = w.tape
  output : w'.output = w.output
  size : w.heap.size ≤ w'.heap.size
  block : ∀ k, k < w.heap.size → k ≠ bo → v.ownBlock ≠ some k → w'.heap[k]? = w.heap[k]?
  own : ∀ q, v'.ownBlock = some q → v.ownBlock = some q ∨ w.heap.size ≤ q
theorem Kp.of_below {w w' : World} {bo : Nat} {v : Value} (h : Below w.heap.size w w') : Kp w w' bo v v :=
  ⟨h.os, h.tape, h.output, h.size, fun k hk _ _ => h.block k hk, fun q hq => .inl hq⟩
theorem Kp.trans {w w1 w2 : World} {bo : Nat} {v v1 v2 : Value} (h : Kp w w1 bo v v1) (k : Kp w1 w2 bo v1 v2) : Kp w w2 bo v v2 :=
  ⟨k.os.trans h.os, k.tape.trans h.tape, k.output.trans h.output, Nat.le_trans h.size k.size, fun j hj hb hv => (k.block j (Nat.lt_of_lt_of_le hj h.size) hb fun e => by
    rcases h.own j e with e | e
    · exact hv e
    · omega).trans (h.block j hj hb hv), fun q hq => by
    rcases k.own q hq with e | e
    · exact h.own q e
    · exact .inr (Nat.le_trans h.size e)⟩
theorem RowAt.kp {w w' : World} {bo g : Nat} {v v' : Value} {way : List Nat} (h : RowAt w g way) (k : Kp w w' bo v v') (h1 : g ≠ bo) (h2 : v.ownBlock ≠ some g) : RowAt w' g way := h.same (k.block g h.1 h1 h2)
/-- one circuit more -/
theorem OutAt.more {w w1 : World} {N : Net} {base bo : Nat} {v v' : Value} {cs : List (List Nat)} {way : List Nat} {g c : Nat} (h : OutAt w N base bo v cs) (hr : RowAt w g way) (hgb : g ≠ bo) (hgv : v.ownBlock ≠ some g) (xs : List Value)
    (hxs : w.ownsRow base 53 3 v cs.length xs ∧ ∀ j (h : j < cs.length), ∃ g c, (∀ m, m < 3 → xs[j * 3 + m]? = (circCells N cs[j] g c)[m]?) ∧ RowAt w g cs[j] ∧ g ≠ bo ∧ v.ownBlock ≠ some g)
    (hg : w.grownBy w1 v.ownBlock) (ho : w1.ownsRow base 53 3 v' (cs.length + 1) (xs ++ circCells N way g c)) (ha : v'.ownBlock = v.ownBlock ∨ v'.ownBlock = some w.heap.size) :
    OutAt (w1.setCell ⟨bo, 0, none⟩ v') N base bo v' (cs ++ [way]) ∧ Kp w (w1.setCell ⟨bo, 0, none⟩ v') bo v v' := by
  obtain ⟨h1, h2⟩ := hxs
  have hlow := h.low
  have hbv : v.ownBlock ≠ some bo := fun e => by have := own_ge h1 e; omega
  have hvar : w1.heap[bo]? = some (.cells #[v] 51 (0, 0)) := (hg.block bo (block_lt h.var) fun e => hbv e.symm).trans h.var
  have hne : ∀ q, q < w.heap.size → v.ownBlock ≠ some q → v'.ownBlock ≠ some q := fun q hq h0 => by
    rcases ha with ha | ha
    · rw [ha]; exact h0
    · rw [ha]; intro e; cases e; omega
  have hsame : ∀ k, k < w.heap.size → k ≠ bo → v.ownBlock ≠ some k → (w1.setCell ⟨bo, 0, none⟩ v').heap[k]? = w.heap[k]? := fun k hk hb hv => by
    rw [heap_setCell_other _ _ _ _ (by show k ≠ bo; exact hb)]
    exact hg.block k hk fun e => hv e.symm
  refine ⟨⟨?_, ⟨xs ++ circCells N way g c, ?_, fun j hj => ?_⟩, hlow⟩, ⟨hg.os, hg.tape, hg.output, by simpa using hg.size, hsame, fun q hq => ?_⟩⟩
  · rw [heap_setCell_same _ _ _ _ _ _ hvar]; rfl
  · rw [List.length_append]
    exact own_same ho fun q hq => heap_setCell_other _ _ _ _ (by
      show q ≠ bo
      have := own_ge ho hq; omega)
  · have hl : xs.length = cs.length * 3 := h1.1
    by_cases e : j < cs.length
    · obtain ⟨g', c', a1, a2, a3, a4⟩ := h2 j e
      refine ⟨g', c', fun m hm => ?_, ?_, a3, hne g' a2.1 a4⟩
      · rw [List.getElem?_append_left (by omega), List.getElem_append_left e]; exact a1 m hm
      · rw [List.getElem_append_left e]; exact a2.same (hsame g' a2.1 a3 a4)
    · have hj' : j < cs.length + 1 := by simpa using hj
      have e2 : j = cs.length := by omega
      subst e2
      refine ⟨g, c, fun m hm => ?_, ?_, hgb, hne g hr.1 hgv⟩
      · rw [List.getElem?_append_right (by omega), hl, Nat.add_sub_cancel_left, List.getElem_append_right (by omega)]; simp
      · rw [List.getElem_append_right (by omega)]
        simpa using hr.same (hsame g hr.1 hgb hgv)
  · rcases ha with ha | ha
    · rw [ha] at hq; exact .inl hq
    · rw [ha] at hq; cases hq; exact .inr (Nat.le_refl _)

/-- what the walking closure has captured -/
structure EnvW (w : World) (N : Net) (base bw bo bk bn cn : Nat) : Prop where
  net : w.cell? ⟨bw, 0, none⟩ = some (.slice (some ⟨bn, 0, none⟩) N.n cn)
  fn : w.cell? ⟨bk, 0, none⟩ = some (.func (.func 81) #[] #[.pointer (some ⟨bw, 0, none⟩), .pointer (some ⟨bo, 0, none⟩), .pointer (some ⟨bk, 0, none⟩)])
  at' : NetAt w bn N.n N.f
  lt : bw < base ∧ bo < base ∧ bk < base ∧ bn < base ∧ bw ≠ bo ∧ bk ≠ bo ∧ bn ≠ bo ∧ base ≤ w.heap.size
theorem EnvW.kp {w w' : World} {N : Net} {base bw bo bk bn cn : Nat} {v v' : Value} (h : EnvW w N base bw bo bk bn cn) (k : Kp w w' bo v v') (hv : ∀ q, v.ownBlock = some q → base ≤ q) : EnvW w' N base bw bo bk bn cn := by
  obtain ⟨h1, h2, h3, l1, l2, l3, l4, l5, l6, l7, l8⟩ := h
  have hb : ∀ j, j < base → j ≠ bo → w'.heap[j]? = w.heap[j]? := fun j hj hjb => k.block j (by omega) hjb fun e => by have := hv j e; omega
  exact ⟨by rw [World.cell?_of_block (w := w) (a := ⟨bw, 0, none⟩) (hb bw l1 l5)]; exact h1, by rw [World.cell?_of_block (w := w) (a := ⟨bk, 0, none⟩) (hb bk l3 l6)]; exact h2, h3.same (hb bn l4 l7), l1, l2, l3, l4, l5, l6, l7, Nat.le_trans l8 k.size⟩

theorem goesB_low {N : Net} {way : List Nat} {k : Nat} (h : k ≤ headN way) : goesB N way k = false := by
  unfold goesB; rw [decide_eq_false (by omega), Bool.false_and]
theorem clone_cells {w : World} {g : Nat} {way : List Nat} (h : RowAt w g way) : ∀ j, j < (way.map Int.ofNat).length → w.cell? ⟨g, 0 + j, none⟩ = some (.int .i64 ((way.map Int.ofNat).getD j 0)) := fun j hj => by
  rw [List.length_map] at hj
  rw [Nat.zero_add, h.2 j hj, List.getD_eq_getElem?_getD, List.getElem?_map, List.getElem?_eq_getElem hj]; rfl
/-- the circuits that go on from a way over the switches below k -/
def subW (N : Net) (f : Nat) (way : List Nat) (k : Nat) : List (List Nat) := subL (fun k => walkL N f (way ++ [k])) (goesB N way) k
theorem walkL_succ (N : Net) (f : Nat) (way : List Nat) : walkL N (f + 1) way = (if closeB N way then [way] else []) ++ subW N f way N.n := rfl
theorem subW_low {N : Net} {f : Nat} {way : List Nat} {k : Nat} (h : k ≤ headN way + 1) : subW N f way k = [] := subL_none fun j hj => goesB_low (by omega)
theorem subW_yes {N : Net} {f : Nat} {way : List Nat} {k : Nat} (h : goesB N way k = true) : subW N f way (k + 1) = subW N f way k ++ walkL N f (way ++ [k]) := by
  unfold subW; rw [subL, if_pos h]
theorem subW_no {N : Net} {f : Nat} {way : List Nat} {k : Nat} (h : goesB N way k = false) : subW N f way (k + 1) = subW N f way k := by
  unfold subW; rw [subL, h, if_neg (by decide)]
theorem subW_length {N : Net} (hn : N.n ≤ 5) (f : Nat) (way : List Nat) (k : Nat) : (subW N f way k).length ≤ k * 6 ^ f := subL_length fun _ _ => walkL_length hn f _
theorem cell_alloc_keep {w : World} {a : Addr} {o : Obj} {v : Value} (h : w.cell? a = some v) : (w.alloc o).cell? a = some v := by
  rw [World.cell?_alloc_some _ _ _ (by rw [h]; rfl)]; exact h
theorem own_lt' {w : World} {base e size n : Nat} {v : Value} {xs : List Value} (h : w.ownsRow base e size v n xs) {q : Nat} (hq : v.ownBlock = some q) : q < w.heap.size := by
  rcases h.2 with ⟨rfl, _⟩ | ⟨g, cap, cur, rfl, _, hg, _⟩
  · cases hq
  · simp only [Value.ownBlock, Option.some.injEq] at hq
    subst hq; exact block_lt hg
theorem rowAt_of_ints {w : World} {B : Nat} {a : Option Addr} {way : List Nat} (hp : 0 < way.length) (h : IntsAt w B a (way.map Int.ofNat)) : ∃ g, a = some ⟨g, 0, none⟩ ∧ B ≤ g ∧ RowAt w g way := by
  obtain ⟨g, cur, tt, e, hB, hc, hcs, hj⟩ := h.at' (by rw [List.length_map]; exact hp)
  exact ⟨g, e, hB, block_lt hc, fun k hk => by
    rw [cell_of_row w _ _ _ _ _ hc, hj k (by rw [List.length_map]; exact hk)]; simp⟩
/-- a copy of a row lies in a block of its own -/
theorem clone_any (g c : Nat) (way : List Nat) (hp : 0 < way.length) (hl : way.length ≤ 5) (w : World) (h : RowAt w g way) :
    Calls Tryz.prog 83 #[.slice (some ⟨g, 0, none⟩) way.length c] w fun e w' => Below w.heap.size w w' ∧ ∃ g' c', e = .returned (.slice (some ⟨g', 0, none⟩) way.length c') ∧ w.heap.size ≤ g' ∧ RowAt w' g' way ∧ w'.ownsRow w.heap.size 3 1 (.slice (some ⟨g', 0, none⟩) way.length c') way.length (ints (way.map Int.ofNat)) := by
  refine (Tryz.slices_Clone_int g 0 way.length c (way.map Int.ofNat) w (by simp) (by omega) (clone_cells h)).mono ?_
  rintro e w' ⟨v, rfl, ho, _, hb⟩
  rw [List.take_of_length_le (by simp)] at ho
  have ho2 : w'.ownsRow w.heap.size 3 1 v (way.map Int.ofNat).length (ints (way.map Int.ofNat)) := by rw [List.length_map]; exact ho
  obtain ⟨a, cp, rfl, hcp, hI⟩ := intsAt_of_own ho2
  obtain ⟨g', rfl, hg, hr⟩ := rowAt_of_ints hp hI
  rw [List.length_map] at ho2 ⊢
  exact ⟨hb, g', cp, rfl, hg, hr, ho2⟩
end Go.Proofs.YtkfagolmpbbckaaGreatDoor
