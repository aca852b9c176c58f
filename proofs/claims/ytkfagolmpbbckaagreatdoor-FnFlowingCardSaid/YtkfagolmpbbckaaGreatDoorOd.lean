/- The program's cycles. -/
import Derived.Test.YtkfagolmpbbckaaGreatDoorOc
import Derived.Lib.AppendZerosOnto
import Derived.Shelf.RegionOpenPlain
import Derived.Lib.Walk
namespace Go.Proofs.YtkfagolmpbbckaaGreatDoor
open Go Go.RowKit Go.Sw
set_option maxRecDepth 100000
set_option linter.unusedVariables false

/-- numbers lie one after the other in block g from place o on -/
def CellsO (w : World) (g o : Nat) (L : List Nat) : Prop := ∀ j (h : j < L.length), w.cell? ⟨g, o + j, none⟩ = some (.int .i64 ((L[j] : Nat) : Int))
theorem CellsO.below {w w' : World} {g o : Nat} {L : List Nat} (h : CellsO w g o L) {B : Nat} (hb : Below B w w') (hg : g < B) : CellsO w' g o L := fun j hj => (hb.cell (show g < B from hg)).trans (h j hj)
theorem CellsO.drop {w : World} {g o : Nat} {L : List Nat} (h : CellsO w g o L) (k : Nat) : CellsO w g (o + k) (L.drop k) := fun j hj => by
  rw [List.length_drop] at hj
  have := h (k + j) (by omega)
  rw [List.getElem_drop, Nat.add_assoc]; exact this
theorem CellsO.take {w : World} {g o : Nat} {L : List Nat} (h : CellsO w g o L) (k : Nat) : CellsO w g o (L.take k) := fun j hj => by
  rw [List.length_take] at hj
  rw [List.getElem_take]; exact h j (by omega)
theorem min_any (g o c : Nat) (L : List Nat) (h0 : 0 < L.length) (hl : L.length ≤ 1000) (w : World) (h : CellsO w g o L) :
    Calls Tryz.prog 117 #[.slice (some ⟨g, o, none⟩) L.length c] w fun e w' => (∃ x, x ∈ L ∧ e = .returned (.int .i64 ((x : Nat) : Int))) ∧ w = w' := by
  have H := Lib.hid h
  have hc0 := h 0 h0
  have hm0 : L[0] ∈ L := List.getElem_mem h0
  have h1 : ¬ ((L.length : Int) < 1) := by omega
  have h2 : (0 : Int) < (L.length : Int) := by omega
  rw [Nat.add_zero] at hc0
  obtain ⟨x0, hx0⟩ : ∃ x, L[0] = x := ⟨_, rfl⟩
  rw [hx0] at hc0 hm0
  clear h hx0
  go_enter Tryz.func117, Tryz.ntmps117
  go_wp2_with fail
  go_loop [3, 4] (fun m i => ∃ (x k : Nat), x ∈ L ∧ m = .int .i64 ((x : Nat) : Int) ∧ k ≤ L.length ∧ i = .int .i64 k) (fun _ i => L.length - (intOf i).toNat)
  case atStart => exact ⟨x0, 1, hm0, rfl, h0, rfl⟩
  case round =>
    obtain ⟨x, k, hx, rfl, hk, rfl⟩ := hrel
    by_cases hlt : k < L.length
    · have hc := H.out k hlt
      have hm : L[k] ∈ L := List.getElem_mem hlt
      obtain ⟨y, hy⟩ : ∃ y, L[k] = y := ⟨_, rfl⟩
      rw [hy] at hc hm
      clear hy
      by_cases hxy : x ≤ y
      · have hmin : min (x : Int) (y : Int) = (x : Int) := by omega
        have hd : (x : Int) ≤ (y : Int) := by omega
        go_wp2_with fail
        go_round
        case rel => exact ⟨x, k + 1, hx, by first | rfl | (rw [if_pos hd]; done) | (simp [hd]; done), by omega, by go_num⟩
        case measure => simp [intOf] <;> omega
      · have hmin : min (x : Int) (y : Int) = (y : Int) := by omega
        have hd : ¬ ((x : Int) ≤ (y : Int)) := by omega
        go_wp2_with fail
        go_round
        case rel => exact ⟨y, k + 1, hm, by first | rfl | (rw [if_neg hd]; done) | (simp [hd]; done), by omega, by go_num⟩
        case measure => simp [intOf] <;> omega
    · go_wp2_with fail
      go_ret
      exact ⟨⟨x, hx, rfl⟩, rfl⟩
theorem index_any (g o c x : Nat) (L : List Nat) (hx : x ∈ L) (hl : L.length ≤ 1000) (w : World) (h : CellsO w g o L) :
    Calls Tryz.prog 116 #[.slice (some ⟨g, o, none⟩) L.length c, .int .i64 ((x : Nat) : Int)] w fun e w' => (∃ k, k < L.length ∧ e = .returned (.int .i64 ((k : Nat) : Int))) ∧ w = w' := by
  have H := Lib.hid h
  clear h
  go_enter Tryz.func116, Tryz.ntmps116
  go_wp2_with fail
  go_loop [5, 8] (fun _ i => ∃ (k : Nat), k ≤ L.length ∧ i = .int .i64 k ∧ ∀ j (h : j < L.length), j < k → L[j] ≠ x) (fun _ i => L.length - (intOf i).toNat)
  case atStart => exact ⟨0, Nat.zero_le _, rfl, fun j _ h => absurd h (Nat.not_lt_zero _)⟩
  case round =>
    obtain ⟨k, hk, rfl, hall⟩ := hrel
    have Hall := Lib.hid hall
    clear hall
    by_cases hlt : k < L.length
    · have hc := H.out k hlt
      have Hn := Lib.hid (fun (e : L[k] ≠ x) => (fun j hj h => by
        by_cases e2 : j = k
        · subst e2; exact e
        · exact Hall.out j hj (by omega) : ∀ j (h : j < L.length), j < k + 1 → L[j] ≠ x))
      obtain ⟨y, hy⟩ : ∃ y, L[k] = y := ⟨_, rfl⟩
      rw [hy] at hc Hn
      clear hy
      by_cases hxy : x = y
      · have he : ((x : Int) == (y : Int)) = true := by rw [beq_iff_eq]; omega
        clear hxy Hn
        go_wp2_with fail
        go_ret
        exact ⟨⟨k, hlt, rfl⟩, rfl⟩
      · have he : ((x : Int) == (y : Int)) = false := by rw [beq_eq_false_iff_ne]; omega
        have Hn2 := Lib.hid (Hn.out fun e => hxy e.symm)
        clear hxy Hn
        go_wp2_with fail
        go_round
        case rel => exact ⟨k + 1, by omega, by go_num, Hn2.out⟩
        case measure => simp [intOf] <;> omega
    · exfalso
      obtain ⟨j, hj, e⟩ := List.getElem_of_mem hx
      exact Hall.out j hj (by omega) e
theorem grow_any (n : Nat) (h1 : 1 ≤ n) (hn : n ≤ 64) (w : World) :
    Calls Tryz.prog 144 #[.slice none 0 0, .int .i64 n] w fun e w' => Below w.heap.size w w' ∧ ∃ v, e = .returned v ∧ w'.ownsRow w.heap.size 3 1 v 0 [] := by
  obtain ⟨i0, hi, hz0, hz1, hz2⟩ := info_parts int_row
  have hGn : 0 + n ≤ grownCap w (0 + n) 0 3 := grownCap_ge w _ _ _
  have hGm := grownCap_le_maxLen w (0 + n) 0 3 (by unfold maxLen; omega)
  have hrz : ∀ ty, (Builtin.append_ #[27, 3] ty #[.slice none 0 0, .int .i64 (n : Int)]).run Tryz.prog w =
      .ok (.slice (some ⟨w.heap.size, 0, none⟩) (0 + n) (grownCap w (0 + n) 0 3)) (w.drew.alloc (.cells (([] : List Value).toArray ++ Builtin.zeroCells (Value.int .i64 0).cells n ++ Builtin.zeroCells (Value.int .i64 0).cells (grownCap w (0 + n) 0 3 - (0 + n))) 3)) := fun ty =>
    Lib.run_append_grow_zeros w 27 3 ty 3 i0 (.int .i64 0) .i64 .i64 Tryz.underlying27 Tryz.underlying3 hi hz0 none 0 0 [] (by rw [hz1]; exact run_firstCells_none w.drew 1 0 0 0) n (by omega) (by rw [hz1]; decide) (by omega) (by omega)
      (by rw [hz2]; omega) (by exact growslice_fits (by omega) (by rw [hz2]; omega))
  have hz : ∀ k, (Builtin.zeroCells (Value.int .i64 0).cells k).size = k := fun k => by simp [Builtin.zeroCells, Value.cells]
  obtain ⟨G, hG⟩ : ∃ G, G = grownCap w (0 + n) 0 3 := ⟨_, rfl⟩
  rw [← hG] at hrz hGn hGm
  have hsz := hz n
  have hsz2 := hz (G - (0 + n))
  have hGm2 : G ≤ maxLen := hGm
  unfold maxLen at hGm
  clear hG hz
  have hGm3 : G ≤ 9223372036854775807 := by omega
  have i1 : ¬ ((n : Int) < 0) := by omega
  have i2 : (n : Int) > 0 := by omega
  have i3 : (0 : Int) < (n : Int) := by omega
  obtain ⟨Z1, hZ1⟩ : ∃ Z, Builtin.zeroCells (Value.int .i64 0).cells n = Z := ⟨_, rfl⟩
  obtain ⟨Z2, hZ2⟩ : ∃ Z, Builtin.zeroCells (Value.int .i64 0).cells (G - (0 + n)) = Z := ⟨_, rfl⟩
  rw [hZ1] at hrz hsz
  rw [hZ2] at hrz hsz2
  have Hsz := Lib.hid (And.intro hsz hsz2)
  have Hrz := Lib.hid hrz
  clear hZ1 hZ2 hsz hsz2 hrz
  go_enter Tryz.func144, Tryz.ntmps144
  go_wp2_with (at_builtin; refine Lib.wpList_append_run _ rfl _ _ _ _ rfl _ _ rfl rfl _ _ (Hrz.out _) ?_)
  go_ret
  refine ⟨((Below.refl w.heap.size w).drew).alloc (by simp) _, _, rfl, rfl, .inr ⟨w.heap.size, G, _, rfl, Nat.le_refl _, heap_alloc_new w.drew _, Nat.zero_le _, hGm2, ?_, by simp⟩⟩
  simp only [List.append_toArray, Array.size_append, Hsz.out.1, Hsz.out.2]
  simp
  omega
end Go.Proofs.YtkfagolmpbbckaaGreatDoor
