/- The program's terms in memory: states written, the least term of some states; traps. -/
import Derived.Test.YtkfagolmpbbckaaGreatDoorImplE
import Derived.Laws.IdiomStrings
import Derived.Deep.LoopGhost
namespace Go.Proofs.YtkfagolmpbbckaaGreatDoor
open Go Go.RowKit Go.Sw
set_option maxRecDepth 100000
set_option linter.unusedVariables false

theorem heap_setCell_fr (w : World) (g i : Nat) (cs : Array Value) (t : TypeId) (fr : Nat × Nat) (v : Value) (hg : w.heap[g]? = some (.cells cs t fr)) : (w.setCell ⟨g, i, none⟩ v).heap[g]? = some (.cells (cs.setIfInBounds i v) t fr) := by
  simp [World.setCell, Array.getElem?_modify, hg]
/-- a letter as a number -/
def lv (o : Option Bool) : Nat := (letterT o).toNat
/-- the letters of a term lie in block g, and may be written -/
def TermAt (w : World) (g n : Nat) (p : Trm) : Prop := ∃ cur t fr, w.heap[g]? = some (.cells cur t fr) ∧ n ≤ cur.size ∧ (n ≤ fr.1 ∨ fr = (0, 0)) ∧ ∀ i, i < n → cur[i]? = some (.int .u8 (lv (p i)))
theorem TermAt.congr {w : World} {g n : Nat} {p q : Trm} (h : TermAt w g n p) (e : ∀ i, i < n → p i = q i) : TermAt w g n q := by
  obtain ⟨cur, t, fr, h1, h2, h3, h4⟩ := h
  exact ⟨cur, t, fr, h1, h2, h3, fun i hi => by rw [← e i hi]; exact h4 i hi⟩
theorem TermAt.cell {w : World} {g n : Nat} {p : Trm} (h : TermAt w g n p) {i : Nat} (hi : i < n) : w.cell? ⟨g, i, none⟩ = some (.int .u8 (lv (p i))) ∧ w.frozen? ⟨g, i, none⟩ = false := by
  obtain ⟨cur, t, fr, h1, h2, h3, h4⟩ := h
  refine ⟨by rw [cell_of_row w _ _ _ _ _ h1]; exact h4 i hi, ?_⟩
  obtain ⟨lo, hi'⟩ := fr
  simp only [World.frozen?, h1]
  rcases h3 with h3 | h3
  · simp only at h3
    rw [Bool.and_eq_false_iff]
    exact .inl (decide_eq_false (by omega))
  · cases h3; simp
theorem TermAt.set {w : World} {g n : Nat} {p : Trm} (h : TermAt w g n p) {i : Nat} (hi : i < n) (o : Option Bool) : TermAt (w.setCell ⟨g, i, none⟩ (.int .u8 (lv o))) g n (fun j => if j = i then o else p j) := by
  obtain ⟨cur, t, fr, h1, h2, h3, h4⟩ := h
  refine ⟨_, t, fr, heap_setCell_fr _ _ _ _ _ _ _ h1, by simpa using h2, h3, fun j hj => ?_⟩
  by_cases e : j = i
  · subst e
    rw [Array.getElem?_setIfInBounds_self_of_lt (by omega)]; simp
  · rw [Array.getElem?_setIfInBounds_ne (fun h => e h.symm)]
    simp only [if_neg e]; exact h4 j hj
theorem TermAt.same {w w' : World} {g n : Nat} {p : Trm} (h : TermAt w g n p) (hs : w'.heap[g]? = w.heap[g]?) : TermAt w' g n p := by
  obtain ⟨cur, t, fr, h1, h2⟩ := h
  exact ⟨cur, t, fr, hs.trans h1, h2⟩
theorem TermAt.lt {w : World} {g n : Nat} {p : Trm} (h : TermAt w g n p) : g < w.heap.size := by
  obtain ⟨cur, t, fr, h1, h2⟩ := h
  exact block_lt h1
/-- the letters of a term as numbers -/
def lettersP (n : Nat) (p : Trm) : List Int := (List.range n).map fun i => ((lv (p i) : Nat) : Int)
theorem lettersP_text (n : Nat) (p : Trm) : strOfNums (lettersP n p) = termT n p := by
  apply ba_ext
  simp only [strOfNums, lettersP, termT, bs_data, List.map_map]
  apply List.map_congr_left
  intro i _
  simp only [Function.comp, lv]
  cases p i with
  | none => rfl
  | some c => cases c <;> rfl
theorem TermAt.text {w : World} {g n : Nat} {p : Trm} (h : TermAt w g n p) (cap : Nat) : (convert 22 9 (.slice (some ⟨g, 0, none⟩) n cap)).run Tryz.prog w = .ok (.string (termT n p)) w := by
  have hcv := run_convert_bytes_arg (P := Tryz.prog) w 22 5 Tryz.underlying22 Tryz.underlying5 g 0 n cap (lettersP n p) (by simp [lettersP]) (fun i hi => by
    rw [Nat.zero_add, (h.cell hi).1]
    simp [lettersP, hi]) 9 Tryz.underlying9
  rw [lettersP_text] at hcv
  exact hcv
/-- a term's text turned into letters -/
theorem termAt_new (w : World) (n : Nat) (p : Trm) : ∃ cap w', (convert 9 22 (.string (termT n p))).run Tryz.prog w = .ok (.slice (some ⟨w.heap.size, 0, none⟩) n cap) w' ∧ TermAt w' w.heap.size n p ∧ Below w.heap.size w w' ∧ w'.heap.size = w.heap.size + 1 := by
  have h := run_bytes_of_string (P := Tryz.prog) w 9 22 5 (termT n p) Tryz.underlying9 Tryz.underlying22 Tryz.underlying5
  have hsz := termT_size n p
  rw [hsz] at h
  obtain ⟨cap, hcap⟩ : ∃ cap, grownCap w n 0 5 = cap := ⟨_, rfl⟩
  rw [hcap] at h
  have hds : (termT n p).data.size = n := hsz
  refine ⟨_, _, h, ⟨_, _, _, heap_alloc_last _ _, ?_, .inl ?_, fun i hi => ?_⟩, ((Below.refl _ _).drew).alloc (Nat.le_refl _) _, by simp⟩
  · simp only [bytesRow, Array.size_append, Array.size_map]; omega
  · simp only [bytesRow, Array.size_append, Array.size_map]; omega
  · rw [bytesRow_at _ _ _ (by omega)]
    have : (termT n p).data[i]'(by omega) = letterT (p i) := termT_get n p i hi
    rw [this]; rfl
theorem lv_bit (b : Bool) : lv (some b) = 48 + b.toNat := by cases b <;> rfl
theorem u8_row : (Tryz.prog.info? 5).map (fun i => (i.zero, i.size, i.bytes)) = some (some (.int .u8 0), 1, 1) := by kernel_rfl

set_option maxHeartbeats 1000000 in
theorem formatState_any (s n : Nat) (hn : n ≤ 5) (hs : s < 32) (w : World) :
    Calls Tryz.prog 72 #[.int .i64 s, .int .i64 n] w fun e w' => Below w.heap.size w w' ∧ e = .returned (.string (termT n (pointP s))) := by
  obtain ⟨i0, hi, hz0, hz1, hz2⟩ := info_parts u8_row
  have Hi := Lib.hid hi
  have Hz0 := Lib.hid hz0
  have Hz1 := Lib.hid hz1
  have hzb : i0.bytes ≤ 1 := by omega
  clear hi hz0 hz1 hz2
  go_enter Tryz.func72, Tryz.ntmps72
  go_wp2_with ((with_reducible show wpList _ _ _ (⟨_, .makeSlice 22 _ _, _, _, _, _⟩ :: _) _ _); refine wpList_make_full _ rfl _ _ _ rfl w.heap.size 5 i0 (.int .u8 0) 1 Tryz.underlying22 Hi.out Hz0.out Hz1.out .i64 .i64 n n n rfl rfl rfl rfl (by have : i0.bytes * n ≤ 1 * 5 := Nat.mul_le_mul hzb hn; omega) (by unfold maxLen; omega) (Nat.le_refl _) ?_)
  intro w1 hown hgrow
  have hW1 : Below w.heap.size w w1 := (Below.refl _ _).grown hgrow (Nat.le_refl _) (fun q hq => by cases hq)
  have hg : ∃ cur t, w1.heap[w.heap.size]? = some (.cells cur t (0, 0)) ∧ n ≤ cur.size := by
    rcases hown.2 with ⟨h, _⟩ | ⟨q, cap, cur, hv, hb, hg, h1, h2, h3, h4⟩
    · cases h
    · cases hv
      exact ⟨cur, _, hg, by omega⟩
  obtain ⟨cur, tt, hcur, hcs⟩ := hg
  have HC := Lib.hid hcur
  clear hown hgrow hcur
  go_wp2_with fail
  go_loopw [6, 11] (fun _ j wr => ∃ k : Nat, k ≤ n ∧ j = .int .i64 k ∧ (∃ cur', wr.heap[w.heap.size]? = some (.cells cur' tt (0, 0)) ∧ n ≤ cur'.size ∧ ∀ j, j < k → cur'[j]? = some (.int .u8 (lv (pointP s j)))) ∧ Below w.heap.size w wr) (fun _ j _ => n - (intOf j).toNat)
  case atStart => exact ⟨0, Nat.zero_le _, rfl, ⟨cur, HC.out, hcs, fun j h => absurd h (Nat.not_lt_zero _)⟩, hW1⟩
  case round =>
    obtain ⟨k, hk, rfl, hst, hW⟩ := hrel
    obtain ⟨cur', hc', hs', hj'⟩ := hst
    have HC' := Lib.hid hc'
    have HJ' := Lib.hid hj'
    by_cases hlt : k < n
    · have hcell2 : ∃ u, wr.cell? ⟨w.heap.size, k, none⟩ = some u := by
        rw [cell_of_row wr _ _ _ _ _ hc']
        exact ⟨_, Array.getElem?_eq_getElem (show k < cur'.size by omega)⟩
      obtain ⟨u, hu⟩ := hcell2
      have hf : wr.frozen? ⟨w.heap.size, k, none⟩ = false := frozen_of_row wr _ _ _ _ hc'
      have hbt := bit_test s k
      have hlv : lv (pointP s k) = 48 + (s.testBit k).toNat := lv_bit _
      clear hc' hj'
      cases hv : s.testBit k <;> rw [hv] at hbt hlv <;> simp only [Bool.toNat_true, Bool.toNat_false, Int.natCast_zero, Int.natCast_one] at hbt
      all_goals
        have Hlv := Lib.hid hlv
        clear hv hlv
        go_wp2_with fail
        go_roundw
        case rel =>
          refine ⟨k + 1, by omega, by go_num, ⟨cur'.setIfInBounds k (.int .u8 (lv (pointP s k))), by rw [Hlv.out]; exact heap_setCell_same _ _ _ _ _ _ HC'.out, by simpa using hs', fun j hj => ?_⟩, hW.setCell (Nat.le_refl _) _⟩
          by_cases e : j = k
          · subst e; rw [Array.getElem?_setIfInBounds_self_of_lt (by omega)]
          · rw [Array.getElem?_setIfInBounds_ne (fun h => e h.symm)]; exact HJ'.out j (by omega)
        case measure => simp [intOf] <;> omega
    · obtain rfl : k = n := by omega
      have hcv := TermAt.text (w := wr) (g := w.heap.size) (n := k) (p := pointP s) ⟨cur', tt, (0, 0), hc', hs', .inr rfl, hj'⟩ k
      clear hc' hj'
      go_wp2_with fail
      go_ret
      exact ⟨hW, rfl⟩

theorem fold_take {α : Type} (f : Trm → α → Trm) (l : List α) (p : Trm) (k : Nat) (h : k < l.length) : (l.take (k + 1)).foldl f p = f ((l.take k).foldl f p) l[k] := by
  rw [List.take_succ_eq_append_getElem h, List.foldl_append]; rfl
/-- the first i switches joined with a state -/
def joinTo (p : Trm) (s k : Nat) : Trm := fun j => if j < k then joinP p s j else p j
theorem joinTo_next (p : Trm) (s k : Nat) (o : Option Bool) (h : joinP p s k = o) (j : Nat) : (fun j => if j = k then o else joinTo p s k j) j = joinTo p s (k + 1) j := by
  unfold joinTo
  simp only
  by_cases e : j = k
  · subst e; rw [if_pos rfl, if_pos (by omega), h]
  · rw [if_neg e]
    by_cases h2 : j < k
    · rw [if_pos h2, if_pos (by omega)]
    · rw [if_neg h2, if_neg (by omega)]
theorem joinTo_skip (p : Trm) (s k : Nat) (h : joinP p s k = p k) (j : Nat) : joinTo p s k j = joinTo p s (k + 1) j := by
  unfold joinTo
  by_cases e : j = k
  · subst e; rw [if_neg (by omega), if_pos (by omega), h]
  · by_cases h2 : j < k
    · rw [if_pos h2, if_pos (by omega)]
    · rw [if_neg h2, if_neg (by omega)]

end Go.Proofs.YtkfagolmpbbckaaGreatDoor
