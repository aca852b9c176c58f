/- The program's networks without a switch, and the texts of networks. -/
import Derived.Test.YtkfagolmpbbckaaDoorImplT
import Derived.Test.YtkfagolmpbbckaaDoorImpl9
import Derived.Test.YtkfagolmpbbckaaDoorSx
import Derived.Deep.RegionHeld3
import Derived.Laws.Concat
import Derived.Laws.BytesArg
import Derived.OwnWalk
namespace Go.Proofs.YtkfagolmpbbckaaDoor
open Go Go.RowKit Go.Sw
set_option maxRecDepth 100000
set_option linter.unusedVariables false

theorem drop_any (s i : Nat) (hs : s < 32) (hi : i < 5) (w : World) :
    Calls Tryd.prog 186 #[.int .i64 s, .int .i64 i] w fun e w' => e = .returned (.int .i64 (dropN s i : Nat)) ∧ w = w' := by
  obtain ⟨ha, h0, h1, ho⟩ := drop_facts s i hs hi
  have h2 := pow2_le i (by omega)
  go_enter Tryd.func186, Tryd.ntmps186
  go_wp2
  go_ret
  exact ⟨rfl, rfl⟩

set_option maxHeartbeats 1000000 in
theorem remove1_any (s i bn cn b1 b2 : Nat) (N : Net) (h2n : 2 ≤ N.n) (hn : N.n ≤ 5) (hs : s < pw (N.n - 1)) (hi : i < N.n) (w : World) (hat : NetAt w bn N.n N.f) (hbn : bn < w.heap.size)
    (h1 : w.cell? ⟨b1, 0, none⟩ = some (.slice (some ⟨bn, 0, none⟩) N.n cn)) (h2 : w.cell? ⟨b2, 0, none⟩ = some (.int .i64 i)) (hb1 : b1 < w.heap.size) (hb2 : b2 < w.heap.size) :
    Calls Tryd.prog 185 #[.int .i64 s, .pointer (some ⟨b1, 0, none⟩), .pointer (some ⟨b2, 0, none⟩)] w fun e w' => e = .returned (.int .i64 ((dropN (stepN N (liftN N i s)) i : Nat) : Int)) ∧ Below w.heap.size w w' := by
  have hp := pw_le hn
  have hl := liftN_lt N i s hi hs
  have hsl := stepN_lt N (liftN N i s)
  have c1 := Lib.hid (fun wx (hb : Below w.heap.size w wx) => lift_any bn cn s i N h2n hn hs hi wx (hat.below hb hbn))
  have c2 := Lib.hid (fun wx (hb : Below w.heap.size w wx) => step_any bn cn (liftN N i s) N hn hl wx (hat.below hb hbn) (Nat.lt_of_lt_of_le hbn hb.size))
  have c3 := Lib.hid (fun wx => drop_any (stepN N (liftN N i s)) i (by omega) (by omega) wx)
  have H1 := Lib.hid h1
  have H2 := Lib.hid h2
  clear hat
  go_enter Tryd.func185, Tryd.ntmps185
  go_wp2_with fail
  go_region_held3 (fun w' => (w'.cell? ⟨b1, 0, none⟩ = some (.slice (some ⟨bn, 0, none⟩) N.n cn) ∧ w'.cell? ⟨b2, 0, none⟩ = some (.int .i64 i)) ∧ Below w.heap.size w w')
    (first
      | exact ⟨⟨h1, h2⟩, (Below.refl _ _).drew⟩
      | exact ⟨⟨(hby2.cell hb1).trans h1, (hby2.cell hb2).trans h2⟩, hby2⟩
      | exact ⟨⟨(hby.cell hb1).trans h1, (hby.cell hb2).trans h2⟩, hby⟩
      | go_keep)
    (first
      | (go_at_call 156; refine Calls.mono (c1.out _ ((Below.refl _ _).drew)) ?_; rintro e w1 ⟨hbx, rfl⟩; have hby := (Below.refl w.heap.size w).drew.trans hbx)
      | (go_at_call 70; refine Calls.mono (c2.out _ hby) ?_; rintro e w2 ⟨rfl, hbx2⟩; have hby2 := hby.trans (hbx2.mono hby.size))
      | (go_at_call 186; refine Calls.mono (c3.out _) ?_; rintro e w' ⟨rfl, rfl⟩))
  go_wp2_with fail
  go_ret
  exact ⟨rfl, hby2⟩

theorem u8_row : (Tryd.prog.info? 5).map (fun i => (i.zero, i.size, i.bytes)) = some (some (.int .u8 0), 1, 1) := by kernel_rfl
/-- the letters of m values as numbers -/
def letters (m : Nat) (f : Nat → Bool) : List Int := (List.range m).map fun s => if f s then 49 else 48
theorem letters_length (m : Nat) (f : Nat → Bool) : (letters m f).length = m := by simp [letters]
theorem letters_text (n : Nat) (f : Nat → Bool) : strOfNums (letters (pw n) f) = tabText n f := by
  apply ba_ext
  simp only [strOfNums, letters, tabText, bs_data, List.map_map]
  apply List.map_congr_left
  intro s _
  simp only [Function.comp]
  split <;> rfl

theorem tableText_any (n : Nat) (f : Nat → Bool) (hn : n ≤ 5) (w : World) :
    Calls Tryd.prog 95 #[.agg (tcells n f)] w fun e w' => Below w.heap.size w w' ∧ e = .returned (.string (tabText n f)) := by
  have hp := pw_le hn
  obtain ⟨i0, hi, hz0, hz1, hz2⟩ := info_parts u8_row
  have Hi := Lib.hid hi
  have Hz0 := Lib.hid hz0
  have Hz1 := Lib.hid hz1
  have hzb : i0.bytes ≤ 1 := by omega
  clear hi hz0 hz1 hz2
  go_enter Tryd.func95, Tryd.ntmps95
  go_wp2_with (first | ((with_reducible show wpList _ _ _ (⟨_, .load 79 _, _, _, _, _⟩ :: _) _ _); refine wpList_load' rfl _ _ rfl rfl (tab_load_at _ _ _ n f (range_new rfl)) ?_) | (go_at_call 138; refine (width_any n f hn _).mono ?_; rintro e w' ⟨rfl, rfl⟩) | ((with_reducible show wpList _ _ _ (⟨_, .makeSlice 22 _ _, _, _, _, _⟩ :: _) _ _); refine wpList_make_full _ rfl _ _ _ rfl w.heap.size 5 i0 (.int .u8 0) 1 Tryd.underlying22 Hi.out Hz0.out Hz1.out .i64 .i64 (pw n) (pw n) (pw n) rfl rfl rfl rfl (by have : i0.bytes * pw n ≤ 1 * 32 := Nat.mul_le_mul hzb hp.2; omega) (by unfold maxLen; omega) (by simp; omega) ?_))
  intro w1 hown hgrow
  obtain ⟨g, hg0⟩ : ∃ g : Nat, g = w.heap.size + 1 + 1 := ⟨_, rfl⟩
  rw [← hg0] at hown ⊢
  have hT : w1.heap[w.heap.size]? = some (.cells (tcells n f) 79 (0, 0)) := by
    rw [hgrow.block _ (by simp; omega) (by simp)]; exact heap_alloc2_old _ _ _
  have hW1 : Below w.heap.size w w1 := (((Below.refl _ _).alloc (Nat.le_refl _) _).alloc (by simp) _).grown hgrow (by simp; omega) (fun q hq => by cases hq)
  have hg : ∃ cur t, w1.heap[g]? = some (.cells cur t (0, 0)) ∧ pw n ≤ cur.size := by
    rcases hown.2 with ⟨h, _⟩ | ⟨q, cap, cur, hv, hb, hg, h1, h2, h3, h4⟩
    · cases h
    · cases hv
      exact ⟨cur, _, hg, by omega⟩
  obtain ⟨cur, tt, hcur, hcs⟩ := hg
  have HT := Lib.hid hT
  have HC := Lib.hid hcur
  have hlt1 := block_lt hcur
  have hlt2 : w.heap.size < g := by omega
  clear hown hgrow hT hcur hg0
  go_wp2_with fail
  go_loopw [4, 10] (fun _ j wr => ∃ k : Nat, k ≤ pw n ∧ j = .int .i64 k ∧ wr.heap[w.heap.size]? = some (.cells (tcells n f) 79 (0, 0)) ∧ (∃ cur', wr.heap[g]? = some (.cells cur' tt (0, 0)) ∧ pw n ≤ cur'.size ∧ ∀ j, j < k → cur'[j]? = some (.int .u8 (if f j then 49 else 48))) ∧ Below w.heap.size w wr) (fun _ j _ => pw n - (intOf j).toNat)
  case atStart => exact ⟨0, Nat.zero_le _, rfl, HT.out, ⟨cur, HC.out, hcs, fun j h => absurd h (Nat.not_lt_zero _)⟩, hW1⟩
  case round =>
    obtain ⟨k, hk, rfl, hT, hst, hW⟩ := hrel
    have HT' := Lib.hid hT
    obtain ⟨cur', hc', hs', hj'⟩ := hst
    have HC' := Lib.hid hc'
    have HJ' := Lib.hid hj'
    by_cases hlt : k < pw n
    · have hcell : wr.cell? ⟨w.heap.size, 1 + k, none⟩ = some (.int .u8 (b2 (f k))) := by
        rw [cell_of_row wr _ _ _ _ _ hT]; exact tcells_bit n f k (by omega)
      have hcell2 : ∃ u, wr.cell? ⟨g, k, none⟩ = some u := by
        rw [cell_of_row wr _ _ _ _ _ hc']
        exact ⟨_, Array.getElem?_eq_getElem (show k < cur'.size by omega)⟩
      obtain ⟨u, hu⟩ := hcell2
      have hf : wr.frozen? ⟨g, k, none⟩ = false := frozen_of_row wr _ _ _ _ hc'
      clear hT hc' hj'
      cases hv : f k <;> rw [hv] at hcell <;> simp only [b2_true, b2_false] at hcell
      all_goals
        have Hv := Lib.hid hv
        clear hv
        go_wp2_with fail
        go_roundw
        case rel =>
          refine ⟨k + 1, by omega, by go_num, by rw [heap_setCell_other _ _ _ _ (by simp; omega)]; exact HT'.out, ⟨cur'.setIfInBounds k (.int .u8 (if f k then 49 else 48)), by rw [Hv.out]; exact heap_setCell_same _ _ _ _ _ _ HC'.out, by simpa using hs', fun j hj => ?_⟩, hW.setCell (by simp; omega) _⟩
          by_cases e : j = k
          · subst e; rw [Array.getElem?_setIfInBounds_self_of_lt (by omega)]
          · rw [Array.getElem?_setIfInBounds_ne (fun h => e h.symm)]; exact HJ'.out j (by omega)
        case measure => simp [intOf] <;> omega
    · obtain rfl : k = pw n := by omega
      have hcv := run_convert_bytes_arg (P := Tryd.prog) wr 22 5 Tryd.underlying22 Tryd.underlying5 g 0 (pw n) (pw n) (letters (pw n) f) (letters_length _ _) (fun i hi => by
        rw [Nat.zero_add, cell_of_row wr _ _ _ _ _ hc', hj' i hi]
        simp [letters, hi]) 9 Tryd.underlying9
      rw [letters_text] at hcv
      clear hT hc' hj'
      go_wp2_with fail
      go_ret
      exact ⟨hW, rfl⟩

theorem netTexts_take (N : Net) (k : Nat) (h : k < N.n) : (netTexts N).take (k + 1) = (netTexts N).take k ++ [tabText N.n (N.f k)] := by
  rw [List.take_succ_eq_append_getElem (by rw [netTexts_length]; exact h), netTexts_get N k h]

theorem dropN_le (t i : Nat) : dropN t i ≤ t := by
  unfold dropN
  have h0 := Nat.div_add_mod t (2 ^ (i + 1))
  have h3 : t % 2 ^ i ≤ t % 2 ^ (i + 1) := by
    rw [← Nat.mod_mod_of_dvd t (Nat.pow_dvd_pow 2 (Nat.le_succ i))]
    exact Nat.mod_le _ _
  have h4 : t / 2 ^ (i + 1) * 2 ^ i ≤ 2 ^ (i + 1) * (t / 2 ^ (i + 1)) := by
    rw [Nat.mul_comm (2 ^ (i + 1))]
    exact Nat.mul_le_mul_left _ (Nat.pow_le_pow_right (by omega) (Nat.le_succ i))
  omega
set_option maxHeartbeats 1000000 in
theorem remove_any (b cap i : Nat) (N : Net) (h2 : 2 ≤ N.n) (hn : N.n ≤ 5) (hi : i < N.n) (w : World) (hat : NetAt w b N.n N.f) (hb : b < w.heap.size) :
    Calls Tryd.prog 155 #[.slice (some ⟨b, 0, none⟩) N.n cap, .int .i64 i] w fun e w' => Below w.heap.size w w' ∧
      ∃ b' c', e = .returned (.slice (some ⟨b', 0, none⟩) (N.n - 1) c') ∧ w.heap.size ≤ b' ∧ b' < w'.heap.size ∧ NetAt w' b' (N.n - 1) (stepF (N.n - 1) fun s => dropN (stepN N (liftN N i s)) i) := by
  have hp := pw_le hn
  have hsub : ((N.n : Int) - 1) = ((N.n - 1 : Nat) : Int) := by omega
  have C := Lib.hid (fun (W : World) (hW : Below w.heap.size w W) (hsz : w.heap.size + 1 < W.heap.size) (c1 : W.cell? ⟨w.heap.size, 0, none⟩ = some (.slice (some ⟨b, 0, none⟩) N.n cap)) (c2 : W.cell? ⟨w.heap.size + 1, 0, none⟩ = some (.int .i64 i)) =>
    fromStep_any (N.n - 1) (by omega) (by omega) 185 #[.pointer (some ⟨w.heap.size, 0, none⟩), .pointer (some ⟨w.heap.size + 1, 0, none⟩)] (fun s => dropN (stepN N (liftN N i s)) i)
      (fun s hs => by
        have h1 := stepN_lt N (liftN N i s)
        have := dropN_le (stepN N (liftN N i s)) i
        omega) W (enters_fn Tryd.func185 (by kernel_rfl) rfl)
      (fun s wx hs hx => (remove1_any s i b cap w.heap.size (w.heap.size + 1) N h2 hn hs hi wx ((hat.below hW hb).below hx (by omega)) (by have := hx.size; omega)
        (by rw [hx.cell (by show w.heap.size < W.heap.size; omega)]; exact c1) (by rw [hx.cell (by show w.heap.size + 1 < W.heap.size; omega)]; exact c2) (by have := hx.size; omega) (by have := hx.size; omega)).mono fun e w' h => h))
  clear hat
  go_enter Tryd.func155, Tryd.ntmps155
  go_wp2_with fail
  refine (C.out _ ?_ ?_ ?_ ?_).mono ?_
  · exact ((Below.refl _ _).alloc (Nat.le_refl _) _).alloc (by simp) _
  · simp
  · rw [cell_of_row _ _ _ _ _ _ (heap_alloc2_old _ _ _)]; rfl
  · exact cell_new (by simp)
  rintro e w1 ⟨hW1, b', c', rfl, hb1, hb2, hat⟩
  have Hat := Lib.hid hat
  have hsz : w.heap.size ≤ b' := by simp at hb1; omega
  have hB : Below w.heap.size w w1 := (((Below.refl _ _).alloc (Nat.le_refl _) _).alloc (by simp) _).trans (hW1.mono (by simp; omega))
  clear hat
  go_wp2_with fail
  go_ret
  exact ⟨hB, b', c', rfl, hsz, hb2, Hat.out⟩

end Go.Proofs.YtkfagolmpbbckaaDoor
