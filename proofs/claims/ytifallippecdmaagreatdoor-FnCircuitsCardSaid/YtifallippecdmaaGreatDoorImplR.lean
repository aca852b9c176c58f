/- The program's networks without a switch, and the texts of networks. -/
import Derived.Test.YtifallippecdmaaGreatDoorImplT
import Derived.Test.YtifallippecdmaaGreatDoorImpl9
import Derived.Test.YtifallippecdmaaGreatDoorSx
import Derived.Deep.RegionHeld3
import Derived.Laws.Concat
import Derived.Laws.BytesArg
import Derived.OwnWalk
namespace Go.Proofs.YtifallippecdmaaGreatDoor
open Go Go.RowKit Go.Sw
set_option maxRecDepth 100000
set_option linter.unusedVariables false



theorem u8_row : (Tryz.prog.info? 5).map (fun i => (i.zero, i.size, i.bytes)) = some (some (.int .u8 0), 1, 1) := by kernel_rfl
/-- the letters of m values as numbers -/
def letters (m : Nat) (f : Nat → Bool) : List Int := (List.range m).map fun s => if f s then 49 else 48
theorem letters_length (m : Nat) (f : Nat → Bool) : (letters m f).length = m := by simp [letters]
theorem letters_text (n : Nat) (f : Nat → Bool) : strOfNums (letters (pw n) f) = tabText n f := by
  apply ba_ext
  simp only [strOfNums, letters, tabText, bs_data, List.map_map]
  apply List.map_congr_left
  intro s _
  simp only [Function.comp]
  split <;> rfl

theorem tableText_any (n : Nat) (f : Nat → Bool) (hn : n ≤ 5) (w : World) :
    Calls Tryz.prog 44 #[.agg (tcells n f)] w fun e w' => Below w.heap.size w w' ∧ e = .returned (.string (tabText n f)) := by
  have hp := pw_le hn
  obtain ⟨i0, hi, hz0, hz1, hz2⟩ := info_parts u8_row
  have Hi := Lib.hid hi
  have Hz0 := Lib.hid hz0
  have Hz1 := Lib.hid hz1
  have hzb : i0.bytes ≤ 1 := by omega
  clear hi hz0 hz1 hz2
  go_enter Tryz.func44, Tryz.ntmps44
  go_wp2_with (first | ((with_reducible show wpList _ _ _ (⟨_, .load 54 _, _, _, _, _⟩ :: _) _ _); refine wpList_load' rfl _ _ rfl rfl (tab_load_at _ _ _ n f (range_new rfl)) ?_) | (go_at_call 46; refine (width_any n f hn _).mono ?_; rintro e w' ⟨rfl, rfl⟩) | ((with_reducible show wpList _ _ _ (⟨_, .makeSlice 22 _ _, _, _, _, _⟩ :: _) _ _); refine wpList_make_full _ rfl _ _ _ rfl w.heap.size 5 i0 (.int .u8 0) 1 Tryz.underlying22 Hi.out Hz0.out Hz1.out .i64 .i64 (pw n) (pw n) (pw n) rfl rfl rfl rfl (by have : i0.bytes * pw n ≤ 1 * 32 := Nat.mul_le_mul hzb hp.2; omega) (by unfold maxLen; omega) (by simp; omega) ?_))
  intro w1 hown hgrow
  obtain ⟨g, hg0⟩ : ∃ g : Nat, g = w.heap.size + 1 + 1 := ⟨_, rfl⟩
  rw [← hg0] at hown ⊢
  have hT : w1.heap[w.heap.size]? = some (.cells (tcells n f) 54 (0, 0)) := by
    rw [hgrow.block _ (by simp; omega) (by simp)]; exact heap_alloc2_old _ _ _
  have hW1 : Below w.heap.size w w1 := (((Below.refl _ _).alloc (Nat.le_refl _) _).alloc (by simp) _).grown hgrow (by simp; omega) (fun q hq => by cases hq)
  have hg : ∃ cur t, w1.heap[g]? = some (.cells cur t (0, 0)) ∧ pw n ≤ cur.size := by
    rcases hown.2 with ⟨h, _⟩ | ⟨q, cap, cur, hv, hb, hg, h1, h2, h3, h4⟩
    · cases h
    · cases hv
      exact ⟨cur, _, hg, by omega⟩
  obtain ⟨cur, tt, hcur, hcs⟩ := hg
  have HT := Lib.hid hT
  have HC := Lib.hid hcur
  have hlt1 := block_lt hcur
  have hlt2 : w.heap.size < g := by omega
  clear hown hgrow hT hcur hg0
  go_wp2_with fail
  go_loopw [4, 10] (fun _ j wr => ∃ k : Nat, k ≤ pw n ∧ j = .int .i64 k ∧ wr.heap[w.heap.size]? = some (.cells (tcells n f) 54 (0, 0)) ∧ (∃ cur', wr.heap[g]? = some (.cells cur' tt (0, 0)) ∧ pw n ≤ cur'.size ∧ ∀ j, j < k → cur'[j]? = some (.int .u8 (if f j then 49 else 48))) ∧ Below w.heap.size w wr) (fun _ j _ => pw n - (intOf j).toNat)
  case atStart => exact ⟨0, Nat.zero_le _, rfl, HT.out, ⟨cur, HC.out, hcs, fun j h => absurd h (Nat.not_lt_zero _)⟩, hW1⟩
  case round =>
    obtain ⟨k, hk, rfl, hT, hst, hW⟩ := hrel
    have HT' := Lib.hid hT
    obtain ⟨cur', hc', hs', hj'⟩ := hst
    have HC' := Lib.hid hc'
    have HJ' := Lib.hid hj'
    by_cases hlt : k < pw n
    · have hcell : wr.cell? ⟨w.heap.size, 1 + k, none⟩ = some (.int .u8 (b2 (f k))) := by
        rw [cell_of_row wr _ _ _ _ _ hT]; exact tcells_bit n f k (by omega)
      have hcell2 : ∃ u, wr.cell? ⟨g, k, none⟩ = some u := by
        rw [cell_of_row wr _ _ _ _ _ hc']
        exact ⟨_, Array.getElem?_eq_getElem (show k < cur'.size by omega)⟩
      obtain ⟨u, hu⟩ := hcell2
      have hf : wr.frozen? ⟨g, k, none⟩ = false := frozen_of_row wr _ _ _ _ hc'
      clear hT hc' hj'
      cases hv : f k <;> rw [hv] at hcell <;> simp only [b2_true, b2_false] at hcell
      all_goals
        have Hv := Lib.hid hv
        clear hv
        go_wp2_with fail
        go_roundw
        case rel =>
          refine ⟨k + 1, by omega, by go_num, by rw [heap_setCell_other _ _ _ _ (by simp; omega)]; exact HT'.out, ⟨cur'.setIfInBounds k (.int .u8 (if f k then 49 else 48)), by rw [Hv.out]; exact heap_setCell_same _ _ _ _ _ _ HC'.out, by simpa using hs', fun j hj => ?_⟩, hW.setCell (by simp; omega) _⟩
          by_cases e : j = k
          · subst e; rw [Array.getElem?_setIfInBounds_self_of_lt (by omega)]
          · rw [Array.getElem?_setIfInBounds_ne (fun h => e h.symm)]; exact HJ'.out j (by omega)
        case measure => simp [intOf] <;> omega
    · obtain rfl : k = pw n := by omega
      have hcv := run_convert_bytes_arg (P := Tryz.prog) wr 22 5 Tryz.underlying22 Tryz.underlying5 g 0 (pw n) (pw n) (letters (pw n) f) (letters_length _ _) (fun i hi => by
        rw [Nat.zero_add, cell_of_row wr _ _ _ _ _ hc', hj' i hi]
        simp [letters, hi]) 9 Tryz.underlying9
      rw [letters_text] at hcv
      clear hT hc' hj'
      go_wp2_with fail
      go_ret
      exact ⟨hW, rfl⟩

theorem netTexts_take (N : Net) (k : Nat) (h : k < N.n) : (netTexts N).take (k + 1) = (netTexts N).take k ++ [tabText N.n (N.f k)] := by
  rw [List.take_succ_eq_append_getElem (by rw [netTexts_length]; exact h), netTexts_get N k h]
theorem join_joinL (ps : List (List UInt8)) : Lib.join ps [44] = joinL ps := by
  unfold Lib.join
  induction ps with
  | nil => rfl
  | cons p r ih =>
    by_cases e : r = []
    · subst e; simp [joinL, List.intercalate]
    · rw [joinL_cons _ _ e, ← ih]
      cases r with
      | nil => exact absurd rfl e
      | cons q r => simp [List.intercalate, List.intersperse]

theorem netText_any (b cap : Nat) (N : Net) (h1 : 1 ≤ N.n) (hn : N.n ≤ 5) (w : World) (hat : NetAt w b N.n N.f) (hb : b < w.heap.size) :
    Calls Tryz.prog 23 #[.slice (some ⟨b, 0, none⟩) N.n cap] w fun e w' => Below w.heap.size w w' ∧ e = .returned (.string (netText N)) := by
  have Hat := Lib.hid hat
  have hT : ∀ k, k < N.n → (netTexts N).take (k + 1) = (netTexts N).take k ++ [tabText N.n (N.f k)] := netTexts_take N
  have hL : ∀ k, k ≤ N.n → ((netTexts N).take k).length = k := fun k hk => by rw [List.length_take, netTexts_length]; omega
  have HT := Lib.hid hT
  have HL := Lib.hid hL
  have hsz0 := netText_size hn
  clear hat hT hL
  go_enter Tryz.func23, Tryz.ntmps23
  go_wp2_with fail
  go_loopw [3, 5, 8] (fun out _ j wr => ∃ k : Nat, k ≤ N.n ∧ j = .int .i64 k ∧ wr.ownsRow w.heap.size 9 1 out k (texts ((netTexts N).take k)) ∧ Below w.heap.size w wr) (fun _ _ j _ => N.n - (intOf j).toNat)
  case atStart => exact ⟨0, Nat.zero_le _, rfl, World.ownsRow_nil _ _ _ _, Below.refl _ _⟩
  case round =>
    obtain ⟨k, hk, rfl, hown, hW⟩ := hrel
    have Hown := Lib.hid hown
    have hWsz := hW.size
    clear hown
    by_cases hlt : k < N.n
    · have hr : wr.rangeAt b (k * 33) (tlist N.n (N.f k)) := (Hat.out.below hW hb) k hlt
      have Hr := Lib.hid hr
      have HTk := Lib.hid (HT.out k hlt)
      have HLk := Lib.hid (HL.out k hk)
      have c := Lib.hid (fun wx => tableText_any N.n (N.f k) hn wx)
      clear hr
      obtain ⟨wo, rfl⟩ : ∃ wo : World, wo = wr := ⟨_, rfl⟩
      go_wp2_with (first | ((with_reducible show wpList _ _ _ (⟨_, .alloc 54, _, _, _, _⟩ :: _) _ _); refine wpList_alloc' rfl _ rfl (tab_alloc _) ?_) | ((with_reducible show wpList _ _ _ (⟨_, .store 54 _ _, _, _, _, _⟩ :: _) _ _); refine wpList_store' rfl _ _ _ rfl rfl rfl (tab_store_new _ _ N.n _ ?_) ?_; simp) | ((with_reducible show wpList _ _ _ (⟨_, .load 54 _, _, _, _, _⟩ :: _) _ _); refine wpList_load' rfl _ _ rfl rfl (tab_load_at _ _ _ N.n (N.f k) (range_new ?_)) ?_; simp) | ((with_reducible show wpList _ _ _ (⟨_, .load 54 _, _, _, _, _⟩ :: _) _ _); refine wpList_load' rfl _ _ rfl rfl (tab_load_at _ _ _ N.n (N.f k) Hr.out) ?_))
      refine (c.out _).mono ?_
      rintro e w3 ⟨hW3, rfl⟩
      have hB3 : Below wo.heap.size wo w3 := ((Below.refl _ _).alloc (Nat.le_refl _) _).trans (hW3.mono (by simp))
      have hsz3 := hB3.size
      have hown3 : w3.ownsRow w.heap.size 9 1 u3 ((netTexts N).take k).length (texts ((netTexts N).take k)) := by
        rw [HLk.out]; exact own_below Hown.out hB3
      have hl8 : ((netTexts N).take k).length ≤ 8 := by rw [HLk.out]; omega
      have Hown3 := Lib.hid hown3
      clear hown3
      go_wp2_with (first | ((with_reducible show wpList _ _ _ (⟨_, .buildSlice 24 1 _, _, _, _, _⟩ :: _) _ _); refine wpList_buildSlice' rfl _ _ _ rfl rfl (str_one (tabText N.n (N.f k)) _) ?_) | (at_builtin; refine wpList_text_appendK rfl _ _ rfl w.heap.size _ ((netTexts N).take k) rfl ((Hown3.out.alloc _)) _ _ rfl (cell_new ?_) (by omega) ((hW.trans (hB3.mono hWsz)).alloc (by omega) _) ?_ ?_ ?_))
      · rfl
      · exact Nat.le_refl _
      · first | omega | (simp; omega)
      · intro v' w4 hown4 hB4 _
        have hown5 : w4.ownsRow w.heap.size 9 1 v' (k + 1) (texts ((netTexts N).take (k + 1))) := by
          have hlen : min k (netTexts N).length = k := by have := HLk.out; rwa [List.length_take] at this
          rw [hlen] at hown4
          rw [HTk.out]; exact hown4
        have Hown4 := Lib.hid hown5
        have HB4 := Lib.hid hB4
        clear hown4 hown5 hB4
        go_wp2_with fail
        go_roundw
        case rel => exact ⟨k + 1, by omega, by go_num, Hown4.out, HB4.out⟩
        case measure => simp [intOf] <;> omega
    · obtain rfl : k = N.n := by omega
      obtain ⟨g, cp, rfl, hg1, hg2⟩ := own_slice Hown.out h1
      have hat2 : StrsAt wr g ((netTexts N).take N.n) := strsAt_of_own Hown.out
      have htk : (netTexts N).take N.n = netTexts N := by rw [← netTexts_length N, List.take_length]
      rw [htk] at hat2
      have hcp : N.n ≤ cp := by
        rcases Hown.out.2 with ⟨h, _⟩ | ⟨q, cap, cur, hv, hb, hg, h1, h2, h3, h4⟩
        · cases h
        · cases hv; exact h1
      have hj : (Lib.join ((netTexts N).map (·.data.toList)) (ByteArray.mk #[44]).data.toList).toArray = (netText N).data := by
        rw [show (ByteArray.mk #[44]).data.toList = [44] from rfl, join_joinL]; rfl
      have hjl : (Lib.join ((netTexts N).map (·.data.toList)) (ByteArray.mk #[44]).data.toList).length ≤ 140737488355328 := by
        rw [show (ByteArray.mk #[44]).data.toList = [44] from rfl, join_joinL]
        have : (joinL ((netTexts N).map (·.data.toList))).length = (netText N).size := by simp [netText]
        omega
      have c := Tryz.strings_Join g 0 cp (netTexts N) ⟨#[44]⟩ wr (fun j x hx => by
        obtain ⟨hj, rfl⟩ := List.getElem?_eq_some_iff.1 hx
        rw [Nat.zero_add]; exact hat2 j hj) hg2 (by rw [netTexts_length]; omega) (by rw [netTexts_length]; exact hcp) hjl
      rw [netTexts_length, hj] at c
      have C := Lib.hid c
      clear hat2 htk hj hjl c
      go_wp2_with fail
      refine C.out.mono ?_
      rintro e w2 ⟨rfl, hW2⟩
      go_wp2_with fail
      go_ret
      exact ⟨hW.trans (hW2.mono hWsz), rfl⟩

theorem dropN_le (t i : Nat) : dropN t i ≤ t := by
  unfold dropN
  have h0 := Nat.div_add_mod t (2 ^ (i + 1))
  have h3 : t % 2 ^ i ≤ t % 2 ^ (i + 1) := by
    rw [← Nat.mod_mod_of_dvd t (Nat.pow_dvd_pow 2 (Nat.le_succ i))]
    exact Nat.mod_le _ _
  have h4 : t / 2 ^ (i + 1) * 2 ^ i ≤ 2 ^ (i + 1) * (t / 2 ^ (i + 1)) := by
    rw [Nat.mul_comm (2 ^ (i + 1))]
    exact Nat.mul_le_mul_left _ (Nat.pow_le_pow_right (by omega) (Nat.le_succ i))
  omega

end Go.Proofs.YtifallippecdmaaGreatDoor
