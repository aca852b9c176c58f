/- The program's networks without a switch, and the texts of networks. -/
import Derived.Test.YtcddnacbjdahbaaDoorImplT
import Derived.Test.YtcddnacbjdahbaaDoorImpl9
import Derived.Test.YtcddnacbjdahbaaDoorSx
import Derived.Deep.RegionHeld3
import Derived.Laws.Concat
import Derived.Laws.BytesArg
import Derived.OwnWalk
namespace Go.Proofs.YtcddnacbjdahbaaDoor
open Go Go.RowKit Go.Sw
set_option maxRecDepth 100000
set_option linter.unusedVariables false

theorem drop_any (s i : Nat) (hs : s < 32) (hi : i < 5) (w : World) :
    Calls Tryd.prog 101 #[.int .i64 s, .int .i64 i] w fun e w' => e = .returned (.int .i64 (dropN s i : Nat)) ∧ w = w' := by
  obtain ⟨ha, h0, h1, ho⟩ := drop_facts s i hs hi
  have h2 := pow2_le i (by omega)
  go_enter Tryd.func101, Tryd.ntmps101
  go_wp2
  go_ret
  exact ⟨rfl, rfl⟩

set_option maxHeartbeats 1000000 in
theorem remove1_any (s i bn cn b1 b2 : Nat) (N : Net) (h2n : 2 ≤ N.n) (hn : N.n ≤ 5) (hs : s < pw (N.n - 1)) (hi : i < N.n) (w : World) (hat : NetAt w bn N.n N.f) (hbn : bn < w.heap.size)
    (h1 : w.cell? ⟨b1, 0, none⟩ = some (.slice (some ⟨bn, 0, none⟩) N.n cn)) (h2 : w.cell? ⟨b2, 0, none⟩ = some (.int .i64 i)) (hb1 : b1 < w.heap.size) (hb2 : b2 < w.heap.size) :
    Calls Tryd.prog 182 #[.int .i64 s, .pointer (some ⟨b1, 0, none⟩), .pointer (some ⟨b2, 0, none⟩)] w fun e w' => e = .returned (.int .i64 ((dropN (stepN N (liftN N i s)) i : Nat) : Int)) ∧ Below w.heap.size w w' := by
  have hp := pw_le hn
  have hl := liftN_lt N i s hi hs
  have hsl := stepN_lt N (liftN N i s)
  have c1 := Lib.hid (fun wx (hb : Below w.heap.size w wx) => lift_any bn cn s i N h2n hn hs hi wx (hat.below hb hbn))
  have c2 := Lib.hid (fun wx (hb : Below w.heap.size w wx) => step_any bn cn (liftN N i s) N hn hl wx (hat.below hb hbn) (Nat.lt_of_lt_of_le hbn hb.size))
  have c3 := Lib.hid (fun wx => drop_any (stepN N (liftN N i s)) i (by omega) (by omega) wx)
  have H1 := Lib.hid h1
  have H2 := Lib.hid h2
  clear hat
  go_enter Tryd.func182, Tryd.ntmps182
  go_wp2_with fail
  go_region_held3 (fun w' => (w'.cell? ⟨b1, 0, none⟩ = some (.slice (some ⟨bn, 0, none⟩) N.n cn) ∧ w'.cell? ⟨b2, 0, none⟩ = some (.int .i64 i)) ∧ Below w.heap.size w w')
    (first
      | exact ⟨⟨h1, h2⟩, (Below.refl _ _).drew⟩
      | exact ⟨⟨(hby2.cell hb1).trans h1, (hby2.cell hb2).trans h2⟩, hby2⟩
      | exact ⟨⟨(hby.cell hb1).trans h1, (hby.cell hb2).trans h2⟩, hby⟩
      | go_keep)
    (first
      | (go_at_call 95; refine Calls.mono (c1.out _ ((Below.refl _ _).drew)) ?_; rintro e w1 ⟨hbx, rfl⟩; have hby := (Below.refl w.heap.size w).drew.trans hbx)
      | (go_at_call 103; refine Calls.mono (c2.out _ hby) ?_; rintro e w2 ⟨rfl, hbx2⟩; have hby2 := hby.trans (hbx2.mono hby.size))
      | (go_at_call 101; refine Calls.mono (c3.out _) ?_; rintro e w' ⟨rfl, rfl⟩))
  go_wp2_with fail
  go_ret
  exact ⟨rfl, hby2⟩

theorem u8_row : (Tryd.prog.info? 5).map (fun i => (i.zero, i.size, i.bytes)) = some (some (.int .u8 0), 1, 1) := by kernel_rfl
/-- the letters of m values as numbers -/
def letters (m : Nat) (f : Nat → Bool) : List Int := (List.range m).map fun s => if f s then 49 else 48
theorem letters_length (m : Nat) (f : Nat → Bool) : (letters m f).length = m := by simp [letters]
theorem letters_text (n : Nat) (f : Nat → Bool) : strOfNums (letters (pw n) f) = tabText n f := by
  apply ba_ext
  simp only [strOfNums, letters, tabText, bs_data, List.map_map]
  apply List.map_congr_left
  intro s _
  simp only [Function.comp]
  split <;> rfl

theorem tableText_any (n : Nat) (f : Nat → Bool) (hn : n ≤ 5) (w : World) :
    Calls Tryd.prog 183 #[.agg (tcells n f)] w fun e w' => Below w.heap.size w w' ∧ e = .returned (.string (tabText n f)) := by
  have hp := pw_le hn
  obtain ⟨i0, hi, hz0, hz1, hz2⟩ := info_parts u8_row
  have Hi := Lib.hid hi
  have Hz0 := Lib.hid hz0
  have Hz1 := Lib.hid hz1
  have hzb : i0.bytes ≤ 1 := by omega
  clear hi hz0 hz1 hz2
  go_enter Tryd.func183, Tryd.ntmps183
  go_wp2_with (first | ((with_reducible show wpList _ _ _ (⟨_, .load 123 _, _, _, _, _⟩ :: _) _ _); refine wpList_load' rfl _ _ rfl rfl (tab_load_at _ _ _ n f (range_new rfl)) ?_) | (go_at_call 197; refine (width_any n f hn _).mono ?_; rintro e w' ⟨rfl, rfl⟩) | ((with_reducible show wpList _ _ _ (⟨_, .makeSlice 24 _ _, _, _, _, _⟩ :: _) _ _); refine wpList_make_full _ rfl _ _ _ rfl w.heap.size 5 i0 (.int .u8 0) 1 Tryd.underlying24 Hi.out Hz0.out Hz1.out .i64 .i64 (pw n) (pw n) (pw n) rfl rfl rfl rfl (by have : i0.bytes * pw n ≤ 1 * 32 := Nat.mul_le_mul hzb hp.2; omega) (by unfold maxLen; omega) (by simp; omega) ?_))
  intro w1 hown hgrow
  obtain ⟨g, hg0⟩ : ∃ g : Nat, g = w.heap.size + 1 + 1 := ⟨_, rfl⟩
  rw [← hg0] at hown ⊢
  have hT : w1.heap[w.heap.size]? = some (.cells (tcells n f) 123 (0, 0)) := by
    rw [hgrow.block _ (by simp; omega) (by simp)]; exact heap_alloc2_old _ _ _
  have hW1 : Below w.heap.size w w1 := (((Below.refl _ _).alloc (Nat.le_refl _) _).alloc (by simp) _).grown hgrow (by simp; omega) (fun q hq => by cases hq)
  have hg : ∃ cur t, w1.heap[g]? = some (.cells cur t (0, 0)) ∧ pw n ≤ cur.size := by
    rcases hown.2 with ⟨h, _⟩ | ⟨q, cap, cur, hv, hb, hg, h1, h2, h3, h4⟩
    · cases h
    · cases hv
      exact ⟨cur, _, hg, by omega⟩
  obtain ⟨cur, tt, hcur, hcs⟩ := hg
  have HT := Lib.hid hT
  have HC := Lib.hid hcur
  have hlt1 := block_lt hcur
  have hlt2 : w.heap.size < g := by omega
  clear hown hgrow hT hcur hg0
  go_wp2_with fail
  go_loopw [4, 10] (fun _ j wr => ∃ k : Nat, k ≤ pw n ∧ j = .int .i64 k ∧ wr.heap[w.heap.size]? = some (.cells (tcells n f) 123 (0, 0)) ∧ (∃ cur', wr.heap[g]? = some (.cells cur' tt (0, 0)) ∧ pw n ≤ cur'.size ∧ ∀ j, j < k → cur'[j]? = some (.int .u8 (if f j then 49 else 48))) ∧ Below w.heap.size w wr) (fun _ j _ => pw n - (intOf j).toNat)
  case atStart => exact ⟨0, Nat.zero_le _, rfl, HT.out, ⟨cur, HC.out, hcs, fun j h => absurd h (Nat.not_lt_zero _)⟩, hW1⟩
  case round =>
    obtain ⟨k, hk, rfl, hT, hst, hW⟩ := hrel
    have HT' := Lib.hid hT
    obtain ⟨cur', hc', hs', hj'⟩ := hst
    have HC' := Lib.hid hc'
    have HJ' := Lib.hid hj'
    by_cases hlt : k < pw n
    · have hcell : wr.cell? ⟨w.heap.size, 1 + k, none⟩ = some (.int .u8 (b2 (f k))) := by
        rw [cell_of_row wr _ _ _ _ _ hT]; exact tcells_bit n f k (by omega)
      have hcell2 : ∃ u, wr.cell? ⟨g, k, none⟩ = some u := by
        rw [cell_of_row wr _ _ _ _ _ hc']
        exact ⟨_, Array.getElem?_eq_getElem (show k < cur'.size by omega)⟩
      obtain ⟨u, hu⟩ := hcell2
      have hf : wr.frozen? ⟨g, k, none⟩ = false := frozen_of_row wr _ _ _ _ hc'
      clear hT hc' hj'
      cases hv : f k <;> rw [hv] at hcell <;> simp only [b2_true, b2_false] at hcell
      all_goals
        have Hv := Lib.hid hv
        clear hv
        go_wp2_with fail
        go_roundw
        case rel =>
          refine ⟨k + 1, by omega, by go_num, by rw [heap_setCell_other _ _ _ _ (by simp; omega)]; exact HT'.out, ⟨cur'.setIfInBounds k (.int .u8 (if f k then 49 else 48)), by rw [Hv.out]; exact heap_setCell_same _ _ _ _ _ _ HC'.out, by simpa using hs', fun j hj => ?_⟩, hW.setCell (by simp; omega) _⟩
          by_cases e : j = k
          · subst e; rw [Array.getElem?_setIfInBounds_self_of_lt (by omega)]
          · rw [Array.getElem?_setIfInBounds_ne (fun h => e h.symm)]; exact HJ'.out j (by omega)
        case measure => simp [intOf] <;> omega
    · obtain rfl : k = pw n := by omega
      have hcv := run_convert_bytes_arg (P := Tryd.prog) wr 24 5 Tryd.underlying24 Tryd.underlying5 g 0 (pw n) (pw n) (letters (pw n) f) (letters_length _ _) (fun i hi => by
        rw [Nat.zero_add, cell_of_row wr _ _ _ _ _ hc', hj' i hi]
        simp [letters, hi]) 9 Tryd.underlying9
      rw [letters_text] at hcv
      clear hT hc' hj'
      go_wp2_with fail
      go_ret
      exact ⟨hW, rfl⟩

theorem netTexts_take (N : Net) (k : Nat) (h : k < N.n) : (netTexts N).take (k + 1) = (netTexts N).take k ++ [tabText N.n (N.f k)] := by
  rw [List.take_succ_eq_append_getElem (by rw [netTexts_length]; exact h), netTexts_get N k h]
theorem join_joinL (ps : List (List UInt8)) : Lib.join ps [44] = joinL ps := by
  unfold Lib.join
  induction ps with
  | nil => rfl
  | cons p r ih =>
    by_cases e : r = []
    · subst e; simp [joinL, List.intercalate]
    · rw [joinL_cons _ _ e, ← ih]
      cases r with
      | nil => exact absurd rfl e
      | cons q r => simp [List.intercalate, List.intersperse]

theorem netText_any (b cap : Nat) (N : Net) (h1 : 1 ≤ N.n) (hn : N.n ≤ 5) (w : World) (hat : NetAt w b N.n N.f) (hb : b < w.heap.size) :
    Calls Tryd.prog 128 #[.slice (some ⟨b, 0, none⟩) N.n cap] w fun e w' => Below w.heap.size w w' ∧ e = .returned (.string (netText N)) := by
  have Hat := Lib.hid hat
  have hT : ∀ k, k < N.n → (netTexts N).take (k + 1) = (netTexts N).take k ++ [tabText N.n (N.f k)] := netTexts_take N
  have hL : ∀ k, k ≤ N.n → ((netTexts N).take k).length = k := fun k hk => by rw [List.length_take, netTexts_length]; omega
  have HT := Lib.hid hT
  have HL := Lib.hid hL
  have hsz0 := netText_size hn
  clear hat hT hL
  go_enter Tryd.func128, Tryd.ntmps128
  go_wp2_with fail
  go_loopw [3, 5, 8] (fun out _ j wr => ∃ k : Nat, k ≤ N.n ∧ j = .int .i64 k ∧ wr.ownsRow w.heap.size 9 1 out k (texts ((netTexts N).take k)) ∧ Below w.heap.size w wr) (fun _ _ j _ => N.n - (intOf j).toNat)
  case atStart => exact ⟨0, Nat.zero_le _, rfl, World.ownsRow_nil _ _ _ _, Below.refl _ _⟩
  case round =>
    obtain ⟨k, hk, rfl, hown, hW⟩ := hrel
    have Hown := Lib.hid hown
    have hWsz := hW.size
    clear hown
    by_cases hlt : k < N.n
    · have hr : wr.rangeAt b (k * 33) (tlist N.n (N.f k)) := (Hat.out.below hW hb) k hlt
      have Hr := Lib.hid hr
      have HTk := Lib.hid (HT.out k hlt)
      have HLk := Lib.hid (HL.out k hk)
      have c := Lib.hid (fun wx => tableText_any N.n (N.f k) hn wx)
      clear hr
      obtain ⟨wo, rfl⟩ : ∃ wo : World, wo = wr := ⟨_, rfl⟩
      go_wp2_with (first | ((with_reducible show wpList _ _ _ (⟨_, .alloc 123, _, _, _, _⟩ :: _) _ _); refine wpList_alloc' rfl _ rfl (tab_alloc _) ?_) | ((with_reducible show wpList _ _ _ (⟨_, .store 123 _ _, _, _, _, _⟩ :: _) _ _); refine wpList_store' rfl _ _ _ rfl rfl rfl (tab_store_new _ _ N.n _ ?_) ?_; simp) | ((with_reducible show wpList _ _ _ (⟨_, .load 123 _, _, _, _, _⟩ :: _) _ _); refine wpList_load' rfl _ _ rfl rfl (tab_load_at _ _ _ N.n (N.f k) (range_new ?_)) ?_; simp) | ((with_reducible show wpList _ _ _ (⟨_, .load 123 _, _, _, _, _⟩ :: _) _ _); refine wpList_load' rfl _ _ rfl rfl (tab_load_at _ _ _ N.n (N.f k) Hr.out) ?_))
      refine (c.out _).mono ?_
      rintro e w3 ⟨hW3, rfl⟩
      have hB3 : Below wo.heap.size wo w3 := ((Below.refl _ _).alloc (Nat.le_refl _) _).trans (hW3.mono (by simp))
      have hsz3 := hB3.size
      have hown3 : w3.ownsRow w.heap.size 9 1 u3 ((netTexts N).take k).length (texts ((netTexts N).take k)) := by
        rw [HLk.out]; exact own_below Hown.out hB3
      have hl8 : ((netTexts N).take k).length ≤ 8 := by rw [HLk.out]; omega
      have Hown3 := Lib.hid hown3
      clear hown3
      go_wp2_with (first | ((with_reducible show wpList _ _ _ (⟨_, .buildSlice 26 1 _, _, _, _, _⟩ :: _) _ _); refine wpList_buildSlice' rfl _ _ _ rfl rfl (str_one (tabText N.n (N.f k)) _) ?_) | (at_builtin; refine wpList_text_appendK rfl _ _ rfl w.heap.size _ ((netTexts N).take k) rfl ((Hown3.out.alloc _)) _ _ rfl (cell_new ?_) (by omega) ((hW.trans (hB3.mono hWsz)).alloc (by omega) _) ?_ ?_ ?_))
      · rfl
      · exact Nat.le_refl _
      · first | omega | (simp; omega)
      · intro v' w4 hown4 hB4 _
        have hown5 : w4.ownsRow w.heap.size 9 1 v' (k + 1) (texts ((netTexts N).take (k + 1))) := by
          have hlen : min k (netTexts N).length = k := by have := HLk.out; rwa [List.length_take] at this
          rw [hlen] at hown4
          rw [HTk.out]; exact hown4
        have Hown4 := Lib.hid hown5
        have HB4 := Lib.hid hB4
        clear hown4 hown5 hB4
        go_wp2_with fail
        go_roundw
        case rel => exact ⟨k + 1, by omega, by go_num, Hown4.out, HB4.out⟩
        case measure => simp [intOf] <;> omega
    · obtain rfl : k = N.n := by omega
      obtain ⟨g, cp, rfl, hg1, hg2⟩ := own_slice Hown.out h1
      have hat2 : StrsAt wr g ((netTexts N).take N.n) := strsAt_of_own Hown.out
      have htk : (netTexts N).take N.n = netTexts N := by rw [← netTexts_length N, List.take_length]
      rw [htk] at hat2
      have hcp : N.n ≤ cp := by
        rcases Hown.out.2 with ⟨h, _⟩ | ⟨q, cap, cur, hv, hb, hg, h1, h2, h3, h4⟩
        · cases h
        · cases hv; exact h1
      have hj : (Lib.join ((netTexts N).map (·.data.toList)) (ByteArray.mk #[44]).data.toList).toArray = (netText N).data := by
        rw [show (ByteArray.mk #[44]).data.toList = [44] from rfl, join_joinL]; rfl
      have hjl : (Lib.join ((netTexts N).map (·.data.toList)) (ByteArray.mk #[44]).data.toList).length ≤ 140737488355328 := by
        rw [show (ByteArray.mk #[44]).data.toList = [44] from rfl, join_joinL]
        have : (joinL ((netTexts N).map (·.data.toList))).length = (netText N).size := by simp [netText]
        omega
      have c := Tryd.strings_Join g 0 cp (netTexts N) ⟨#[44]⟩ wr (fun j x hx => by
        obtain ⟨hj, rfl⟩ := List.getElem?_eq_some_iff.1 hx
        rw [Nat.zero_add]; exact hat2 j hj) hg2 (by rw [netTexts_length]; omega) (by rw [netTexts_length]; exact hcp) hjl
      rw [netTexts_length, hj] at c
      have C := Lib.hid c
      clear hat2 htk hj hjl c
      go_wp2_with fail
      refine C.out.mono ?_
      rintro e w2 ⟨rfl, hW2⟩
      go_wp2_with fail
      go_ret
      exact ⟨hW.trans (hW2.mono hWsz), rfl⟩

theorem dropN_le (t i : Nat) : dropN t i ≤ t := by
  unfold dropN
  have h0 := Nat.div_add_mod t (2 ^ (i + 1))
  have h3 : t % 2 ^ i ≤ t % 2 ^ (i + 1) := by
    rw [← Nat.mod_mod_of_dvd t (Nat.pow_dvd_pow 2 (Nat.le_succ i))]
    exact Nat.mod_le _ _
  have h4 : t / 2 ^ (i + 1) * 2 ^ i ≤ 2 ^ (i + 1) * (t / 2 ^ (i + 1)) := by
    rw [Nat.mul_comm (2 ^ (i + 1))]
    exact Nat.mul_le_mul_left _ (Nat.pow_le_pow_right (by omega) (Nat.le_succ i))
  omega
set_option maxHeartbeats 1000000 in
theorem remove_any (b cap i : Nat) (N : Net) (h2 : 2 ≤ N.n) (hn : N.n ≤ 5) (hi : i < N.n) (w : World) (hat : NetAt w b N.n N.f) (hb : b < w.heap.size) :
    Calls Tryd.prog 127 #[.slice (some ⟨b, 0, none⟩) N.n cap, .int .i64 i] w fun e w' => Below w.heap.size w w' ∧
      ∃ b' c', e = .returned (.slice (some ⟨b', 0, none⟩) (N.n - 1) c') ∧ w.heap.size ≤ b' ∧ b' < w'.heap.size ∧ NetAt w' b' (N.n - 1) (stepF (N.n - 1) fun s => dropN (stepN N (liftN N i s)) i) := by
  have hp := pw_le hn
  have hsub : ((N.n : Int) - 1) = ((N.n - 1 : Nat) : Int) := by omega
  have C := Lib.hid (fun (W : World) (hW : Below w.heap.size w W) (hsz : w.heap.size + 1 < W.heap.size) (c1 : W.cell? ⟨w.heap.size, 0, none⟩ = some (.slice (some ⟨b, 0, none⟩) N.n cap)) (c2 : W.cell? ⟨w.heap.size + 1, 0, none⟩ = some (.int .i64 i)) =>
    fromStep_any (N.n - 1) (by omega) (by omega) 182 #[.pointer (some ⟨w.heap.size, 0, none⟩), .pointer (some ⟨w.heap.size + 1, 0, none⟩)] (fun s => dropN (stepN N (liftN N i s)) i)
      (fun s hs => by
        have h1 := stepN_lt N (liftN N i s)
        have := dropN_le (stepN N (liftN N i s)) i
        omega) W (enters_fn Tryd.func182 (by kernel_rfl) rfl)
      (fun s wx hs hx => (remove1_any s i b cap w.heap.size (w.heap.size + 1) N h2 hn hs hi wx ((hat.below hW hb).below hx (by omega)) (by have := hx.size; omega)
        (by rw [hx.cell (by show w.heap.size < W.heap.size; omega)]; exact c1) (by rw [hx.cell (by show w.heap.size + 1 < W.heap.size; omega)]; exact c2) (by have := hx.size; omega) (by have := hx.size; omega)).mono fun e w' h => h))
  clear hat
  go_enter Tryd.func127, Tryd.ntmps127
  go_wp2_with fail
  refine (C.out _ ?_ ?_ ?_ ?_).mono ?_
  · exact ((Below.refl _ _).alloc (Nat.le_refl _) _).alloc (by simp) _
  · simp
  · rw [cell_of_row _ _ _ _ _ _ (heap_alloc2_old _ _ _)]; rfl
  · exact cell_new (by simp)
  rintro e w1 ⟨hW1, b', c', rfl, hb1, hb2, hat⟩
  have Hat := Lib.hid hat
  have hsz : w.heap.size ≤ b' := by simp at hb1; omega
  have hB : Below w.heap.size w w1 := (((Below.refl _ _).alloc (Nat.le_refl _) _).alloc (by simp) _).trans (hW1.mono (by simp; omega))
  clear hat
  go_wp2_with fail
  go_ret
  exact ⟨hB, b', c', rfl, hsz, hb2, Hat.out⟩

theorem removeSwitch_impl (t : ByteArray) (i : Int) (w : World) (hs : t.size ≤ 1048576) :
    Calls Tryd.prog 55 #[.string t, .int .i64 i] w fun e w' => Below w.heap.size w w' ∧ e = .returned (.tuple #[.string (remT t i), .bool (remB t i)]) := by
  cases h : swB t i
  · have hb : remB t i = false := by rw [remB, h]; rfl
    have hr : remT t i = ByteArray.empty := by rw [remT, hb]; rfl
    rw [hb, hr]
    have c := Lib.hid (switchOf_no t i w hs h)
    clear hr hb h
    go_enter Tryd.func55, Tryd.ntmps55
    go_wp2_with fail
    refine c.out.mono ?_
    rintro e w1 ⟨hW1, v, rfl⟩
    go_wp2_with fail
    go_ret2
    exact ⟨hW1, rfl⟩
  · obtain ⟨hok, hi0, hi1⟩ := swB_yes h
    have hn := netOf_ok hok
    obtain ⟨k, rfl⟩ := Int.eq_ofNat_of_zero_le hi0
    have c := Lib.hid (switchOf_yes t k w hs h)
    have hB : remB t k = freeB (netOf t) k := by rw [remB, h]; rfl
    have hT : remT t k = if freeB (netOf t) k then netText (remN (netOf t) k) else ByteArray.empty := by rw [remT, hB]; rfl
    rw [hT, hB]
    cases hf : freeB (netOf t) k
    · rw [if_neg (by decide)]
      have Hf := Lib.hid hf
      clear h hf hB hT hok
      go_enter Tryd.func55, Tryd.ntmps55
      go_wp2_with fail
      refine c.out.mono ?_
      rintro e w1 ⟨hW1, b, cp, rfl, hb1, hb2, hat⟩
      have c2 := removable_any b cp k (netOf t) hn.2 (by omega) w1 hat
      rw [Hf.out] at c2
      have C2 := Lib.hid c2
      clear c2 hat
      go_wp2_with fail
      refine C2.out.mono ?_
      rintro e w2 ⟨hW2, rfl⟩
      go_wp2_with fail
      go_ret2
      exact ⟨hW1.trans (hW2.mono hW1.size), rfl⟩
    · rw [if_pos rfl]
      have h2n : 2 ≤ (netOf t).n := by
        simp only [freeB, Bool.and_eq_true, decide_eq_true_eq] at hf; exact hf.1
      have heq := (rem_step (netOf t) k).text
      rw [← heq]
      obtain ⟨M, hM⟩ : ∃ M : Net, (⟨(netOf t).n - 1, stepF ((netOf t).n - 1) fun s => dropN (stepN (netOf t) (liftN (netOf t) k s)) k⟩ : Net) = M := ⟨_, rfl⟩
      rw [hM]
      have hMn : M.n = (netOf t).n - 1 := by rw [← hM]
      have hMf : M.f = stepF ((netOf t).n - 1) fun s => dropN (stepN (netOf t) (liftN (netOf t) k s)) k := by rw [← hM]
      have Hf := Lib.hid hf
      have HMn := Lib.hid hMn
      have HMf := Lib.hid hMf
      clear h hf hB hT hok heq hM hMn hMf
      go_enter Tryd.func55, Tryd.ntmps55
      go_wp2_with fail
      refine c.out.mono ?_
      rintro e w1 ⟨hW1, b, cp, rfl, hb1, hb2, hat⟩
      have c2 := removable_any b cp k (netOf t) hn.2 (by omega) w1 hat
      rw [Hf.out] at c2
      have C2 := Lib.hid c2
      have Hat := Lib.hid hat
      clear c2 hat
      go_wp2_with fail
      refine C2.out.mono ?_
      rintro e w2 ⟨hW2, rfl⟩
      have c3 := Lib.hid (remove_any b cp k (netOf t) h2n hn.2 (by omega) w2 (Hat.out.below hW2 hb2) (Nat.lt_of_lt_of_le hb2 hW2.size))
      go_wp2_with fail
      refine c3.out.mono ?_
      rintro e w3 ⟨hW3, b', c', rfl, hb1', hb2', hat'⟩
      have c4 := netText_any b' c' M (by rw [HMn.out]; omega) (by rw [HMn.out]; omega) w3 (by rw [HMn.out, HMf.out]; exact hat') hb2'
      rw [HMn.out] at c4
      have C4 := Lib.hid c4
      clear c4 hat'
      go_wp2_with fail
      refine C4.out.mono ?_
      rintro e w4 ⟨hW4, rfl⟩
      go_wp2_with fail
      go_ret2
      have hW12 := hW1.trans (hW2.mono hW1.size)
      have hW13 := hW12.trans (hW3.mono hW12.size)
      exact ⟨hW13.trans (hW4.mono hW13.size), rfl⟩
end Go.Proofs.YtcddnacbjdahbaaDoor
