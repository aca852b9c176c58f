/- The reference's networks without a switch. -/
import Derived.Test.YtkfagolmpbbckaaDoorSpecU
import Derived.Test.YtkfagolmpbbckaaDoorSpec9
import Derived.Deep.RegionHeld3
import Derived.Deep.AppendLies
namespace Go.Proofs.YtkfagolmpbbckaaDoor
open Go Go.RowKit Go.Sw
set_option maxRecDepth 100000
set_option linter.unusedVariables false

/-- the numbers of the switches below k other than i -/
def butL (i k : Nat) : List Nat := (List.range k).filter (· ≠ i)
theorem butL_succ (i k : Nat) : butL i (k + 1) = if k = i then butL i k else butL i k ++ [k] := by
  unfold butL
  rw [List.range_succ, List.filter_append]
  by_cases h : k = i <;> simp [h]
theorem butL_le (i k : Nat) : (butL i k).length ≤ k := by
  have := List.length_filter_le (fun x => decide (x ≠ i)) (List.range k)
  simpa [butL] using this
theorem butL_small (i k : Nat) (h : k ≤ i) : butL i k = List.range k := by
  induction k with
  | zero => rfl
  | succ k ih => rw [butL_succ, if_neg (by omega), ih (by omega), List.range_succ]
theorem butL_big (i k : Nat) (h : i < k) : butL i k = (List.range (k - 1)).map (skip i) := by
  induction k with
  | zero => omega
  | succ k ih =>
    rw [butL_succ]
    by_cases e : k = i
    · subst e
      rw [if_pos rfl, butL_small k k (Nat.le_refl _), Nat.add_sub_cancel]
      conv => lhs; rw [← List.map_id (List.range k)]
      exact List.map_congr_left fun j hj => by
        have := List.mem_range.1 hj
        unfold skip; rw [if_pos this]; rfl
    · rw [if_neg e, ih (by omega), Nat.add_sub_cancel, show k = (k - 1) + 1 by omega, List.range_succ, List.map_append, List.map_singleton]
      congr 2
      unfold skip; rw [if_neg (by omega)]
/-- the texts of the rules without a switch -/
def remTexts (N : Net) (i k : Nat) : List ByteArray := (butL i k).map fun j => bitsT (pw (N.n - 1)) fun s => N.f j (liftN N i s)
theorem remTexts_succ (N : Net) (i k : Nat) : remTexts N i (k + 1) = if k = i then remTexts N i k else remTexts N i k ++ [bitsT (pw (N.n - 1)) fun s => N.f k (liftN N i s)] := by
  unfold remTexts
  rw [butL_succ]
  split <;> simp
theorem remTexts_all (N : Net) (i : Nat) (hi : i < N.n) : remTexts N i N.n = netTexts (remN N i) := by
  unfold remTexts netTexts
  rw [butL_big i N.n hi, List.map_map]; rfl
theorem remTexts_le (N : Net) (i k : Nat) : (remTexts N i k).length ≤ k := by unfold remTexts; rw [List.length_map]; exact butL_le i k
theorem int_append_row : (Tryd.prog.info? 3).map (fun i => (i.zero, i.size, i.bytes)) = some (some (.int .i64 0), 1, 8) := int_row

set_option maxHeartbeats 2000000 in
theorem l9Remove_any (b cap i : Nat) (N : Net) (h2 : 2 ≤ N.n) (hn : N.n ≤ 5) (hi : i < N.n) (w : World) (hat : StrsAt w b (netTexts N)) (hb : b < w.heap.size) :
    Calls Tryd.prog 152 #[.slice (some ⟨b, 0, none⟩) N.n cap, .int .i64 i] w fun e w' => Below w.heap.size w w' ∧
      ∃ b' c', e = .returned (.slice (some ⟨b', 0, none⟩) (N.n - 1) c') ∧ w.heap.size ≤ b' ∧ b' < w'.heap.size ∧ StrsAt w' b' (netTexts (remN N i)) := by
  have hp := pw_le hn
  have hh := pw_half (show 1 ≤ N.n by omega)
  have hp1 := pw_le (show N.n - 1 ≤ 5 by omega)
  have hdiv : (((pw N.n - 1 : Nat)) : Int) / 2 = ((pw (N.n - 1) - 1 : Nat) : Int) := by omega
  have Hat := Lib.hid hat
  have cA := Lib.hid (fun wx => l3All_any (some ⟨b, 0, none⟩) N.n cap hn wx)
  obtain ⟨i0, hi0, hz0, hz1, hz2⟩ := info_parts int_append_row
  have Hi0 := Lib.hid hi0
  have Hz0 := Lib.hid hz0
  have Hz1 := Lib.hid hz1
  have Hz2 := Lib.hid hz2
  clear hat hh hi0 hz0 hz1 hz2
  go_enter Tryd.func152, Tryd.ntmps152
  go_wp2_with ((with_reducible show wpList _ _ _ (⟨_, .buildSlice 41 0 _, _, _, _, _⟩ :: _) _ _); refine wpList_buildSlice' rfl _ _ _ rfl rfl (str_none _) ?_)
  go_loopw [5, 6, 7, 8] (fun out j _ _ wr => ∃ k : Nat, k ≤ N.n ∧ j = .int .i64 k ∧ wr.ownsRow w.heap.size 9 1 out (remTexts N i k).length (texts (remTexts N i k)) ∧ Below w.heap.size w wr) (fun _ j _ _ _ => N.n - (intOf j).toNat)
  case atStart => exact ⟨0, Nat.zero_le _, rfl, World.ownsRow_made w #[] 0 (Nat.le_refl _) (by unfold maxLen; omega) rfl, (Below.refl _ _).alloc (Nat.le_refl _) _⟩
  case round =>
    obtain ⟨k, hk, rfl, hown, hW⟩ := hrel
    have Hown := Lib.hid hown
    have hWsz := hW.size
    have hR := remTexts_succ N i k
    have hRl := remTexts_le N i k
    clear hown
    by_cases hlt : k < N.n
    · by_cases e : k = i
      · rw [if_pos e] at hR
        have he : ((k : Int) == (i : Int)) = true := by rw [e]; simp
        have HR := Lib.hid hR
        clear hR e
        go_wp2_with fail
        go_roundw
        case rel => exact ⟨k + 1, by omega, by go_num, by rw [HR.out]; exact Hown.out, hW⟩
        case measure => simp [intOf] <;> omega
      · rw [if_neg e] at hR
        have he : ((k : Int) == (i : Int)) = false := by rw [beq_eq_false_iff_ne]; omega
        have HR := Lib.hid hR
        clear hR e
        obtain ⟨v, hv⟩ : ∃ v : Nat → Bool, (fun s => N.f k (liftN N i s)) = v := ⟨_, rfl⟩
        rw [hv] at HR
        have hvs : ∀ s, N.f k (liftN N i s) = v s := fun s => by rw [← hv]
        have Hvs := Lib.hid hvs
        clear hv hvs
        obtain ⟨wo, rfl⟩ : ∃ wo : World, wo = wr := ⟨_, rfl⟩
        go_wp2_with ((with_reducible show wpList _ _ _ (⟨_, .buildSlice 26 0 _, _, _, _, _⟩ :: _) _ _); refine wpList_buildSlice' rfl _ _ _ rfl rfl (int_none _) ?_)
        go_loopw [7, 8] (fun vs j wr => ∃ s : Nat, s ≤ pw (N.n - 1) ∧ j = .int .i64 s ∧ wr.ownsRow wo.heap.size 3 1 vs (bitInts s v).length (ints (bitInts s v)) ∧ Below wo.heap.size wo wr) (fun _ j _ => pw (N.n - 1) - (intOf j).toNat)
        case atStart => exact ⟨0, Nat.zero_le _, rfl, World.ownsRow_made wo #[] 0 (Nat.le_refl _) (by unfold maxLen; omega) rfl, (Below.refl _ _).alloc (Nat.le_refl _) _⟩
        case round =>
          obtain ⟨s, hsk, rfl, hown2, hW2⟩ := hrel
          have Hown2 := Lib.hid hown2
          have hW12 : Below w.heap.size w wr := hW.trans (hW2.mono hWsz)
          have hWsz2 := hW2.size
          have hlenv : (bitInts s v).length ≤ 32 := by rw [bitInts_length]; omega
          clear hown2
          by_cases hlt2 : s < pw (N.n - 1)
          · have hcell : wr.cell? ⟨b, k, none⟩ = some (.string (tabText N.n (N.f k))) := by
              rw [← netTexts_get N k hlt]; exact (Hat.out.below hW12 hb) k (by rw [netTexts_length]; exact hlt)
            have hll := liftN_lt N i s hi hlt2
            have c1 := Lib.hid (fun wx (hx : Below w.heap.size w wx) => l9Lift_any b cap s i N h2 hn hlt2 hi wx (Hat.out.below hx hb))
            have c2 := fun wx => l1At_any N.n (N.f k) (liftN N i s) hn hll wx
            have hB := bitInts_succ s v
            rw [Hvs.out s] at c2
            cases hvs : v s <;> rw [hvs] at c2 hB
            all_goals
              simp only [Bool.toNat_true, Bool.toNat_false, Int.natCast_zero, Int.natCast_one] at c2 hB
              have C2 := Lib.hid c2
              have HB := Lib.hid hB
              have hbw : b < wr.heap.size := by omega
              have hbo : b < wo.heap.size := by omega
              clear c2 hB hvs
              obtain ⟨wi, rfl⟩ : ∃ wi : World, wi = wr := ⟨_, rfl⟩
              have Hstay := Lib.hid (fun (wx : World) (x : Value) (h : wx.heap[b]? = ((wi.alloc (.cells #[x] 3)).drew).heap[b]?) =>
                show wx.cell? ⟨b, k, none⟩ = some (.string (tabText N.n (N.f k))) by
                  have h1 : wx.heap[b]? = wi.heap[b]? := h.trans (Below.heap_alloc _ _ _ hbw)
                  rw [World.cell?_of_block (w := wi) (a := ⟨b, k, none⟩) h1]; exact hcell)
              go_wp2_with (go_at_call 82; refine (cA.out _).mono ?_; rintro e w' ⟨rfl, rfl⟩)
              go_region_held3 (fun w' => w'.cell? ⟨b, k, none⟩ = some (.string (tabText N.n (N.f k))))
                (first | exact hkeep | go_keep)
                (first
                  | (go_at_call 182; refine Calls.mono (c1.out _ (hW12.drew)) ?_; rintro e w' ⟨rfl, rfl⟩)
                  | (go_at_call 167; refine Calls.mono (C2.out _) ?_; rintro e w' ⟨rfl, rfl⟩)
                  | (refine step_append_lies _ (by rfl) _ _ _ (by rfl) wo.heap.size 3 i0 (.int .i64 0) 1 8 Tryd.underlying26 Hi0.out Hz0.out Hz1.out Hz2.out rfl (by omega) u7 (bitInts s v).length (ints (bitInts s v)) (by rfl) ((Hown2.out.alloc _).drew)
                      ⟨wi.heap.size, 0, none⟩ 1 1 [_] (by rfl) (by rfl) (World.news_of_block (t := 3) (fr := (0, 0)) (heap_alloc_new wi _)) (by simp [Value.oneCell'])
                      (by omega) (by unfold maxLen; omega) (by omega) (by simp; omega) (wi.heap.size + 1) (by simp) ?_; intro gg cp w1 hown1 hgrow hat1 hlt1; have hkeep : w1.cell? ⟨b, k, none⟩ = some (.string (tabText N.n (N.f k))) := Hstay.out w1 _ (hgrow.block b (by simp; omega) (fun h => by have := own_ge Hown2.out h.symm; omega))))
              have hW3 : Below wo.heap.size wo w1 := ((hW2.drew).alloc (by simp; omega) _).grown hgrow (by simp; omega) (fun q hq => own_ge Hown2.out hq)
              have hown3 : w1.ownsRow wo.heap.size 3 1 (.slice (some ⟨gg, 0, none⟩) ((bitInts s v).length + 1) cp) (bitInts (s + 1) v).length (ints (bitInts (s + 1) v)) := by
                rw [HB.out, List.length_append, ints_snoc]; exact hown1
              have Hown3 := Lib.hid hown3
              have HW3 := Lib.hid hW3
              clear hown1 hown3 hW3 hgrow hat1
              go_wp2_with fail
              go_roundw
              case rel => exact ⟨s + 1, by omega, by go_num, Hown3.out, HW3.out⟩
              case measure => simp [intOf] <;> omega
          · obtain rfl : s = pw (N.n - 1) := by omega
            obtain ⟨a, cp, rfl, hcp, hI⟩ := intsAt_of_own Hown2.out
            rw [bitInts_length]
            have c := Lib.hid (l1Text_any wo.heap.size (pw (N.n - 1)) a cp v (by omega) wr hI)
            clear hI
            go_wp2_with (go_at_call 82; refine (cA.out _).mono ?_; rintro e w' ⟨rfl, rfl⟩)
            refine c.out.mono ?_
            rintro e w3 ⟨hW3, rfl⟩
            have hB23 : Below wo.heap.size wo w3 := hW2.trans (hW3.mono hWsz2)
            have hsz3 := hW3.size
            have hown3 := own_below Hown.out hB23
            have Hown3 := Lib.hid hown3
            clear hown3
            go_wp2_with (first | ((with_reducible show wpList _ _ _ (⟨_, .buildSlice 41 1 _, _, _, _, _⟩ :: _) _ _); refine wpList_buildSlice' rfl _ _ _ rfl rfl (str_one (bitsT (pw (N.n - 1)) v) _) ?_) | (at_builtin; refine wpList_text_appendK rfl _ _ rfl w.heap.size _ (remTexts N i k) rfl ((Hown3.out.alloc _)) _ _ rfl (cell_new ?_) (by omega) ((hW.trans (hB23.mono hWsz)).alloc (by omega) _) ?_ ?_ ?_))
            · rfl
            · exact Nat.le_refl _
            · first | omega | (simp; omega)
            · intro v' w4 hown4 hB4 _
              have hown5 : w4.ownsRow w.heap.size 9 1 v' (remTexts N i (k + 1)).length (texts (remTexts N i (k + 1))) := by
                rw [HR.out, List.length_append]; exact hown4
              have Hown4 := Lib.hid hown5
              have HB4 := Lib.hid hB4
              clear hown4 hown5 hB4
              go_wp2_with fail
              go_roundw
              case rel => exact ⟨k + 1, by omega, by go_num, Hown4.out, HB4.out⟩
              case measure => simp [intOf] <;> omega
    · obtain rfl : k = N.n := by omega
      have hall := remTexts_all N i hi
      have hl : (remTexts N i N.n).length = N.n - 1 := by rw [hall, netTexts_length]; rfl
      have hown2 := Hown.out
      rw [hl, hall] at hown2
      obtain ⟨g, cp, rfl, hg1, hg2⟩ := own_slice hown2 (by omega)
      have hat2 : StrsAt wr g (netTexts (remN N i)) := strsAt_of_own hown2
      have Hat2 := Lib.hid hat2
      clear hat2 hown2 hl hall hR hRl
      go_wp2_with fail
      go_ret
      exact ⟨hW, g, cp, rfl, by omega, hg2, Hat2.out⟩

theorem netText_join (N : Net) : bs (joinL ((netTexts N).map (·.data.toList))) = netText N := rfl

end Go.Proofs.YtkfagolmpbbckaaDoor
