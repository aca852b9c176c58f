/- The reference's fixed points, and its draws of a network with one state or two. -/
import Derived.Test.YtkfagolmpbbckaaDoorDh
import Derived.Test.YtkfagolmpbbckaaDoorImplB
namespace Go.Proofs.YtkfagolmpbbckaaDoor
open Go Go.RowKit Go.Sw
set_option maxRecDepth 100000
set_option linter.unusedVariables false

set_option maxHeartbeats 1000000 in
theorem fixedPoints_spec (t : ByteArray) (w : World) (hs : t.size ≤ 1048576) :
    Calls Tryd.prog 106 #[.string t] w fun e w' => Below w.heap.size w w' ∧ ∃ a cap, e = .returned (.slice a (pointsL t).length cap) ∧ IntsAt w' w.heap.size a (nats (pointsL t)) := by
  have c0 := Lib.hid (fun wx => l3Open_any t wx hs)
  go_enter Tryd.func106, Tryd.ntmps106
  go_wp2_with ((with_reducible show wpList _ _ _ (⟨_, .buildSlice 26 0 _, _, _, _, _⟩ :: _) _ _); refine wpList_buildSlice' rfl _ _ _ rfl rfl (int_none _) ?_)
  refine (c0.out _).mono ?_
  rintro e w1 ⟨hW1, hcase⟩
  have hW0 : Below w.heap.size w w1 := ((Below.refl _ _).alloc (Nat.le_refl _) _).trans (hW1.mono (by simp))
  have hnew : w1.ownsRow w.heap.size 3 1 (.slice (some ⟨w.heap.size, 0, none⟩) 0 0) 0 [] :=
    own_below (World.ownsRow_made w #[] 0 (Nat.le_refl _) (by unfold maxLen; omega) rfl) hW1
  have Hnew := Lib.hid hnew
  clear hnew
  rcases hcase with ⟨hbad, v, rfl⟩ | ⟨hok, b, cap, rfl, hb1, hb2, hat⟩
  · have hr : pointsL t = [] := by rw [pointsL, hbad]; rfl
    have Hr := Lib.hid hr
    clear hr hbad
    go_wp2_with fail
    go_loopw [3, 6] (fun out i wr => out = .slice (some ⟨w.heap.size, 0, none⟩) 0 0 ∧ i = .int .i64 0 ∧ wr = w1) (fun _ _ _ => 0)
    case atStart => exact ⟨rfl, rfl, rfl⟩
    case round =>
      obtain ⟨rfl, rfl, rfl⟩ := hrel
      go_wp2_with fail
      go_ret
      exact ⟨hW0, _, 0, by rw [Hr.out]; rfl, by rw [Hr.out]; exact intsAt_nil _ _ _⟩
  · have hn := netOf_ok hok
    have hr : pointsL t = fixL (netOf t) := by rw [pointsL, hok]; rfl
    have Hr := Lib.hid hr
    have Hat := Lib.hid hat
    clear hr hok hat
    obtain ⟨N, hN⟩ : ∃ N, netOf t = N := ⟨_, rfl⟩
    rw [hN] at hn Hr Hat ⊢
    have hp := pw_le hn.2
    clear hN
    go_wp2_with fail
    go_loopw [3, 6] (fun out i wr => ∃ k : Nat, k ≤ pw N.n ∧ i = .int .i64 k ∧ wr.ownsRow w.heap.size 3 1 out (nats (pickL (fixB N) k)).length (ints (nats (pickL (fixB N) k))) ∧ (StrsAt wr b (netTexts N) ∧ b < wr.heap.size ∧ out.ownBlock ≠ some b) ∧ Below w.heap.size w wr) (fun _ i _ => pw N.n - (intOf i).toNat)
    case atStart => exact ⟨0, Nat.zero_le _, rfl, Hnew.out, ⟨Hat.out, hb2, fun e => by cases e; simp at hb1; omega⟩, hW0⟩
    case round =>
      obtain ⟨k, hk, rfl, hown, hS, hW⟩ := hrel
      have hbs := hS.2.1
      have Hown := Lib.hid hown
      have HS := Lib.hid hS
      have hlen := pickL_length (fixB N) k
      have hsz := hW.size
      have cA := Lib.hid (fun wx => l3All_any (some ⟨b, 0, none⟩) N.n cap hn.2 wx)
      have hle : (k ≤ pw N.n - 1) ↔ k < pw N.n := by omega
      clear hown hS
      by_cases hlt : k < pw N.n
      · have c := l3StepAll_any b cap k N hn.2 hlt wr HS.out.1
        have hsuc : pickL (fixB N) (k + 1) = if fixB N k then pickL (fixB N) k ++ [k] else pickL (fixB N) k := rfl
        have hfx : fixB N k = (stepN N k == k) := rfl
        obtain ⟨ps, hps⟩ : ∃ ps, pickL (fixB N) k = ps := ⟨_, rfl⟩
        obtain ⟨q, hq⟩ : ∃ q, stepN N k = q := ⟨_, rfl⟩
        rw [hps] at hsuc Hown hlen
        rw [hq] at c hfx
        rw [hfx] at hsuc
        have hpl : (nats ps).length ≤ 32 := by rw [nats_length]; omega
        have hki : (k : Int) ≤ ((pw N.n - 1 : Nat) : Int) := by omega
        have C := Lib.hid c
        clear hps hq hfx c
        by_cases e : q = k
        · have HL := Lib.hid (show pickL (fixB N) (k + 1) = ps ++ [k] by rw [hsuc, if_pos (by rw [beq_iff_eq]; exact e)])
          have he : ((q : Int) == (k : Int)) = true := by rw [e]; simp
          clear hsuc e
          obtain ⟨wo, rfl⟩ : ∃ wo : World, wo = wr := ⟨_, rfl⟩
          go_wp2_with fail
          refine (cA.out _).mono ?_
          rintro e w' ⟨rfl, rfl⟩
          go_wp2_with fail
          refine (cA.out _).mono ?_
          rintro e w' ⟨rfl, rfl⟩
          go_wp2_with fail
          refine C.out.mono ?_
          rintro e w' ⟨rfl, rfl⟩
          go_wp2_with (first | ((with_reducible show wpList _ _ _ (⟨_, .buildSlice 26 1 _, _, _, _, _⟩ :: _) _ _); refine wpList_buildSlice' rfl _ _ _ rfl rfl (int_one (k : Int) _) ?_) | (at_builtin; refine wpList_int_appendK rfl _ _ rfl w.heap.size _ (nats ps) rfl ((Hown.out.alloc _)) _ _ rfl (cell_new ?_) (by omega) (hW.alloc (by omega) _) ?_ ?_ ?_))
          · rfl
          · exact Nat.le_refl _
          · first | omega | (simp; omega)
          · intro v' w3 hown3 hB3 hk3
            have hS3 : StrsAt w3 b (netTexts N) ∧ b < w3.heap.size ∧ v'.ownBlock ≠ some b := by
              have h1 := hk3 b (by first | omega | (simp; omega)) HS.out.2.2
              refine ⟨HS.out.1.same (h1.1.trans (Below.heap_alloc _ _ _ hbs)), ?_, h1.2⟩
              have h2 : ∃ o, w3.heap[b]? = some o := by rw [h1.1, Below.heap_alloc _ _ _ hbs]; exact ⟨_, Array.getElem?_eq_getElem hbs⟩
              exact block_lt h2.choose_spec
            have hown4 : w3.ownsRow w.heap.size 3 1 v' (nats (pickL (fixB N) (k + 1))).length (ints (nats (pickL (fixB N) (k + 1)))) := by rw [HL.out, nats_snoc, List.length_append]; exact hown3
            have Hown3 := Lib.hid hown4
            have HB3 := Lib.hid hB3
            have HS3 := Lib.hid hS3
            clear hown3 hown4 hB3 hk3 hS3
            go_wp2_with fail
            go_roundw
            case rel => exact ⟨k + 1, by omega, by go_num, Hown3.out, HS3.out, HB3.out⟩
            case measure => simp [intOf] <;> omega
        · have HL := Lib.hid (show pickL (fixB N) (k + 1) = ps by rw [hsuc, if_neg (by rw [beq_iff_eq]; exact e)])
          have he : ((q : Int) == (k : Int)) = false := by rw [beq_eq_false_iff_ne]; omega
          clear hsuc e
          go_wp2_with fail
          refine (cA.out _).mono ?_
          rintro e w' ⟨rfl, rfl⟩
          go_wp2_with fail
          refine (cA.out _).mono ?_
          rintro e w' ⟨rfl, rfl⟩
          go_wp2_with fail
          refine C.out.mono ?_
          rintro e w' ⟨rfl, rfl⟩
          go_wp2_with fail
          go_roundw
          case rel => exact ⟨k + 1, by omega, by go_num, by rw [HL.out]; exact Hown.out, HS.out, hW⟩
          case measure => simp [intOf] <;> omega
      · obtain rfl : k = pw N.n := by omega
        obtain ⟨a, cp, rfl, hcp, hI⟩ := intsAt_of_own Hown.out
        have hI' := Lib.hid hI
        have hki : ¬ (((pw N.n : Nat) : Int) ≤ ((pw N.n - 1 : Nat) : Int)) := by omega
        rw [nats_length]
        clear hI
        go_wp2_with fail
        refine (cA.out _).mono ?_
        rintro e w' ⟨rfl, rfl⟩
        go_wp2_with fail
        go_ret
        exact ⟨hW, a, cp, by rw [Hr.out]; rfl, by rw [Hr.out]; exact hI'.out⟩
theorem points_wf {t : ByteArray} {x : Int} (h : x ∈ nats (pointsL t)) : (Lit.int .i64 x).wf = true := by
  unfold nats at h
  obtain ⟨k, hk, rfl⟩ := List.mem_map.1 h
  refine wf_nat ?_
  unfold pointsL at hk
  cases e : netOk t
  · rw [e, if_neg (by decide)] at hk; cases hk
  · rw [e, if_pos rfl] at hk
    have := (fixL_mem.1 hk).1
    have := pw_le (netOf_ok e).2
    omega
set_option maxHeartbeats 2000000 in
theorem l8With_any (r m : Nat) (hm : m ≤ 400000) (w : World) (h : Rd w r m) :
    Calls Tryd.prog 71 #[.pointer (some ⟨r, 0, none⟩)] w fun e w' => TiAt w w' r (m + 420) 1100 e := by
  have c0 := Lib.hid (l8Draw_any r m (by omega) w h)
  have C := Lib.hid (fun (wx : World) (m' k : Nat) (hx : Rd wx r m') (h1 : m' ≤ 1000000) (h2 : k ≤ 2000000) => pick_any r m' k h1 h2 wx hx)
  clear h
  go_enter Tryd.func71, Tryd.ntmps71
  go_wp2_with fail
  refine c0.out.mono ?_
  rintro e w1 ⟨hD1, hR1, t, ht, rfl⟩
  have c1 := Lib.hid (fixedPoints_spec t w1 (by omega))
  have cS := Lib.hid (fun wx => sizeOf_spec t wx (by omega))
  have HD1 := Lib.hid hD1
  have HR1 := Lib.hid hR1
  have hw1 := hD1.size
  have hr1 := hR1.lt
  clear hD1 hR1
  go_wp2_with fail
  refine c1.out.mono ?_
  rintro e w2 ⟨hW2, a, cap, rfl, hI⟩
  have HD2 := Lib.hid (HD1.out.below hW2 hw1)
  have HR2 := Lib.hid (HR1.out.below hW2 hr1)
  have hL32 := pointsL_length t
  have hwf := Lib.hid (fun x (hx : x ∈ nats (pointsL t)) => points_wf hx)
  have hlen := nats_length (pointsL t)
  rw [← hlen] at hL32 ⊢
  obtain ⟨L, hL⟩ : ∃ L, nats (pointsL t) = L := ⟨_, rfl⟩
  rw [hL] at hI hL32 hwf ⊢
  have HI := Lib.hid hI
  have hle := szI_le t
  clear hI hL hW2 hlen
  by_cases h0 : 0 < L.length
  · have h0i : (0 : Int) < (L.length : Int) := by omega
    go_wp2_with fail
    refine (C.out w2 _ 2 HR2.out (by omega) (by omega)).mono ?_
    rintro e w3 ⟨hD3, hR3, c4, rfl, _, _⟩
    by_cases h4 : c4 = 0
    · have h4i : ((c4 : Int) == 0) = true := by rw [beq_iff_eq]; omega
      obtain ⟨g, cur, tt, rfl, hBg, hcur, hcs, hcells⟩ := HI.out.at' h0
      have hgl := block_lt hcur
      have hgr : g ≠ r := by omega
      have Hg3 := Lib.hid ((hD3.block g hgl hgr).trans hcur)
      have Hcells := Lib.hid hcells
      have HR3 := Lib.hid hR3
      have HD3 := Lib.hid (HD2.out.trans hD3)
      have hgl3 : g < w3.heap.size := by have := hD3.size; omega
      have hkeep0 : ∀ j (hj : j < L.length), w3.cell? ⟨g, j, none⟩ = some (.int .i64 (L[j]'hj)) := fun j hj => cell_row w3 g j Hg3.out (Hcells.out j hj)
      have Hk0 := Lib.hid hkeep0
      clear hcells hcur hR3 hD3 hkeep0
      go_wp2_with fail
      go_region_held3 (fun w' => ∀ j (hj : j < L.length), w'.cell? ⟨g, j, none⟩ = some (.int .i64 (L[j]'hj)))
        (first | exact hkeep | exact Hk0.out | go_keep)
        (first
          | (go_at_call 116; refine Calls.mono (C.out _ _ L.length (HR3.out.drew) (by omega) (by omega)) ?_; rintro e w4 ⟨hD4, hR4, j, rfl, hjl, hjj⟩; have hj := hjj h0; have hkeep : ∀ j (hj : j < L.length), w4.cell? ⟨g, j, none⟩ = some (.int .i64 (L[j]'hj)) := fun j hj => cell_row w4 g j ((hD4.block g hgl3 hgr).trans Hg3.out) (Hcells.out j hj); have hji : (j : Int) < (L.length : Int) := by omega))
      go_wp2_with fail
      go_ret2
      refine ⟨HD3.out.trans ?_, hR4.more (by omega), t, _, ht, hwf.out _ (List.getElem_mem hj), rfl⟩
      first | exact hD4 | exact hD4.drew
    · have h4i : ((c4 : Int) == 0) = false := by rw [beq_eq_false_iff_ne]; omega
      have HD3 := Lib.hid (HD2.out.trans hD3)
      have HR3 := Lib.hid hR3
      have hs3 := HD3.out.size
      clear hR3 hD3 h4
      go_wp2_with fail
      refine (cS.out w3).mono ?_
      rintro e w4 ⟨hW4, rfl⟩
      have HR4 := Lib.hid (HR3.out.below hW4 HR3.out.lt)
      have HD4 := Lib.hid (HD3.out.below hW4 hs3)
      obtain ⟨n, hn⟩ : ∃ n, szI t = n := ⟨_, rfl⟩
      rw [hn] at hle ⊢
      clear hn hW4
      by_cases hpos : 0 < n
      · obtain ⟨k2, rfl⟩ : ∃ k : Nat, n = (k : Int) := ⟨n.toNat, by omega⟩
        have hk25 : k2 ≤ 5 := by omega
        have hpw := pw_le hk25
        have hpc := pw_cast k2
        have h2 := pow2_le k2 hk25
        have Hw3 := Lib.hid (show (Lit.int .i64 ((2 : Int) ^ k2 - 1)).wf = true by
          rw [hpc, show ((pw k2 : Nat) : Int) - 1 = ((pw k2 - 1 : Nat) : Int) by omega]; exact wf_nat (by omega))
        go_wp2_with fail
        refine (C.out w4 _ 16 HR4.out (by omega) (by omega)).mono ?_
        rintro e w5 ⟨hD5, hR5, j, rfl, _, _⟩
        have HD5 := Lib.hid (HD4.out.trans hD5)
        have HR5 := Lib.hid hR5
        clear hD5 hR5
        by_cases hj : 0 < j
        · have hj2 : (0 : Int) < (j : Int) := by omega
          go_wp2_with fail
          refine (C.out w5 _ (pw k2) HR5.out (by omega) (by omega)).mono ?_
          rintro e w6 ⟨hD6, hR6, q, rfl, hq, _⟩
          have HD6 := Lib.hid (HD5.out.trans hD6)
          have HR6 := Lib.hid hR6
          clear hD6 hR6
          go_wp2_with ((with_reducible show wpList _ _ _ (⟨_, .buildSlice 26 3 _, _, _, _, _⟩ :: _) _ _); refine wpList_buildSlice' rfl _ _ _ rfl rfl (ints_built3 _ _ _ _) ?_)
          refine (num3_any (fun v => (Lit.int .i64 v).wf = true) r _ _ _ _ (by omega) w6 HR6.out (wf_nat (by omega)) (by decide) (by exact Hw3.out)).mono ?_
          rintro e w7 ⟨hD7, hR7, v, hv, rfl⟩
          go_wp2_with fail
          go_ret2
          exact ⟨HD6.out.trans hD7, hR7.more (by omega), t, v, ht, hv, rfl⟩
        · have hj2 : ¬ (0 : Int) < (j : Int) := by omega
          go_wp2_with ((with_reducible show wpList _ _ _ (⟨_, .buildSlice 26 2 _, _, _, _, _⟩ :: _) _ _); refine wpList_buildSlice' rfl _ _ _ rfl rfl (ints_built2 _ _ _) ?_)
          refine (num2_any (fun v => (Lit.int .i64 v).wf = true) r _ _ _ (by omega) w5 HR5.out (by decide) (by decide)).mono ?_
          rintro e w6 ⟨hD6, hR6, v, hv, rfl⟩
          go_wp2_with fail
          go_ret2
          exact ⟨HD5.out.trans hD6, hR6.more (by omega), t, v, ht, hv, rfl⟩
      · go_wp2_with ((with_reducible show wpList _ _ _ (⟨_, .buildSlice 26 2 _, _, _, _, _⟩ :: _) _ _); refine wpList_buildSlice' rfl _ _ _ rfl rfl (ints_built2 _ _ _) ?_)
        refine (num2_any (fun v => (Lit.int .i64 v).wf = true) r _ _ _ (by omega) w4 HR4.out (by decide) (by decide)).mono ?_
        rintro e w6 ⟨hD6, hR6, v, hv, rfl⟩
        go_wp2_with fail
        go_ret2
        exact ⟨HD4.out.trans hD6, hR6.more (by omega), t, v, ht, hv, rfl⟩
  · have h0i : ¬ (0 : Int) < (L.length : Int) := by omega
    have HD3 := HD2
    have HR3 := HR2
    have hs3 := HD3.out.size
    go_wp2_with fail
    refine (cS.out w2).mono ?_
    rintro e w4 ⟨hW4, rfl⟩
    have HR4 := Lib.hid (HR3.out.below hW4 HR3.out.lt)
    have HD4 := Lib.hid (HD3.out.below hW4 hs3)
    obtain ⟨n, hn⟩ : ∃ n, szI t = n := ⟨_, rfl⟩
    rw [hn] at hle ⊢
    clear hn hW4
    by_cases hpos : 0 < n
    · obtain ⟨k2, rfl⟩ : ∃ k : Nat, n = (k : Int) := ⟨n.toNat, by omega⟩
      have hk25 : k2 ≤ 5 := by omega
      have hpw := pw_le hk25
      have hpc := pw_cast k2
      have h2 := pow2_le k2 hk25
      have Hw3 := Lib.hid (show (Lit.int .i64 ((2 : Int) ^ k2 - 1)).wf = true by
        rw [hpc, show ((pw k2 : Nat) : Int) - 1 = ((pw k2 - 1 : Nat) : Int) by omega]; exact wf_nat (by omega))
      go_wp2_with fail
      refine (C.out w4 _ 16 HR4.out (by omega) (by omega)).mono ?_
      rintro e w5 ⟨hD5, hR5, j, rfl, _, _⟩
      have HD5 := Lib.hid (HD4.out.trans hD5)
      have HR5 := Lib.hid hR5
      clear hD5 hR5
      by_cases hj : 0 < j
      · have hj2 : (0 : Int) < (j : Int) := by omega
        go_wp2_with fail
        refine (C.out w5 _ (pw k2) HR5.out (by omega) (by omega)).mono ?_
        rintro e w6 ⟨hD6, hR6, q, rfl, hq, _⟩
        have HD6 := Lib.hid (HD5.out.trans hD6)
        have HR6 := Lib.hid hR6
        clear hD6 hR6
        go_wp2_with ((with_reducible show wpList _ _ _ (⟨_, .buildSlice 26 3 _, _, _, _, _⟩ :: _) _ _); refine wpList_buildSlice' rfl _ _ _ rfl rfl (ints_built3 _ _ _ _) ?_)
        refine (num3_any (fun v => (Lit.int .i64 v).wf = true) r _ _ _ _ (by omega) w6 HR6.out (wf_nat (by omega)) (by decide) (by exact Hw3.out)).mono ?_
        rintro e w7 ⟨hD7, hR7, v, hv, rfl⟩
        go_wp2_with fail
        go_ret2
        exact ⟨HD6.out.trans hD7, hR7.more (by omega), t, v, ht, hv, rfl⟩
      · have hj2 : ¬ (0 : Int) < (j : Int) := by omega
        go_wp2_with ((with_reducible show wpList _ _ _ (⟨_, .buildSlice 26 2 _, _, _, _, _⟩ :: _) _ _); refine wpList_buildSlice' rfl _ _ _ rfl rfl (ints_built2 _ _ _) ?_)
        refine (num2_any (fun v => (Lit.int .i64 v).wf = true) r _ _ _ (by omega) w5 HR5.out (by decide) (by decide)).mono ?_
        rintro e w6 ⟨hD6, hR6, v, hv, rfl⟩
        go_wp2_with fail
        go_ret2
        exact ⟨HD5.out.trans hD6, hR6.more (by omega), t, v, ht, hv, rfl⟩
    · go_wp2_with ((with_reducible show wpList _ _ _ (⟨_, .buildSlice 26 2 _, _, _, _, _⟩ :: _) _ _); refine wpList_buildSlice' rfl _ _ _ rfl rfl (ints_built2 _ _ _) ?_)
      refine (num2_any (fun v => (Lit.int .i64 v).wf = true) r _ _ _ (by omega) w4 HR4.out (by decide) (by decide)).mono ?_
      rintro e w6 ⟨hD6, hR6, v, hv, rfl⟩
      go_wp2_with fail
      go_ret2
      exact ⟨HD4.out.trans hD6, hR6.more (by omega), t, v, ht, hv, rfl⟩
/-- what a draw of a text and two numbers leaves -/
def TiiAt (w w' : World) (r m z : Nat) (e : Ending) : Prop := Drw w w' r ∧ Rd w' r m ∧ ∃ (t : ByteArray) (i j : Int), t.size ≤ z ∧ (Lit.int .i64 i).wf = true ∧ (Lit.int .i64 j).wf = true ∧ e = .returned (.tuple #[.string t, .int .i64 i, .int .i64 j])
set_option maxHeartbeats 2000000 in
theorem l8Two_any (r m : Nat) (hm : m ≤ 300000) (w : World) (h : Rd w r m) :
    Calls Tryd.prog 63 #[.pointer (some ⟨r, 0, none⟩)] w fun e w' => TiiAt w w' r (m + 430) 1100 e := by
  have c0 := Lib.hid (l8With_any r m (by omega) w h)
  have C := Lib.hid (fun (wx : World) (m' k : Nat) (hx : Rd wx r m') (h1 : m' ≤ 1000000) (h2 : k ≤ 2000000) => pick_any r m' k h1 h2 wx hx)
  clear h
  go_enter Tryd.func63, Tryd.ntmps63
  go_wp2_with fail
  refine c0.out.mono ?_
  rintro e w1 ⟨hD1, hR1, t, i, ht, hi, rfl⟩
  have c1 := Lib.hid (fixedPoints_spec t w1 (by omega))
  have HD1 := Lib.hid hD1
  have HR1 := Lib.hid hR1
  have hw1 := hD1.size
  have hr1 := hR1.lt
  clear hD1 hR1
  go_wp2_with fail
  refine c1.out.mono ?_
  rintro e w2 ⟨hW2, a, cap, rfl, hI⟩
  have HD2 := Lib.hid (HD1.out.below hW2 hw1)
  have HR2 := Lib.hid (HR1.out.below hW2 hr1)
  have hL32 := pointsL_length t
  have hwf := Lib.hid (fun x (hx : x ∈ nats (pointsL t)) => points_wf hx)
  have hlen := nats_length (pointsL t)
  rw [← hlen] at hL32 ⊢
  obtain ⟨L, hL⟩ : ∃ L, nats (pointsL t) = L := ⟨_, rfl⟩
  rw [hL] at hI hL32 hwf ⊢
  have HI := Lib.hid hI
  clear hI hL hW2 hlen
  by_cases h0 : 0 < L.length
  · have h0i : (0 : Int) < (L.length : Int) := by omega
    go_wp2_with fail
    refine (C.out w2 _ 8 HR2.out (by omega) (by omega)).mono ?_
    rintro e w3 ⟨hD3, hR3, c4, rfl, _, _⟩
    by_cases h4 : 0 < c4
    · have h4i : (0 : Int) < (c4 : Int) := by omega
      obtain ⟨g, cur, tt, rfl, hBg, hcur, hcs, hcells⟩ := HI.out.at' h0
      have hgl := block_lt hcur
      have hgr : g ≠ r := by omega
      have Hg3 := Lib.hid ((hD3.block g hgl hgr).trans hcur)
      have Hcells := Lib.hid hcells
      have HR3 := Lib.hid hR3
      have HD3 := Lib.hid (HD2.out.trans hD3)
      have hgl3 : g < w3.heap.size := by have := hD3.size; omega
      have hkeep0 : ∀ j (hj : j < L.length), w3.cell? ⟨g, j, none⟩ = some (.int .i64 (L[j]'hj)) := fun j hj => cell_row w3 g j Hg3.out (Hcells.out j hj)
      have Hk0 := Lib.hid hkeep0
      clear hcells hcur hR3 hD3 hkeep0
      go_wp2_with fail
      go_region_held3 (fun w' => ∀ j (hj : j < L.length), w'.cell? ⟨g, j, none⟩ = some (.int .i64 (L[j]'hj)))
        (first | exact hkeep | exact Hk0.out | go_keep)
        (first
          | (go_at_call 116; refine Calls.mono (C.out _ _ L.length (HR3.out.drew) (by omega) (by omega)) ?_; rintro e w4 ⟨hD4, hR4, j, rfl, hjl, hjj⟩; have hj := hjj h0; have hkeep : ∀ j (hj : j < L.length), w4.cell? ⟨g, j, none⟩ = some (.int .i64 (L[j]'hj)) := fun j hj => cell_row w4 g j ((hD4.block g hgl3 hgr).trans Hg3.out) (Hcells.out j hj); have hji : (j : Int) < (L.length : Int) := by omega))
      go_wp2_with fail
      go_ret3
      refine ⟨HD3.out.trans ?_, hR4.more (by omega), t, i, _, ht, hi, hwf.out _ (List.getElem_mem hj), rfl⟩
      first | exact hD4 | exact hD4.drew
    · have h4i : ¬ (0 : Int) < (c4 : Int) := by omega
      have HD3 := Lib.hid (HD2.out.trans hD3)
      have HR3 := Lib.hid hR3
      clear hR3 hD3
      go_wp2_with ((with_reducible show wpList _ _ _ (⟨_, .buildSlice 26 4 _, _, _, _, _⟩ :: _) _ _); refine wpList_buildSlice' rfl _ _ _ rfl rfl (ints_built4 _ _ _ _ _) ?_)
      refine (num4_any (fun v => (Lit.int .i64 v).wf = true) r _ _ _ _ _ (by omega) w3 HR3.out (by decide) (by decide) (by decide) (by decide)).mono ?_
      rintro e w6 ⟨hD6, hR6, v, hv, rfl⟩
      go_wp2_with fail
      go_ret3
      exact ⟨HD3.out.trans hD6, hR6.more (by omega), t, i, v, ht, hi, hv, rfl⟩
  · have h0i : ¬ (0 : Int) < (L.length : Int) := by omega
    go_wp2_with ((with_reducible show wpList _ _ _ (⟨_, .buildSlice 26 4 _, _, _, _, _⟩ :: _) _ _); refine wpList_buildSlice' rfl _ _ _ rfl rfl (ints_built4 _ _ _ _ _) ?_)
    refine (num4_any (fun v => (Lit.int .i64 v).wf = true) r _ _ _ _ _ (by omega) w2 HR2.out (by decide) (by decide) (by decide) (by decide)).mono ?_
    rintro e w6 ⟨hD6, hR6, v, hv, rfl⟩
    go_wp2_with fail
    go_ret3
    exact ⟨HD2.out.trans hD6, hR6.more (by omega), t, i, v, ht, hi, hv, rfl⟩
theorem drawRise_any (a : Option Addr) (len cap : Nat) (hc : cap ≤ maxLen) (w : World) (h : CodeAt w a len cap) :
    Calls Tryd.prog 31 #[.slice a len cap] w fun e w' => TopTI w w' e := by
  have c0 := Lib.hid (l14Open_any a len cap hc w h)
  clear h
  go_enter Tryd.func31, Tryd.ntmps31
  go_wp2_with fail
  refine c0.out.mono ?_
  rintro e w1 ⟨hW1, rfl, hR1⟩
  have c1 := Lib.hid (l8With_any _ 0 (by omega) w1 hR1)
  have hw1 := hW1.size
  clear hR1
  go_wp2_with fail
  refine c1.out.mono ?_
  rintro e w2 ⟨hD2, hR2, t, i, ht, hi, rfl⟩
  go_wp2_with fail
  go_ret2
  exact ⟨Below.drw hW1 hD2 (Nat.le_refl _) hw1, t, i, ht, hi, rfl⟩
theorem drawFall_any (a : Option Addr) (len cap : Nat) (hc : cap ≤ maxLen) (w : World) (h : CodeAt w a len cap) :
    Calls Tryd.prog 18 #[.slice a len cap] w fun e w' => TopTI w w' e := by
  have c0 := Lib.hid (l14Open_any a len cap hc w h)
  clear h
  go_enter Tryd.func18, Tryd.ntmps18
  go_wp2_with fail
  refine c0.out.mono ?_
  rintro e w1 ⟨hW1, rfl, hR1⟩
  have c1 := Lib.hid (l8With_any _ 0 (by omega) w1 hR1)
  have hw1 := hW1.size
  clear hR1
  go_wp2_with fail
  refine c1.out.mono ?_
  rintro e w2 ⟨hD2, hR2, t, i, ht, hi, rfl⟩
  go_wp2_with fail
  go_ret2
  exact ⟨Below.drw hW1 hD2 (Nat.le_refl _) hw1, t, i, ht, hi, rfl⟩
theorem drawLeastP_any (a : Option Addr) (len cap : Nat) (hc : cap ≤ maxLen) (w : World) (h : CodeAt w a len cap) :
    Calls Tryd.prog 25 #[.slice a len cap] w fun e w' => TopT w w' e := by
  have c0 := Lib.hid (l14Open_any a len cap hc w h)
  clear h
  go_enter Tryd.func25, Tryd.ntmps25
  go_wp2_with fail
  refine c0.out.mono ?_
  rintro e w1 ⟨hW1, rfl, hR1⟩
  have c1 := Lib.hid (l8Draw_any _ 0 (by omega) w1 hR1)
  have hw1 := hW1.size
  clear hR1
  go_wp2_with fail
  refine c1.out.mono ?_
  rintro e w2 ⟨hD2, hR2, t, ht, rfl⟩
  go_wp2_with fail
  go_ret
  exact ⟨Below.drw hW1 hD2 (Nat.le_refl _) hw1, t, ht, rfl⟩
theorem drawJoin_any (a : Option Addr) (len cap : Nat) (hc : cap ≤ maxLen) (w : World) (h : CodeAt w a len cap) :
    Calls Tryd.prog 11 #[.slice a len cap] w fun e w' => TopTII w w' e := by
  have c0 := Lib.hid (l14Open_any a len cap hc w h)
  clear h
  go_enter Tryd.func11, Tryd.ntmps11
  go_wp2_with fail
  refine c0.out.mono ?_
  rintro e w1 ⟨hW1, rfl, hR1⟩
  have c1 := Lib.hid (l8Two_any _ 0 (by omega) w1 hR1)
  have hw1 := hW1.size
  clear hR1
  go_wp2_with fail
  refine c1.out.mono ?_
  rintro e w2 ⟨hD2, hR2, t, i, j, ht, hi, hj, rfl⟩
  go_wp2_with fail
  go_ret3
  exact ⟨Below.drw hW1 hD2 (Nat.le_refl _) hw1, t, i, j, ht, hi, hj, rfl⟩
end Go.Proofs.YtkfagolmpbbckaaDoor
