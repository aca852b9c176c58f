/- The reference's steady states, attractors, and how many lie in a trap. -/
import Derived.Test.YtcddnacbjdahbaaDoorSpecV
import Derived.Test.YtcddnacbjdahbaaDoorImplY
namespace Go.Proofs.YtcddnacbjdahbaaDoor
open Go Go.RowKit Go.Sw
set_option maxRecDepth 100000
set_option linter.unusedVariables false

set_option maxHeartbeats 1000000 in
theorem l5Steady_any (b cap s : Nat) (N : Net) (hn : N.n ≤ 5) (hs : s < pw N.n) (w : World) (hat : StrsAt w b (netTexts N)) (hb : b < w.heap.size) :
    Calls Tryd.prog 189 #[.slice (some ⟨b, 0, none⟩) N.n cap, .int .i64 s] w fun e w' => Below w.heap.size w w' ∧ e = .returned (.bool (steadyB N s)) := by
  have Hat := Lib.hid hat
  have hpw := pw_le hn
  have cR := Lib.hid (l5Reach_any b cap s N hn hs w hat hb)
  have hno := Lib.hid (fun t (h1 : arB N s t = true) (h2 : arB N t s = false) => show steadyB N s = false from by
    cases e : steadyB N s with
    | false => rfl
    | true =>
      have := arB_iff.2 ((steadyB_iff hs).1 e t (arB_iff.1 h1))
      rw [h2] at this; cases this)
  have hyes := Lib.hid (fun (h : ∀ t, t ∈ stR N s → arB N t s = true) => show steadyB N s = true from (steadyB_iff hs).2 fun t ht => arB_iff.1 (h t (pickL_mem.2 ⟨ht.lt hs, arB_iff.2 ht⟩)))
  have hmem := Lib.hid (fun t (h : t ∈ stR N s) => pickL_mem.1 h)
  have hsl : (stR N s).length ≤ 32 := Nat.le_trans (pickL_length _ _) hpw.2
  have cS := Lib.hid (fun (wx : World) (bb c : Nat) (h : BoolsAt wx bb (pw N.n) (arB N s)) => l5Sorted_any bb c (pw N.n) (arB N s) hpw.2 wx h)
  have hst : pickL (arB N s) (pw N.n) = stR N s := rfl
  rw [hst] at cS
  obtain ⟨xs, hxs⟩ : ∃ xs, stR N s = xs := ⟨_, rfl⟩
  rw [hxs] at cS hyes hmem hsl
  clear hat hst hxs
  go_enter Tryd.func189, Tryd.ntmps189
  go_wp2_with fail
  refine cR.out.mono ?_
  rintro e w1 ⟨hW1, c1, rfl, hM⟩
  have CS := Lib.hid (cS.out w1 w.heap.size c1 hM)
  have hW1s := hW1.size
  clear hM
  go_wp2_with fail
  refine CS.out.mono ?_
  rintro e w2 ⟨hW2, a, c2, rfl, hI⟩
  have hW2s := hW2.size
  have HI := Lib.hid hI
  have hB2 : Below w.heap.size w w2 := hW1.trans (hW2.mono hW1s)
  clear hI
  go_wp2_with fail
  go_loopw [6] (fun i wr => ∃ k : Nat, k ≤ xs.length ∧ i = .int .i64 k ∧ Below w2.heap.size w2 wr ∧ ∀ j (hj : j < xs.length), j < k → arB N xs[j] s = true) (fun i _ => xs.length - (intOf i).toNat)
  case atStart => exact ⟨0, Nat.zero_le _, rfl, Below.refl _ _, fun _ _ h => absurd h (Nat.not_lt_zero _)⟩
  case round =>
    obtain ⟨k, hk, rfl, hW, hall⟩ := hrel
    have Hall := Lib.hid hall
    have hWs := hW.size
    clear hall
    by_cases hlt : k < xs.length
    · obtain ⟨g, cur, tt, rfl, hBg, hcur, hcs, hcells⟩ := (HI.out.below hW).at' (by rw [natL_length]; omega)
      have hcell : wr.cell? ⟨g, k, none⟩ = some (.int .i64 ((xs[k] : Nat) : Int)) := by
        rw [cell_of_row wr _ _ _ _ _ hcur, hcells k (by rw [natL_length]; exact hlt)]
        simp [natL]
      have hm := hmem.out xs[k] (List.getElem_mem hlt)
      have hgw := block_lt hcur
      have hBw : Below w.heap.size w wr := hB2.trans (hW.mono hB2.size)
      have cR2 := Lib.hid (l5Reach_any b cap xs[k] N hn hm.1 wr (Hat.out.below hBw hb) (Nat.lt_of_lt_of_le hb hBw.size))
      have Hno := Lib.hid (fun (h2 : arB N xs[k] s = false) => hno.out xs[k] hm.2 h2)
      have Hx := Lib.hid (rfl : xs[k] = xs[k])
      obtain ⟨u, hu⟩ : ∃ u, xs[k] = u := ⟨_, rfl⟩
      have hnx : arB N u s = true → ∀ j (hj : j < xs.length), j < k + 1 → arB N xs[j] s = true := fun h j hj h2 => by
        by_cases e : j = k
        · subst e; rw [hu]; exact h
        · exact Hall.out j hj (by omega)
      have Hnx := Lib.hid hnx
      rw [hu] at hcell cR2 Hno
      clear hcells hcur hm hu hnx Hx
      go_wp2_with fail
      refine cR2.out.mono ?_
      rintro e w3 ⟨hW3, c3, rfl, hM3⟩
      have hcell3 := hM3.cell hs
      have hW3s := hW3.size
      have hB3 : Below w2.heap.size w2 w3 := hW.trans (hW3.mono hWs)
      clear hM3
      cases hv : arB N u s
      · have Hr := Lib.hid (Hno.out hv)
        rw [hv] at hcell3
        clear hv
        go_wp2_with fail
        go_ret
        exact ⟨hB2.trans (hB3.mono hB2.size), by rw [Hr.out]; rfl⟩
      · have Hr := Lib.hid (Hnx.out hv)
        rw [hv] at hcell3
        clear hv
        go_wp2_with fail
        go_roundw
        case rel => exact ⟨k + 1, by omega, by go_num, hB3, Hr.out⟩
        case measure => simp [intOf] <;> omega
    · have Hr := Lib.hid (hyes.out fun t ht => by
        obtain ⟨j, hj, rfl⟩ := List.getElem_of_mem ht
        exact Hall.out j hj (by omega))
      go_wp2_with fail
      go_ret
      exact ⟨hB2.trans (hW.mono hB2.size), by rw [Hr.out]; rfl⟩
theorem intss_none (w : World) : (Instr.buildSlice 53 0 [].toArray).run Tryd.prog w =
    .ok (.slice (some ⟨w.heap.size, 0, none⟩) 0 0) (w.alloc (.cells #[] 30)) := by kernel_rfl
set_option maxHeartbeats 2000000 in
theorem l5Attractors_any (b cap : Nat) (N : Net) (hn : N.n ≤ 5) (w : World) (hat : StrsAt w b (netTexts N)) (hb : b < w.heap.size) :
    Calls Tryd.prog 144 #[.slice (some ⟨b, 0, none⟩) N.n cap] w fun e w' => Below w.heap.size w w' ∧ ∃ out vs, e = .returned out ∧ RowsAt w' w.heap.size out (attL N) vs := by
  have Hat := Lib.hid hat
  have hpw := pw_le hn
  clear hat
  go_enter Tryd.func144, Tryd.ntmps144
  go_wp2_with ((with_reducible show wpList _ _ _ (⟨_, .buildSlice 53 _ _, _, _, _, _⟩ :: _) _ _); refine wpList_buildSlice' rfl _ _ _ rfl rfl (intss_none _) ?_)
  go_loopw [3, 4, 5] (fun out i _ wr => ∃ (k : Nat) (vs : List Value), k ≤ pw N.n ∧ i = .int .i64 k ∧ RowsAt wr w.heap.size out (attTo N k) vs ∧ Below w.heap.size w wr) (fun _ i _ _ => pw N.n - (intOf i).toNat)
  case atStart => exact ⟨0, [], Nat.zero_le _, rfl, ⟨World.ownsRow_made w #[] 0 (Nat.le_refl _) (by unfold maxLen; omega) rfl, rfl, fun j hj => by cases hj⟩, (Below.refl _ _).alloc (Nat.le_refl _) _⟩
  case round =>
    obtain ⟨k, vs, hk, rfl, hR, hW⟩ := hrel
    have HR := Lib.hid hR
    have hWs := hW.size
    have cA := Lib.hid (fun wx => l3All_any (some ⟨b, 0, none⟩) N.n cap hn wx)
    have hvl : vs.length ≤ 32 := by rw [hR.len]; exact Nat.le_trans (attTo_length N k) (by omega)
    clear hR
    by_cases hlt : k < pw N.n
    · have hle : (k : Int) ≤ ((pw N.n - 1 : Nat) : Int) := by omega
      have cS := l5Steady_any b cap k N hn hlt wr (Hat.out.below hW hb) (Nat.lt_of_lt_of_le hb hWs)
      cases hst : steadyB N k
      · rw [hst] at cS
        have hl : leastB N k = false := by
          cases e : leastB N k with
          | false => rfl
          | true => rw [(leastB_iff.1 e).1] at hst; cases hst
        have Hno := Lib.hid (attTo_no hl)
        have CS := Lib.hid cS
        clear cS hst hl
        go_wp2_with (go_at_call 98; refine (cA.out _).mono ?_; rintro e w' ⟨rfl, rfl⟩)
        refine CS.out.mono ?_
        rintro e w2 ⟨hW2, rfl⟩
        go_wp2_with fail
        go_roundw
        case rel => exact ⟨k + 1, vs, by omega, by go_num, by rw [Hno.out]; exact HR.out.below hW2, hW.trans (hW2.mono hWs)⟩
        case measure => simp [intOf] <;> omega
      · rw [hst] at cS
        have hhead : (leastB N k = true ∧ (stR N k).headD 0 = k) ∨ (leastB N k = false ∧ (stR N k).headD 0 ≠ k) := by
          cases e : leastB N k with
          | true => exact .inl ⟨rfl, (stR_head hlt e).1⟩
          | false => exact .inr ⟨rfl, fun h => by rw [stR_head_of hlt hst h] at e; cases e⟩
        have hne : stR N k ≠ [] := fun e => by
          have : k ∈ stR N k := pickL_mem.2 ⟨hlt, arB_refl N k⟩
          rw [e] at this; cases this
        have CS := Lib.hid cS
        have hyes := Lib.hid (fun (h : leastB N k = true) => attTo_yes h)
        have hno := Lib.hid (fun (h : leastB N k = false) => attTo_no h)
        have cP := Lib.hid (fun (wx : World) (bb c : Nat) (h : BoolsAt wx bb (pw N.n) (arB N k)) => l5Sorted_any bb c (pw N.n) (arB N k) hpw.2 wx h)
        have hsk : pickL (arB N k) (pw N.n) = stR N k := rfl
        rw [hsk] at cP
        have hsl : (stR N k).length ≤ 32 := Nat.le_trans (pickL_length _ _) hpw.2
        obtain ⟨xs, hxs⟩ : ∃ xs, stR N k = xs := ⟨_, rfl⟩
        rw [hxs] at cP hhead hne hyes hsl
        have h0x : 0 < xs.length := List.length_pos_iff.2 hne
        have Hhead := Lib.hid hhead
        clear cS hst hsk hxs hhead hne
        go_wp2_with (go_at_call 98; refine (cA.out _).mono ?_; rintro e w' ⟨rfl, rfl⟩)
        refine CS.out.mono ?_
        rintro e w2 ⟨hW2, rfl⟩
        have hW2s := hW2.size
        have hB2 := hW.trans (hW2.mono hWs)
        have cR := Lib.hid (l5Reach_any b cap k N hn hlt w2 (Hat.out.below hB2 hb) (Nat.lt_of_lt_of_le hb hB2.size))
        go_wp2_with fail
        refine cR.out.mono ?_
        rintro e w3 ⟨hW3, c3, rfl, hM⟩
        have CP := Lib.hid (cP.out w3 w2.heap.size c3 hM)
        have hW3s := hW3.size
        clear hM
        go_wp2_with fail
        refine CP.out.mono ?_
        rintro e w4 ⟨hW4, a, c4, rfl, hI⟩
        have hW4s := hW4.size
        have HR4 := Lib.hid (((HR.out.below hW2).below hW3).below hW4)
        have hB4 : Below w.heap.size w w4 := (hB2.trans (hW3.mono hB2.size)).trans (hW4.mono (by omega))
        obtain ⟨g, cur, tt, rfl, hBg, hcur, hcs, hcells⟩ := hI.at' (by rw [natL_length]; omega)
        have hcell : w4.cell? ⟨g, 0, none⟩ = some (.int .i64 ((xs.headD 0 : Nat) : Int)) := by
          rw [cell_of_row w4 _ _ _ _ _ hcur, hcells 0 (by rw [natL_length]; exact h0x)]
          cases xs with
          | nil => simp at h0x
          | cons x r => simp [natL]
        have HI := Lib.hid hI
        have hgw := block_lt hcur
        obtain ⟨x0, hx0⟩ : ∃ x, xs.headD 0 = x := ⟨_, rfl⟩
        rw [hx0] at hcell Hhead
        clear hI hcells hcur hx0
        by_cases hxk : x0 = k
        · have Hyes := Lib.hid (hyes.out (by rcases Hhead.out with h | h; exact h.1; exact absurd hxk h.2))
          have he : ((x0 : Int) == (k : Int)) = true := by rw [hxk]; simp
          have Hne := Lib.hid (fun q (hq : u3.ownBlock = some q) => own_blt HR.out.own hq)
          clear hxk
          go_wp2_with (first | ((with_reducible show wpList _ _ _ (⟨_, .buildSlice 53 _ _, _, _, _, _⟩ :: _) _ _); refine wpList_buildSlice' rfl _ _ _ rfl rfl (intss_one _ _ _ _) ?_) | (at_builtin; refine wpList_elem_append rfl _ _ 53 30 (.slice none 0 0) 1 24 intss_row rfl (by omega) (by omega) Tryd.underlying53 rfl w.heap.size _ vs.length vs rfl (HR4.out.own.alloc _) _ [.slice (some ⟨g, 0, none⟩) xs.length c4] rfl rfl (range_one rfl) (by simp [Value.oneCell']) (by omega) (by simp; omega) ?_; intro ov w8 hown8 hg8 hat8))
          have hsz4 : (w4.alloc (.cells #[.slice (some ⟨g, 0, none⟩) xs.length c4] 30)).heap.size = w4.heap.size + 1 := by simp
          have hal : Below w4.heap.size w4 (w4.alloc (.cells #[.slice (some ⟨g, 0, none⟩) xs.length c4] 30)) := (Below.refl _ _).alloc (Nat.le_refl _) _
          have hMore := (HR4.out.below hal).more (L := xs) (a := some ⟨g, 0, none⟩) (c := c4) ((HI.out.mono (B' := w.heap.size) (by omega)).below hal) (fun h0 q e e2 => by
            cases e
            have := Hne.out g e2
            omega) hg8 hown8 (hat8.imp id fun h => h.trans (by rw [hsz4]))
          have Hfin := Lib.hid (show RowsAt w8 w.heap.size ov (attTo N (k + 1)) (vs ++ [.slice (some ⟨g, 0, none⟩) xs.length c4]) by rw [Hyes.out]; exact hMore)
          have HB8 := Lib.hid (show Below w.heap.size w w8 from (hB4.alloc (by omega) _).grown hg8 (by omega) (fun z hz => own_ge HR.out.own hz))
          clear hown8 hg8 hat8 hMore hal
          go_wp2_with fail
          go_roundw
          case rel => exact ⟨k + 1, _, by omega, by go_num, Hfin.out, HB8.out⟩
          case measure => simp [intOf] <;> omega
        · have Hno := Lib.hid (hno.out (by rcases Hhead.out with h | h; exact absurd h.2 hxk; exact h.1))
          have he : ((x0 : Int) == (k : Int)) = false := by rw [beq_eq_false_iff_ne]; omega
          clear hxk
          go_wp2_with fail
          go_roundw
          case rel => exact ⟨k + 1, vs, by omega, by go_num, by rw [Hno.out]; exact HR4.out, hB4⟩
          case measure => simp [intOf] <;> omega
    · obtain rfl : k = pw N.n := by omega
      have hle : ¬ ((pw N.n : Nat) : Int) ≤ ((pw N.n - 1 : Nat) : Int) := by omega
      go_wp2_with (go_at_call 98; refine (cA.out _).mono ?_; rintro e w' ⟨rfl, rfl⟩)
      go_ret
      exact ⟨hW, _, vs, rfl, by rw [← attTo_all]; exact HR.out⟩
end Go.Proofs.YtcddnacbjdahbaaDoor
