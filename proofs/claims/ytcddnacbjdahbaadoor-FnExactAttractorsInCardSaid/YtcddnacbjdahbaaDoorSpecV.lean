/- The reference's search through what single steps lead to. -/
import Derived.Test.YtcddnacbjdahbaaDoorSpecP
import Derived.Test.YtcddnacbjdahbaaDoorQu
import Derived.Deep.LoopGhost
namespace Go.Proofs.YtcddnacbjdahbaaDoor
open Go Go.RowKit Go.Sw
set_option maxRecDepth 100000
set_option linter.unusedVariables false

theorem bool_row : (Tryd.prog.info? 4).map (fun i => (i.zero, i.size, i.bytes)) = some (some (.bool false), 1, 1) := by kernel_rfl
theorem BoolsAt.made {w : World} {base b n : Nat} {e : TypeId} (h : w.ownsRow base e 1 (.slice (some ⟨b, 0, none⟩) n n) n (madeCells #[.bool false] n).toList) (hn : 0 < n) : BoolsAt w b n fun _ => false := by
  rcases h.2 with ⟨h0, hz⟩ | ⟨g, cap, cur, h0, hb, hg, h1, h2, h3, h4⟩
  · omega
  · injection h0 with e1 e2 e3
    injection e1 with e1
    injection e1 with e1 _ _
    subst e1 e3
    refine ⟨cur, _, hg, by rw [h3, Nat.mul_one], fun j hj => ?_⟩
    have e4 : cur.toList[j]? = ((madeCells #[.bool false] n).toList)[j]? := by
      rw [← h4, List.getElem?_take, if_pos (by omega)]
    rw [← Array.getElem?_toList, e4]
    rw [Array.getElem?_toList]
    simp [madeCells, hj, Nat.mod_one]
theorem BoolsAt.frozen {w : World} {b n j : Nat} {S : Nat → Bool} (h : BoolsAt w b n S) : w.frozen? ⟨b, j, none⟩ = false := by
  obtain ⟨cur, t, h1, _⟩ := h.at'
  exact frozen_of_row w _ _ _ _ h1
theorem BoolsAt.put {w : World} {b n j : Nat} {S : Nat → Bool} (h : BoolsAt w b n S) (hj : j < n) : BoolsAt (w.setCell ⟨b, j, none⟩ (.bool true)) b n (fun i => i == j || S i) := by
  obtain ⟨cur, t, h1, h2, h3⟩ := h.at'
  refine ⟨cur.setIfInBounds j (.bool true), t, heap_setCell_same _ _ _ _ _ _ h1, by simpa using h2, fun i hi => ?_⟩
  by_cases e : i = j
  · subst e; rw [Array.getElem?_setIfInBounds_self_of_lt (by omega)]; simp
  · rw [Array.getElem?_setIfInBounds_ne (fun h => e h.symm), h3 i hi]
    have : (i == j) = false := by simp [e]
    rw [this, Bool.false_or]
theorem IntsAt.sameS {w w' : World} {B : Nat} {a : Option Addr} {xs : List Int} (h : IntsAt w B a xs) (hb : 0 < xs.length → ∀ g, a = some ⟨g, 0, none⟩ → w'.heap[g]? = w.heap[g]?) : IntsAt w' B a xs :=
  ⟨fun h0 => by
    obtain ⟨g, cur, t, h1, h2, h3, h4⟩ := h.at' h0
    exact ⟨g, cur, t, h1, h2, (hb h0 g h1).trans h3, h4⟩⟩
/-- the queue and the set of the search -/
structure RchS (w wr : World) (N : Net) (s : Nat) (todo : Value) (S : Nat → Bool) (L : List Nat) (g : Nat) (x : Option (Nat × Nat)) : Prop where
  q : QAt wr (w.heap.size + 1) g 3 todo (natL L)
  set : BoolsAt wr w.heap.size (pw N.n) S
  inv : RInv N s S L x
  below : Below w.heap.size w wr
theorem RchS.step {w wr w' : World} {N : Net} {s g : Nat} {todo : Value} {S : Nat → Bool} {L : List Nat} {x : Option (Nat × Nat)} (h : RchS w wr N s todo S L g x) (hb : Below wr.heap.size wr w') : RchS w w' N s todo S L g x :=
  ⟨h.q.below hb, h.set.below hb, h.inv, h.below.trans (hb.mono h.below.size)⟩
theorem QAt.ge {w : World} {base g : Nat} {e : TypeId} {v : Value} {L : List Int} (h : QAt w base g e v L) : base ≤ g := by
  obtain ⟨o, cap, cur, h1, h2, _⟩ := h.at'
  exact h2
set_option maxHeartbeats 2000000 in
theorem l5Reach_any (b cap s : Nat) (N : Net) (hn : N.n ≤ 5) (hs : s < pw N.n) (w : World) (hat : StrsAt w b (netTexts N)) (hb : b < w.heap.size) :
    Calls Tryd.prog 191 #[.slice (some ⟨b, 0, none⟩) N.n cap, .int .i64 s] w fun e w' => Below w.heap.size w w' ∧ ∃ c, e = .returned (.slice (some ⟨w.heap.size, 0, none⟩) (pw N.n) c) ∧ BoolsAt w' w.heap.size (pw N.n) (arB N s) := by
  have Hat := Lib.hid hat
  have hpw := pw_le hn
  have hp1 : ((pw N.n - 1 : Nat) : Int) + 1 = ((pw N.n : Nat) : Int) := by omega
  obtain ⟨i0, hi, hz0, hz1, hz2⟩ := info_parts bool_row
  have Hi := Lib.hid hi
  have Hz0 := Lib.hid hz0
  have Hz1 := Lib.hid hz1
  have hzb : i0.bytes ≤ 1 := by omega
  clear hat hi hz0 hz1 hz2
  go_enter Tryd.func191, Tryd.ntmps191
  go_wp2_with (first | (go_at_call 98; refine (l3All_any _ _ _ hn _).mono ?_; rintro e w' ⟨rfl, rfl⟩) | ((with_reducible show wpList _ _ _ (⟨_, .makeSlice 139 _ _, _, _, _, _⟩ :: _) _ _); refine wpList_make_full _ rfl _ _ _ rfl w.heap.size 4 i0 (.bool false) 1 Tryd.underlying139 Hi.out Hz0.out Hz1.out .i64 .i64 (pw N.n) (pw N.n) (pw N.n) rfl rfl rfl rfl (by have : i0.bytes * pw N.n ≤ 1 * 32 := Nat.mul_le_mul hzb hpw.2; omega) (by unfold maxLen; omega) (Nat.le_refl _) ?_))
  intro w1 hown hgrow
  have hW1 : Below w.heap.size w w1 := (Below.refl _ _).grown hgrow (Nat.le_refl _) (fun q hq => by cases hq)
  have hB := BoolsAt.made (n := pw N.n) hown (by omega)
  have hcell := hB.cell hs
  have hfr := hB.frozen (j := s)
  have hlt1 := hB.lt
  have HB := Lib.hid (hB.put hs)
  clear hown hgrow hB
  go_wp2_with ((with_reducible show wpList _ _ _ (⟨_, .buildSlice 30 1 _, _, _, _, _⟩ :: _) _ _); refine wpList_buildSlice' rfl _ _ _ rfl rfl (int_one (s : Int) _) ?_)
  have hgs := hW1.size
  have hown0 := own_made1 (w1.setCell ⟨w.heap.size, s, none⟩ (.bool true)) (.int .i64 (s : Int)) 3 (w.heap.size + 1) (by simp only [World.setCell, Array.size_modify]; omega)
  obtain ⟨g0, hg0, hq0⟩ := qAt_of_own (L := natL [s]) hown0 (by simp [natL])
  have hB2 : Below w.heap.size w (w1.setCell ⟨w.heap.size, s, none⟩ (.bool true)) := hW1.setCell (Nat.le_refl _) _
  have HR0 := Lib.hid (show RchS w ((w1.setCell ⟨w.heap.size, s, none⟩ (.bool true)).alloc (.cells #[.int .i64 (s : Int)] 3)) N s (.slice (some ⟨(w1.setCell ⟨w.heap.size, s, none⟩ (.bool true)).heap.size, 0, none⟩) 1 1) (fun j => j == s || false) [s] g0 none from
    ⟨hq0, HB.out.below ((Below.refl _ _).alloc (Nat.le_refl _) _), RInv.init hs, hB2.alloc hB2.size _⟩)
  rw [show (w1.setCell ⟨w.heap.size, s, none⟩ (.bool true)).heap.size = w1.heap.size by simp only [World.setCell, Array.size_modify]] at HR0
  clear hown0 hq0 hg0 hB2
  go_wp2_with fail
  go_loopg [6, 7, 8] 100 (fun gg todo _ _ wr => ∃ S L g, RchS w wr N s todo S L g none ∧ 2 * unmN (pw N.n) S + L.length ≤ gg ∧ 2 * unmN (pw N.n) S + L.length ≤ 100)
  case atStart =>
    have hu := unm_le (pw N.n) (fun j => j == s || false)
    have hfin : 2 * unmN (pw N.n) (fun j => j == s || false) + [s].length ≤ 100 := by rw [List.length_singleton]; omega
    exact ⟨_, _, g0, HR0.out, hfin, hfin⟩
  case round =>
    obtain ⟨S, L, g, hR, hg, hg100⟩ := hrel
    have HR := Lib.hid hR
    obtain ⟨o, cp, cur, rfl, hbg, hcur, hlc, hcm, hoc, hcells⟩ := hR.q.at'
    have hWs := hR.below.size
    have hbm := hR.set.lt
    rcases L with _ | ⟨t, L'⟩
    · have Hend := Lib.hid (hR.inv.end')
      clear hR hcells hcur
      go_wp2_with fail
      go_ret
      exact ⟨HR.out.below, _, rfl, by
        have e : S = arB N s := funext Hend.out
        rw [← e]; exact HR.out.set⟩
    · obtain ⟨wo, rfl⟩ : ∃ wo : World, wo = wr := ⟨_, rfl⟩
      have hpop := Lib.hid (rinv_front hR.inv)
      have htS := hR.inv.stack t (by simp)
      have htp := (hR.inv.only t htS).1
      have hll : (natL (t :: L')).length = L'.length + 1 := by simp [natL]
      have hcell : wo.cell? ⟨g, o, none⟩ = some (.int .i64 (t : Int)) := by
        have := hcells 0 (by simp [natL])
        rw [Nat.add_zero] at this
        rw [cell_of_row wo _ _ _ _ _ hcur, this]; simp [natL]
      have hgw := block_lt hcur
      have Hq := Lib.hid (hR.q)
      rw [hll] at Hq hlc ⊢
      rw [List.length_cons] at hg hg100
      have cN := Lib.hid (l5Next_any b cap t N hn htp wo (Hat.out.below hR.below hb) (Nat.lt_of_lt_of_le hb hWs))
      have hlen0 : L'.length ≤ 100 := by omega
      have hnl := nextTo_length N t N.n
      have hcm2 : cp ≤ 9223372036854775807 := by unfold maxLen at hcm; omega
      have hset := Lib.hid hR.set
      have hbel := Lib.hid hR.below
      have hnat : natL (t :: L') = (t : Int) :: natL L' := by simp [natL]
      have Hnat := Lib.hid hnat
      clear hR hcells hcur htS hll hcm hnat
      go_wp2_with fail
      refine cN.out.mono ?_
      rintro e w3 ⟨hW3, a2, c2, rfl, hI2⟩
      have hws3 := hW3.size
      have hgne : 0 < (nextL N t).length → ∀ q, a2 = some ⟨q, 0, none⟩ → wo.heap.size ≤ q ∧ q < w3.heap.size := fun h0 q e => by
        obtain ⟨q', _, _, e1, h1, _⟩ := hI2.at' (by rw [natL_length]; exact h0)
        have h2 := hI2.lt (by rw [natL_length]; exact h0) q e
        rw [e] at e1; cases e1
        exact ⟨h1, h2⟩
      have HI2 := Lib.hid hI2
      have Hgne := Lib.hid hgne
      have hnl5 : (nextL N t).length ≤ 5 := Nat.le_trans hnl hn
      have hntp := Lib.hid (fun u (hu : u ∈ nextL N t) => nextL_lt htp hu)
      have HW3 := Lib.hid hW3
      clear hI2 hgne hnl hW3
      have key : ∀ v3 : Value, QAt w3 (w.heap.size + 1) g 3 v3 (natL L') → RchS w w3 N s v3 S L' g (some (t, 0)) := fun v3 hq3 =>
        ⟨hq3, hset.out.below HW3.out, hpop.out, hbel.out.trans (HW3.out.mono hWs)⟩
      have Key := Lib.hid key
      clear key
      by_cases hc1 : cp = 1
      · subst hc1
        have hL0 : L' = [] := by
          have : L'.length = 0 := by omega
          exact List.eq_nil_of_length_eq_zero this
        subst hL0
        have HR3 := Lib.hid (Key.out _ ((QAt.none (L := natL [t]) (by simpa [natL] using Hq.out)).below HW3.out))
        clear Hq
        go_wp2_with fail
        go_loopw [6, 8] (fun todo i wr => ∃ (m : Nat) (S' : Nat → Bool) (M : List Nat) (g' : Nat), m ≤ (nextL N t).length ∧ i = .int .i64 m ∧ RchS w wr N s todo S' M g' (some (t, m)) ∧ 2 * unmN (pw N.n) S' + M.length ≤ 2 * unmN (pw N.n) S + ([] : List Nat).length ∧ IntsAt wr wo.heap.size a2 (natL (nextL N t)) ∧ (0 < (nextL N t).length → ∀ q, a2 = some ⟨q, 0, none⟩ → g' ≠ q)) (fun _ i _ => (nextL N t).length - (intOf i).toNat)
        case atStart => exact ⟨0, S, _, g, Nat.zero_le _, rfl, HR3.out, Nat.le_refl _, HI2.out, fun h0 q e => by
          have := Hgne.out h0 q e
          omega⟩
        case round =>
          obtain ⟨m, S', M, g', hm, rfl, hR4, hle, hI4, hne⟩ := hrel
          have HR4 := Lib.hid hR4
          have HI4 := Lib.hid hI4
          have Hne := Lib.hid hne
          have hWs4 := hR4.below.size
          have hbm4 := hR4.set.lt
          by_cases hlt : m < (nextL N t).length
          · obtain ⟨q, cur4, t4, rfl, hq, hcur4, hcs4, hcells4⟩ := hI4.at' (by rw [natL_length]; omega)
            have hcell4 : wr.cell? ⟨q, m, none⟩ = some (.int .i64 (((nextL N t)[m] : Nat) : Int)) := by
              rw [cell_of_row wr _ _ _ _ _ hcur4, hcells4 m (by rw [natL_length]; exact hlt)]
              simp [natL]
            have hup := hntp.out _ (List.getElem_mem hlt)
            have hskip := Lib.hid (fun h : S' (nextL N t)[m] = true => hR4.inv.skip hlt h)
            have hpush := Lib.hid (hR4.inv.push hlt)
            have hunm := Lib.hid (fun h : S' (nextL N t)[m] = false => unm_put hup h)
            have hqw := block_lt hcur4
            have hne4 := hne (by omega) q rfl
            have hqm : w.heap.size ≠ q := by omega
            have hbc := hR4.set.cell hup
            have hfr4 := hR4.set.frozen (j := (nextL N t)[m])
            have hput := Lib.hid (hR4.set.put hup)
            obtain ⟨u, hu⟩ : ∃ u, (nextL N t)[m] = u := ⟨_, rfl⟩
            rw [hu] at hcell4 hup hskip hpush hunm hbc hfr4 hput
            have Hcur4 := Lib.hid hcur4
            have hML : M.length ≤ 100 := by omega
            clear hR4 hI4 hne hcells4 hcur4 hu
            cases hSu : S' u
            · have hun := hunm.out hSu
              rw [hSu] at hbc
              have hcell5 : (wr.setCell ⟨w.heap.size, u, none⟩ (.bool true)).cell? ⟨q, m, none⟩ = some (.int .i64 (u : Int)) :=
                (World.cell?_of_block (Below.heap_setCell _ _ _ _ (by show q ≠ w.heap.size; omega))).trans hcell4
              have hs5 : (wr.setCell ⟨w.heap.size, u, none⟩ (.bool true)).heap.size = wr.heap.size := by simp [World.setCell]
              have hge := HR4.out.q.ge
              have hgl := HR4.out.q.lt
              have hq6 : QAt ((wr.setCell ⟨w.heap.size, u, none⟩ (.bool true)).alloc (.cells #[.int .i64 (u : Int)] 3)) (w.heap.size + 1) g' 3 _ (natL M) :=
                HR4.out.q.same ((Below.heap_alloc _ _ _ (by omega)).trans (Below.heap_setCell _ _ _ _ (by show g' ≠ w.heap.size; omega)))
              have HQ6 := Lib.hid hq6
              have hlM : (natL M).length ≤ 1000000 := by rw [natL_length]; omega
              clear hSu hunm hskip hq6
              go_wp2_with (first | ((with_reducible show wpList _ _ _ (⟨_, .buildSlice 30 1 _, _, _, _, _⟩ :: _) _ _); refine wpList_buildSlice' rfl _ _ _ rfl rfl (int_one (u : Int) _) ?_) | (at_builtin; refine wpList_q_append rfl _ _ rfl (w.heap.size + 1) g' _ (natL M) rfl HQ6.out (u : Int) _ rfl (range_one rfl) hlM (by rw [World.size_alloc]; omega) ?_; intro v7 w7 g7 hq7 hgr7 hat7))
              have hs6 : ((wr.setCell ⟨w.heap.size, u, none⟩ (.bool true)).alloc (.cells #[.int .i64 (u : Int)] 3)).heap.size = wr.heap.size + 1 := by rw [World.size_alloc, hs5]
              have hblk : ∀ k, k < wr.heap.size → k ≠ w.heap.size → k ≠ g' → w7.heap[k]? = wr.heap[k]? := fun k h1 h2 h3 =>
                ((hgr7.block k (by omega) (fun e => h3 (Option.some.inj e))).trans (Below.heap_alloc _ _ _ (by omega))).trans (Below.heap_setCell _ _ _ _ (by show k ≠ w.heap.size; exact h2))
              have hset7 : BoolsAt w7 w.heap.size (pw N.n) (fun i => i == u || S' i) :=
                hput.out.same ((hgr7.block w.heap.size (by omega) (fun e => by have := Option.some.inj e; omega)).trans (Below.heap_alloc _ _ _ (by omega)))
              have hB7 : Below w.heap.size w w7 := ((HR4.out.below.setCell (p := ⟨w.heap.size, u, none⟩) (Nat.le_refl _) _).alloc (by omega) _).grown hgr7 (by omega) (fun k hk => by cases hk; omega)
              have Hfin := Lib.hid (show RchS w w7 N s v7 (fun i => i == u || S' i) (M ++ [u]) g7 (some (t, m + 1)) from
                ⟨by rw [natL_snoc]; exact hq7, hset7, hpush.out, hB7⟩)
              have HI7 := Lib.hid (HI4.out.sameS (w' := w7) fun _ q' e => by cases e; exact hblk q hqw (by omega) (by omega))
              have Hne7 := Lib.hid (show 0 < (nextL N t).length → ∀ q', some (⟨q, 0, none⟩ : Addr) = some ⟨q', 0, none⟩ → g7 ≠ q' from fun _ q' e => by
                cases e
                rcases hat7 with h | h <;> omega)
              clear hq7 hgr7 hat7 hblk hset7 hB7
              go_roundw
              case rel => exact ⟨m + 1, _, _, g7, by omega, by go_num, Hfin.out, by rw [List.length_append, List.length_singleton]; omega, HI7.out, Hne7.out⟩
              case measure => simp [intOf] <;> omega
            · rw [hSu] at hbc
              have Hsk := Lib.hid (hskip.out hSu)
              clear hSu hskip hpush hunm hput
              go_wp2_with fail
              go_roundw
              case rel => exact ⟨m + 1, S', M, g', by omega, by go_num, ⟨HR4.out.q, HR4.out.set, Hsk.out, HR4.out.below⟩, hle, HI4.out, Hne.out⟩
              case measure => simp [intOf] <;> omega
          · obtain rfl : m = (nextL N t).length := by omega
            have Hcl := Lib.hid (hR4.inv.close (Nat.le_refl _))
            clear hR4 hI4 hne
            go_wp2_with fail
            go_roundg (2 * unmN (pw N.n) S' + M.length)
            case measure => omega
            case rel => exact ⟨S', M, g', ⟨HR4.out.q, HR4.out.set, Hcl.out, HR4.out.below⟩, Nat.le_refl _, by omega⟩
      · have hc2 : 1 < cp := by omega
        have HR3 := Lib.hid (Key.out _ ((QAt.tail (t := (t : Int)) (L := natL L') (by rw [← Hnat.out, natL_length]; exact Hq.out)).below HW3.out))
        rw [natL_length] at HR3
        clear Hq
        go_wp2_with fail
        go_loopw [6, 8] (fun todo i wr => ∃ (m : Nat) (S' : Nat → Bool) (M : List Nat) (g' : Nat), m ≤ (nextL N t).length ∧ i = .int .i64 m ∧ RchS w wr N s todo S' M g' (some (t, m)) ∧ 2 * unmN (pw N.n) S' + M.length ≤ 2 * unmN (pw N.n) S + L'.length ∧ IntsAt wr wo.heap.size a2 (natL (nextL N t)) ∧ (0 < (nextL N t).length → ∀ q, a2 = some ⟨q, 0, none⟩ → g' ≠ q)) (fun _ i _ => (nextL N t).length - (intOf i).toNat)
        case atStart => exact ⟨0, S, _, g, Nat.zero_le _, rfl, HR3.out, Nat.le_refl _, HI2.out, fun h0 q e => by
          have := Hgne.out h0 q e
          omega⟩
        case round =>
          obtain ⟨m, S', M, g', hm, rfl, hR4, hle, hI4, hne⟩ := hrel
          have HR4 := Lib.hid hR4
          have HI4 := Lib.hid hI4
          have Hne := Lib.hid hne
          have hWs4 := hR4.below.size
          have hbm4 := hR4.set.lt
          by_cases hlt : m < (nextL N t).length
          · obtain ⟨q, cur4, t4, rfl, hq, hcur4, hcs4, hcells4⟩ := hI4.at' (by rw [natL_length]; omega)
            have hcell4 : wr.cell? ⟨q, m, none⟩ = some (.int .i64 (((nextL N t)[m] : Nat) : Int)) := by
              rw [cell_of_row wr _ _ _ _ _ hcur4, hcells4 m (by rw [natL_length]; exact hlt)]
              simp [natL]
            have hup := hntp.out _ (List.getElem_mem hlt)
            have hskip := Lib.hid (fun h : S' (nextL N t)[m] = true => hR4.inv.skip hlt h)
            have hpush := Lib.hid (hR4.inv.push hlt)
            have hunm := Lib.hid (fun h : S' (nextL N t)[m] = false => unm_put hup h)
            have hqw := block_lt hcur4
            have hne4 := hne (by omega) q rfl
            have hqm : w.heap.size ≠ q := by omega
            have hbc := hR4.set.cell hup
            have hfr4 := hR4.set.frozen (j := (nextL N t)[m])
            have hput := Lib.hid (hR4.set.put hup)
            obtain ⟨u, hu⟩ : ∃ u, (nextL N t)[m] = u := ⟨_, rfl⟩
            rw [hu] at hcell4 hup hskip hpush hunm hbc hfr4 hput
            have Hcur4 := Lib.hid hcur4
            have hML : M.length ≤ 100 := by omega
            clear hR4 hI4 hne hcells4 hcur4 hu
            cases hSu : S' u
            · have hun := hunm.out hSu
              rw [hSu] at hbc
              have hcell5 : (wr.setCell ⟨w.heap.size, u, none⟩ (.bool true)).cell? ⟨q, m, none⟩ = some (.int .i64 (u : Int)) :=
                (World.cell?_of_block (Below.heap_setCell _ _ _ _ (by show q ≠ w.heap.size; omega))).trans hcell4
              have hs5 : (wr.setCell ⟨w.heap.size, u, none⟩ (.bool true)).heap.size = wr.heap.size := by simp [World.setCell]
              have hge := HR4.out.q.ge
              have hgl := HR4.out.q.lt
              have hq6 : QAt ((wr.setCell ⟨w.heap.size, u, none⟩ (.bool true)).alloc (.cells #[.int .i64 (u : Int)] 3)) (w.heap.size + 1) g' 3 _ (natL M) :=
                HR4.out.q.same ((Below.heap_alloc _ _ _ (by omega)).trans (Below.heap_setCell _ _ _ _ (by show g' ≠ w.heap.size; omega)))
              have HQ6 := Lib.hid hq6
              have hlM : (natL M).length ≤ 1000000 := by rw [natL_length]; omega
              clear hSu hunm hskip hq6
              go_wp2_with (first | ((with_reducible show wpList _ _ _ (⟨_, .buildSlice 30 1 _, _, _, _, _⟩ :: _) _ _); refine wpList_buildSlice' rfl _ _ _ rfl rfl (int_one (u : Int) _) ?_) | (at_builtin; refine wpList_q_append rfl _ _ rfl (w.heap.size + 1) g' _ (natL M) rfl HQ6.out (u : Int) _ rfl (range_one rfl) hlM (by rw [World.size_alloc]; omega) ?_; intro v7 w7 g7 hq7 hgr7 hat7))
              have hs6 : ((wr.setCell ⟨w.heap.size, u, none⟩ (.bool true)).alloc (.cells #[.int .i64 (u : Int)] 3)).heap.size = wr.heap.size + 1 := by rw [World.size_alloc, hs5]
              have hblk : ∀ k, k < wr.heap.size → k ≠ w.heap.size → k ≠ g' → w7.heap[k]? = wr.heap[k]? := fun k h1 h2 h3 =>
                ((hgr7.block k (by omega) (fun e => h3 (Option.some.inj e))).trans (Below.heap_alloc _ _ _ (by omega))).trans (Below.heap_setCell _ _ _ _ (by show k ≠ w.heap.size; exact h2))
              have hset7 : BoolsAt w7 w.heap.size (pw N.n) (fun i => i == u || S' i) :=
                hput.out.same ((hgr7.block w.heap.size (by omega) (fun e => by have := Option.some.inj e; omega)).trans (Below.heap_alloc _ _ _ (by omega)))
              have hB7 : Below w.heap.size w w7 := ((HR4.out.below.setCell (p := ⟨w.heap.size, u, none⟩) (Nat.le_refl _) _).alloc (by omega) _).grown hgr7 (by omega) (fun k hk => by cases hk; omega)
              have Hfin := Lib.hid (show RchS w w7 N s v7 (fun i => i == u || S' i) (M ++ [u]) g7 (some (t, m + 1)) from
                ⟨by rw [natL_snoc]; exact hq7, hset7, hpush.out, hB7⟩)
              have HI7 := Lib.hid (HI4.out.sameS (w' := w7) fun _ q' e => by cases e; exact hblk q hqw (by omega) (by omega))
              have Hne7 := Lib.hid (show 0 < (nextL N t).length → ∀ q', some (⟨q, 0, none⟩ : Addr) = some ⟨q', 0, none⟩ → g7 ≠ q' from fun _ q' e => by
                cases e
                rcases hat7 with h | h <;> omega)
              clear hq7 hgr7 hat7 hblk hset7 hB7
              go_roundw
              case rel => exact ⟨m + 1, _, _, g7, by omega, by go_num, Hfin.out, by rw [List.length_append, List.length_singleton]; omega, HI7.out, Hne7.out⟩
              case measure => simp [intOf] <;> omega
            · rw [hSu] at hbc
              have Hsk := Lib.hid (hskip.out hSu)
              clear hSu hskip hpush hunm hput
              go_wp2_with fail
              go_roundw
              case rel => exact ⟨m + 1, S', M, g', by omega, by go_num, ⟨HR4.out.q, HR4.out.set, Hsk.out, HR4.out.below⟩, hle, HI4.out, Hne.out⟩
              case measure => simp [intOf] <;> omega
          · obtain rfl : m = (nextL N t).length := by omega
            have Hcl := Lib.hid (hR4.inv.close (Nat.le_refl _))
            clear hR4 hI4 hne
            go_wp2_with fail
            go_roundg (2 * unmN (pw N.n) S' + M.length)
            case measure => omega
            case rel => exact ⟨S', M, g', ⟨HR4.out.q, HR4.out.set, Hcl.out, HR4.out.below⟩, Nat.le_refl _, by omega⟩
end Go.Proofs.YtcddnacbjdahbaaDoor
