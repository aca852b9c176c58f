/- The program's networks: a text read as a network; a step of all switches. -/
import Derived.Test.YtkfagolmpbbckaaGreatDoorTab
import Derived.Test.YtkfagolmpbbckaaGreatDoorP1
import Derived.Test.YtkfagolmpbbckaaGreatDoorShelf
namespace Go.Proofs.YtkfagolmpbbckaaGreatDoor
open Go Go.RowKit Go.Sw
set_option maxRecDepth 100000
set_option linter.unusedVariables false

/-- strings.Split at a comma -/
theorem split_any (s : ByteArray) (w : World) (hs : s.size ≤ 1048576) :
    Calls Tryz.prog 78 #[.string s, .string ⟨#[44]⟩] w fun e w' =>
      e = .returned (.slice (some ⟨w.heap.size, 0, none⟩) (partsOf s).length (partsOf s).length) ∧ w' = w.alloc (.cells ((partsOf s).map Value.string).toArray 9) := by
  have c := Any.strings_genSplit_core Tryz.lays221 (by kernel_rfl) s ⟨#[44]⟩ 0 (-1) (Lib.countB s ⟨#[44]⟩ + 1) w (by omega) (by decide) (Nat.zero_le _)
    (fun x c _ => by
      refine (Tryz.strings_Index_one x 44 _).mono fun e w' ⟨h1, h2⟩ => ⟨?_, h2⟩
      rw [h1]; exact ret_int (Lib.index_one _ _).symm)
    (by
      refine (Tryz.strings_Count_one s 44 w).mono fun e w' ⟨h1, h2⟩ => ⟨?_, h2⟩
      rw [h1]; exact ret_int (congrArg Nat.cast (Lib.count_one 44 _).symm)) (by decide) (by decide)
    (by rw [if_pos (by decide)]
        have := Lib.countB_le ⟨#[44]⟩ (by decide) s.size s (Nat.le_refl _)
        omega)
  rw [Nat.add_sub_cancel, partsOf_split] at c
  have hp := count_parts s
  rw [hp] at c
  rw [Lib.cellsOf_full] at c
  go_enter Tryz.func78, Tryz.ntmps78
  go_wp2_with (go_at_call 121; refine c.mono ?_; rintro e w' ⟨rfl, rfl⟩)
  go_ret
  exact ⟨rfl, rfl⟩

theorem net_row : (Tryz.prog.info? 86).map (fun i => (i.zero, i.size, i.bytes)) = some (some (.agg tab0), 33, 40) := by kernel_rfl
theorem net_one (n : Nat) (f : Nat → Bool) (w : World) : (Instr.buildSlice 47 1 [(0, .agg (tcells n f))].toArray).run Tryz.prog w =
    .ok (.slice (some ⟨w.heap.size, 0, none⟩) 1 1) (w.alloc (.cells (tcells n f) 86)) := by kernel_rfl
/-- the cells of the first tables of a network -/
def netCells (n : Nat) (f : Nat → Nat → Bool) (k : Nat) : List Value := (List.range k).flatMap fun i => tlist n (f i)
theorem netCells_zero (n : Nat) (f : Nat → Nat → Bool) : netCells n f 0 = [] := rfl
theorem netCells_succ (n : Nat) (f : Nat → Nat → Bool) (k : Nat) : netCells n f (k + 1) = netCells n f k ++ tlist n (f k) := by
  simp [netCells, List.range_succ]
theorem netCells_length (n : Nat) (f : Nat → Nat → Bool) (k : Nat) : (netCells n f k).length = k * 33 := by
  induction k with
  | zero => rfl
  | succ k ih => rw [netCells_succ, List.length_append, ih, tlist_length]; omega
theorem netCells_get (n : Nat) (f : Nat → Nat → Bool) (k i j : Nat) (hi : i < k) (hj : j < 33) : (netCells n f k)[i * 33 + j]? = (tlist n (f i))[j]? := by
  induction k with
  | zero => omega
  | succ k ih =>
    rw [netCells_succ]
    by_cases h : i < k
    · rw [List.getElem?_append_left (by rw [netCells_length]; omega)]; exact ih h
    · obtain rfl : i = k := by omega
      rw [List.getElem?_append_right (by rw [netCells_length]; omega), netCells_length]
      congr 1; omega
/-- the first tables of a network lie in block b -/
def NetAt (w : World) (b n : Nat) (f : Nat → Nat → Bool) : Prop := ∀ i, i < n → w.rangeAt b (i * 33) (tlist n (f i))
theorem NetAt.below {w w' : World} {b n B : Nat} {f : Nat → Nat → Bool} (h : NetAt w b n f) (hb : Below B w w') (hlt : b < B) : NetAt w' b n f :=
  fun i hi j v hv => by rw [hb.cell hlt]; exact h i hi j v hv

/-- append of a table to a slice of tables that the call owns -/
theorem wpList_tab_append {ops : Array Oper} {rest : List Oper} {o : Oper} {a : Act} {w : World} {Q : Exit → Act → World → Prop} (hgd : o.guard = none) (s x : Operand) (t : TypeId)
    (ho : o.op = .call { callee := .builtin .append, args := #[s, x], argTypes := #[t, t] }) (ht : Tryz.prog.underlying t = some (.slice 86))
    (base : Nat) (v : Value) (k : Nat) (xs : List Value) (hs : a.eval s = v) (hown : w.ownsRow base 86 33 v k xs)
    (b n : Nat) (f : Nat → Bool) (hx : a.eval x = .slice (some ⟨b, 0, none⟩) 1 1) (hc : w.rangeAt b 0 (tlist n f)) (hk : k ≤ 100) (hbase : base ≤ w.heap.size)
    (h : ∀ v' w', w'.ownsRow base 86 33 v' (k + 1) (xs ++ tlist n f) → w.grownBy w' v.ownBlock → wpList Tryz.prog ops Q rest (a.put o.dst v') w') : wpList Tryz.prog ops Q (o :: rest) a w := by
  obtain ⟨i0, hi, hz0, hz1, hz2⟩ := info_parts net_row
  refine wpList_append_own _ hgd s x t ho base 86 i0 (.agg tab0) 33 40 ht hi hz0 hz1 hz2 (by rw [tab0]; exact tcells_size _ _) (by decide) v k xs hs hown ⟨b, 0, none⟩ 1 1 (tlist n f) hx (tlist_length _ _)
    (fun j u hu => by rw [Addr.add_mid]; exact hc j u hu) (fun u hu => (Array.all_eq_true_iff_forall_mem.1 (tcells_one n f)) u (by simpa [tcells] using hu)) (by unfold maxLen; omega) (by omega) hbase ?_
  intro v' w' h1 h2 _
  exact h v' w' h1 h2

theorem netAt_of_own {w : World} {base b cap n k : Nat} {f : Nat → Nat → Bool} (h : w.ownsRow base 86 33 (.slice (some ⟨b, 0, none⟩) k cap) k (netCells n f k)) (hk : k = n) : NetAt w b n f := by
  intro i hi j v hv
  subst hk
  have hj : j < 33 := by rw [← tlist_length k (f i)]; exact (List.getElem?_eq_some_iff.1 hv).1
  have := h.cells (g := b) rfl (i * 33 + j) v (by rw [netCells_get _ _ _ _ _ hi hj]; exact hv)
  rw [Addr.add_mid] at this
  simpa using this

theorem readNetwork_any (s : ByteArray) (w : World) (hs : s.size ≤ 1048576) :
    Calls Tryz.prog 35 #[.string s] w fun e w' => Below w.heap.size w w' ∧
      ((netOk s = false ∧ e = .returned (.tuple #[.slice none 0 0, .bool false])) ∨
       (netOk s = true ∧ ∃ b cap, e = .returned (.tuple #[.slice (some ⟨b, 0, none⟩) (netOf s).n cap, .bool true]) ∧ w.heap.size ≤ b ∧ b < w'.heap.size ∧ NetAt w' b (netOf s).n (netOf s).f)) := by
  have hn1 := parts_pos s
  have hB0 : Below w.heap.size w (w.alloc (.cells ((partsOf s).map Value.string).toArray 9)) := (Below.refl _ _).alloc (Nat.le_refl _) _
  by_cases h5 : (partsOf s).length ≤ 5
  · go_enter Tryz.func35, Tryz.ntmps35
    go_wp2_with (go_at_call 78; refine (split_any s _ hs).mono ?_; rintro e w' ⟨rfl, rfl⟩)
    go_loopw [17, 5] (fun ix out wr => ∃ k : Nat, k ≤ (partsOf s).length ∧ ix = .int .i64 k ∧ wr.ownsRow (w.heap.size + 1) 86 33 out k (netCells (partsOf s).length (netOf s).f k) ∧
        Below (w.heap.size + 1) (w.alloc (.cells ((partsOf s).map Value.string).toArray 9)) wr ∧ ∀ j (hj : j < (partsOf s).length), j < k → partOk (partsOf s).length (partsOf s)[j] = true) (fun ix _ _ => (partsOf s).length - (intOf ix).toNat)
    case atStart => exact ⟨0, Nat.zero_le _, rfl, World.ownsRow_nil _ _ _ _, Below.refl _ _, fun j hj h => absurd h (Nat.not_lt_zero _)⟩
    case round =>
      obtain ⟨k, hk, rfl, hown, hbel, hall⟩ := hrel
      have Hall := Lib.hid hall
      clear hall
      have hsz : w.heap.size + 1 ≤ wr.heap.size := by have := hbel.size; simpa using this
      have hW : Below w.heap.size w wr := hB0.trans (hbel.mono (by omega))
      by_cases hlt : k < (partsOf s).length
      · obtain ⟨p, hp⟩ : ∃ p, (partsOf s)[k] = p := ⟨_, rfl⟩
        have hps : p.size ≤ 1048576 := Nat.le_trans (parts_le s p (by rw [← hp]; exact List.getElem_mem _)) hs
        have hcell : wr.cell? ⟨w.heap.size, k, none⟩ = some (.string p) := by
          rw [hbel.cell (by simp), cell_of_row _ _ _ _ _ _ (heap_alloc_new _ _)]
          simp [hlt, hp]
        have hF : (netOf s).f k = bitAt p := by
          funext st
          show bitAt ((partsOf s).getD k ByteArray.empty) st = _
          rw [List.getD_eq_getElem?_getD, List.getElem?_eq_getElem hlt, hp]; rfl
        have HF := Lib.hid hF
        have Hp := Lib.hid hp
        clear hF hp
        cases hpo : partOk (partsOf s).length p
        · have hbad : netOk s = false := by
            unfold netOk; rw [List.all_eq_false]
            exact ⟨p, by rw [← Hp.out]; exact List.getElem_mem _, by rw [hpo]; decide⟩
          have Hbad := Lib.hid hbad
          clear hbad
          cases hto : tabOk p
          · have hr : rdCells p = tab0 := by rw [rdCells, hto]; rfl
            have hco := readTable_any p wr hps
            rw [hr, hto] at hco
            have Hco := Lib.hid hco
            clear hr hco hto hpo
            go_wp2_with (first | (go_at_call 79; refine Hco.out.mono ?_; rintro e w1 ⟨rfl, hb1⟩) | ((with_reducible show wpList _ _ _ (⟨_, .alloc 86, _, _, _, _⟩ :: _) _ _); refine wpList_alloc' rfl _ rfl (tab_alloc _) ?_) | ((with_reducible show wpList _ _ _ (⟨_, .store 86 _ _, _, _, _, _⟩ :: _) _ _); refine wpList_store' rfl _ _ _ rfl rfl rfl (tab_store_new _ _ 0 _ ?_) ?_; simp))
            go_ret2
            exact ⟨((hW.trans (hb1.mono (by omega))).alloc (by have := hb1.size; omega) _), .inl ⟨Hbad.out, rfl⟩⟩
          · have hr : rdCells p = tcells (logN p.size) (bitAt p) := by rw [rdCells, hto]; rfl
            have hne : ((logN p.size : Int) != ((partsOf s).length : Int)) = true := by
              simp only [bne_iff_ne, ne_eq, Int.natCast_inj]
              intro e
              rw [(partOk_iff _ _).2 ⟨hto, e⟩] at hpo
              exact absurd hpo (by decide)
            have hco := readTable_any p wr hps
            rw [hr, hto] at hco
            have Hco := Lib.hid hco
            clear hr hco hto hpo
            go_wp2_with (first | (go_at_call 79; refine Hco.out.mono ?_; rintro e w1 ⟨rfl, hb1⟩) | ((with_reducible show wpList _ _ _ (⟨_, .alloc 86, _, _, _, _⟩ :: _) _ _); refine wpList_alloc' rfl _ rfl (tab_alloc _) ?_) | ((with_reducible show wpList _ _ _ (⟨_, .store 86 _ _, _, _, _, _⟩ :: _) _ _); refine wpList_store' rfl _ _ _ rfl rfl rfl (tab_store_new _ _ (logN p.size) _ ?_) ?_; simp))
            go_ret2
            exact ⟨((hW.trans (hb1.mono (by omega))).alloc (by have := hb1.size; omega) _), .inl ⟨Hbad.out, rfl⟩⟩
        · obtain ⟨hto, hlog⟩ := (partOk_iff _ _).1 hpo
          have hr : rdCells p = tcells (partsOf s).length (bitAt p) := by rw [rdCells, hto, hlog]; rfl
          have hco := readTable_any p wr hps
          rw [hr, hto] at hco
          have Hco := Lib.hid hco
          have hall' : ∀ j (hj : j < (partsOf s).length), j < k + 1 → partOk (partsOf s).length (partsOf s)[j] = true := fun j hj h => by
            by_cases e : j = k
            · subst e; rw [Hp.out]; exact hpo
            · exact Hall.out j hj (by omega)
          have Hall' := Lib.hid hall'
          have Hown := Lib.hid hown
          clear hr hco hto hpo hlog hall' hown
          go_wp2_with (first | (go_at_call 79; refine Hco.out.mono ?_; rintro e w1 ⟨rfl, hb1⟩) | ((with_reducible show wpList _ _ _ (⟨_, .alloc 86, _, _, _, _⟩ :: _) _ _); refine wpList_alloc' rfl _ rfl (tab_alloc _) ?_) | ((with_reducible show wpList _ _ _ (⟨_, .store 86 _ _, _, _, _, _⟩ :: _) _ _); refine wpList_store' rfl _ _ _ rfl rfl rfl (tab_store_new _ _ (partsOf s).length _ ?_) ?_; simp) | ((with_reducible show wpList _ _ _ (⟨_, .load 86 _, _, _, _, _⟩ :: _) _ _); refine wpList_load' rfl _ _ rfl rfl (tab_load_at _ _ _ (partsOf s).length (bitAt p) (range_new ?_)) ?_; simp) | ((with_reducible show wpList _ _ _ (⟨_, .buildSlice 47 _ _, _, _, _, _⟩ :: _) _ _); refine wpList_buildSlice' rfl _ _ _ rfl rfl (net_one _ _ _) ?_) | (at_builtin; refine wpList_tab_append rfl _ _ _ rfl Tryz.underlying47 (w.heap.size + 1) _ k _ rfl (((own_below Hown.out hb1).alloc _).alloc _) _ _ (bitAt p) rfl (range_new ?_) (by omega) ?_ ?_))
          · rfl
          · have := hb1.size; simp; omega
          · intro v' w2 hown2 hg2
            have hown3 : w2.ownsRow (w.heap.size + 1) 86 33 v' (k + 1) (netCells (partsOf s).length (netOf s).f (k + 1)) := by
              rw [netCells_succ, HF.out]; exact hown2
            have Hown3 := Lib.hid hown3
            have hb2 : Below (w.heap.size + 1) (w.alloc (.cells ((partsOf s).map Value.string).toArray 9)) w2 := by
              have hs1 := hb1.size
              exact (((hbel.trans (hb1.mono (by omega))).alloc (by omega) _).alloc (by simp; omega) _).grown hg2 (by simp; omega) (fun g hg => own_ge Hown.out hg)
            have Hb2 := Lib.hid hb2
            clear hown2 hown3 hg2 hb2
            go_wp2_with fail
            go_roundw
            case rel => exact ⟨k + 1, by omega, by go_num, Hown3.out, Hb2.out, Hall'.out⟩
            case measure => simp [intOf] <;> omega
      · obtain rfl : k = (partsOf s).length := by omega
        have hok : netOk s = true := by
          unfold netOk; rw [List.all_eq_true]
          intro p hp
          obtain ⟨j, hj, rfl⟩ := List.getElem_of_mem hp
          exact Hall.out j hj hj
        obtain ⟨g, cap, rfl, hg1, hg2⟩ := own_slice hown hn1
        have hnet : NetAt wr g (netOf s).n (netOf s).f := netAt_of_own hown rfl
        have Hnet := Lib.hid hnet
        have Hok := Lib.hid hok
        clear hnet hok hown
        go_wp2_with fail
        go_ret2
        exact ⟨hW, .inr ⟨Hok.out, g, cap, rfl, by omega, hg2, Hnet.out⟩⟩
  · have hbad : netOk s = false := by
      cases h : netOk s with
      | false => rfl
      | true => exact absurd (netOk_n h).2 h5
    have Hbad := Lib.hid hbad
    clear hbad
    go_enter Tryz.func35, Tryz.ntmps35
    go_wp2_with (go_at_call 78; refine (split_any s _ hs).mono ?_; rintro e w' ⟨rfl, rfl⟩)
    go_ret2
    exact ⟨hB0, .inl ⟨Hbad.out, rfl⟩⟩
end Go.Proofs.YtkfagolmpbbckaaGreatDoor
