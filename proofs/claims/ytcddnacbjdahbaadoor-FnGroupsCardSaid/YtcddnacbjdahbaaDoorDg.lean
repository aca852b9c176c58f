/- The reference's draws for removing and for reaching: a network and a switch, a state. -/
import Derived.Test.YtcddnacbjdahbaaDoorDf
import Derived.Deep.RegionHeld3
namespace Go.Proofs.YtcddnacbjdahbaaDoor
open Go Go.RowKit Go.Sw
set_option maxRecDepth 100000
set_option linter.unusedVariables false

theorem freeL_mem {N : Net} {k : Nat} {x : Int} (h : x ∈ freeL N k) : ∃ i : Nat, x = (i : Int) ∧ i < k ∧ freeB N i = true := by
  induction k with
  | zero => simp [freeL] at h
  | succ k ih =>
    rw [freeL] at h
    split at h
    · rename_i hf
      rcases List.mem_append.1 h with h | h
      · obtain ⟨i, h1, h2, h3⟩ := ih h
        exact ⟨i, h1, by omega, h3⟩
      · have : x = (k : Int) := by simpa using h
        exact ⟨k, this, by omega, hf⟩
    · obtain ⟨i, h1, h2, h3⟩ := ih h
      exact ⟨i, h1, by omega, h3⟩
theorem remL_wf {t : ByteArray} {x : Int} (h : x ∈ remL t) : (Lit.int .i64 x).wf = true := by
  unfold remL at h
  cases hok : netOk t
  · rw [hok] at h; simp at h
  · rw [hok, if_pos rfl] at h
    obtain ⟨i, rfl, hi, _⟩ := freeL_mem h
    have := netOf_ok hok
    exact wf_nat (by omega)
/-- what a Draw.. of a text leaves -/
def TopT (w w' : World) (e : Ending) : Prop := Below w.heap.size w w' ∧ ∃ t : ByteArray, t.size ≤ 1100 ∧ e = .returned (.string t)
def TopTI (w w' : World) (e : Ending) : Prop := Below w.heap.size w w' ∧ ∃ (t : ByteArray) (i : Int), t.size ≤ 1100 ∧ (Lit.int .i64 i).wf = true ∧ e = .returned (.tuple #[.string t, .int .i64 i])
def TopTII (w w' : World) (e : Ending) : Prop := Below w.heap.size w w' ∧ ∃ (t : ByteArray) (i s : Int), t.size ≤ 1100 ∧ (Lit.int .i64 i).wf = true ∧ (Lit.int .i64 s).wf = true ∧ e = .returned (.tuple #[.string t, .int .i64 i, .int .i64 s])
def TopIII (w w' : World) (e : Ending) : Prop := Below w.heap.size w w' ∧ ∃ (a i s : Int), (Lit.int .i64 a).wf = true ∧ (Lit.int .i64 i).wf = true ∧ (Lit.int .i64 s).wf = true ∧ e = .returned (.tuple #[.int .i64 a, .int .i64 i, .int .i64 s])
set_option maxHeartbeats 1000000 in
theorem l9With_any (r m : Nat) (hm : m ≤ 500000) (w : World) (h : Rd w r m) :
    Calls Tryd.prog 89 #[.pointer (some ⟨r, 0, none⟩)] w fun e w' => TiAt w w' r (m + 320) 1100 e := by
  have c0 := Lib.hid (l7Open_any r m (by omega) w h)
  have C := Lib.hid (fun (wx : World) (m' k : Nat) (hx : Rd wx r m') (h1 : m' ≤ 1000000) (h2 : k ≤ 2000000) => pick_any r m' k h1 h2 wx hx)
  clear h
  go_enter Tryd.func89, Tryd.ntmps89
  go_wp2_with fail
  refine c0.out.mono ?_
  rintro e w1 ⟨hD1, hR1, t, ht, rfl⟩
  have c1 := Lib.hid (removable_spec t w1 (by omega))
  have HD1 := Lib.hid hD1
  have HR1 := Lib.hid hR1
  have hw1 := hD1.size
  have hr1 := hR1.lt
  clear hD1 hR1
  go_wp2_with fail
  refine c1.out.mono ?_
  rintro e w2 ⟨hW2, a, cap, rfl, hI⟩
  have HD2 := Lib.hid (HD1.out.below hW2 hw1)
  have HR2 := Lib.hid (HR1.out.below hW2 hr1)
  have hL5 := remL_length t
  have hwf := Lib.hid (fun x (hx : x ∈ remL t) => remL_wf hx)
  obtain ⟨L, hL⟩ : ∃ L, remL t = L := ⟨_, rfl⟩
  rw [hL] at hI hL5 hwf ⊢
  have HI := Lib.hid hI
  clear hI hL hW2
  by_cases h0 : 0 < L.length
  · have h0i : (0 : Int) < (L.length : Int) := by omega
    go_wp2_with fail
    refine (C.out w2 _ 4 HR2.out (by omega) (by omega)).mono ?_
    rintro e w3 ⟨hD3, hR3, c4, rfl, _, _⟩
    by_cases h4 : 0 < c4
    · have h4i : (0 : Int) < (c4 : Int) := by omega
      obtain ⟨g, cur, tt, rfl, hBg, hcur, hcs, hcells⟩ := HI.out.at' h0
      have hgl := block_lt hcur
      have hgr : g ≠ r := by omega
      have Hg3 := Lib.hid ((hD3.block g hgl hgr).trans hcur)
      have Hcells := Lib.hid hcells
      have HR3 := Lib.hid hR3
      have HD3 := Lib.hid (HD2.out.trans hD3)
      have hgl3 : g < w3.heap.size := by have := hD3.size; omega
      have hkeep0 : ∀ j (hj : j < L.length), w3.cell? ⟨g, j, none⟩ = some (.int .i64 (L[j]'hj)) := fun j hj => cell_row w3 g j Hg3.out (Hcells.out j hj)
      have Hk0 := Lib.hid hkeep0
      clear hcells hcur hR3 hD3 hkeep0
      go_wp2_with fail
      go_region_held3 (fun w' => ∀ j (hj : j < L.length), w'.cell? ⟨g, j, none⟩ = some (.int .i64 (L[j]'hj)))
        (first | exact hkeep | exact Hk0.out | go_keep)
        (first
          | (go_at_call 91; refine Calls.mono (C.out _ _ L.length (HR3.out.drew) (by omega) (by omega)) ?_; rintro e w4 ⟨hD4, hR4, j, rfl, hjl, hjj⟩; have hj := hjj h0; have hkeep : ∀ j (hj : j < L.length), w4.cell? ⟨g, j, none⟩ = some (.int .i64 (L[j]'hj)) := fun j hj => cell_row w4 g j ((hD4.block g hgl3 hgr).trans Hg3.out) (Hcells.out j hj); have hji : (j : Int) < (L.length : Int) := by omega))
      go_wp2_with fail
      go_ret2
      refine ⟨HD3.out.trans ?_, hR4.more (by omega), t, _, ht, hwf.out _ (List.getElem_mem hj), rfl⟩
      first | exact hD4 | exact hD4.drew
    · have h4i : ¬ (0 : Int) < (c4 : Int) := by omega
      have cS := Lib.hid (l1Switch_any r _ (by omega) w3 hR3)
      have HD3 := Lib.hid (HD2.out.trans hD3)
      clear hR3 hD3
      go_wp2_with fail
      refine cS.out.mono ?_
      rintro e w4 ⟨hD4, hR4, v, hv, rfl⟩
      go_wp2_with fail
      go_ret2
      exact ⟨HD3.out.trans hD4, hR4.more (by omega), t, v, ht, hv, rfl⟩
  · have h0i : ¬ (0 : Int) < (L.length : Int) := by omega
    have cS := Lib.hid (l1Switch_any r _ (by omega) w2 HR2.out)
    go_wp2_with fail
    refine cS.out.mono ?_
    rintro e w4 ⟨hD4, hR4, v, hv, rfl⟩
    go_wp2_with fail
    go_ret2
    exact ⟨HD2.out.trans hD4, hR4.more (by omega), t, v, ht, hv, rfl⟩
theorem drawActsOn_any (a : Option Addr) (len cap : Nat) (hc : cap ≤ maxLen) (w : World) (h : CodeAt w a len cap) :
    Calls Tryd.prog 34 #[.slice a len cap] w fun e w' => TopTI w w' e := by
  have c0 := Lib.hid (l14Open_any a len cap hc w h)
  clear h
  go_enter Tryd.func34, Tryd.ntmps34
  go_wp2_with fail
  refine c0.out.mono ?_
  rintro e w1 ⟨hW1, rfl, hR1⟩
  have c1 := Lib.hid (l7Open_any _ 0 (by omega) w1 hR1)
  have hw1 := hW1.size
  clear hR1
  go_wp2_with fail
  refine c1.out.mono ?_
  rintro e w2 ⟨hD2, hR2, t, ht, rfl⟩
  have c2 := Lib.hid (l1Switch_any _ _ (by omega) w2 hR2)
  have hB2 := Below.drw hW1 hD2 (Nat.le_refl _) hw1
  have hw2 := hB2.size
  have HB2 := Lib.hid hB2
  clear hR2 hD2 hB2
  go_wp2_with fail
  refine c2.out.mono ?_
  rintro e w3 ⟨hD3, hR3, v, hv, rfl⟩
  go_wp2_with fail
  go_ret2
  exact ⟨Below.drw HB2.out hD3 (Nat.le_refl _) hw2, t, v, ht, hv, rfl⟩
theorem drawReduce_any (a : Option Addr) (len cap : Nat) (hc : cap ≤ maxLen) (w : World) (h : CodeAt w a len cap) :
    Calls Tryd.prog 65 #[.slice a len cap] w fun e w' => TopT w w' e := by
  have c0 := Lib.hid (l14Open_any a len cap hc w h)
  clear h
  go_enter Tryd.func65, Tryd.ntmps65
  go_wp2_with fail
  refine c0.out.mono ?_
  rintro e w1 ⟨hW1, rfl, hR1⟩
  have c1 := Lib.hid (l7Open_any _ 0 (by omega) w1 hR1)
  have hw1 := hW1.size
  clear hR1
  go_wp2_with fail
  refine c1.out.mono ?_
  rintro e w2 ⟨hD2, hR2, t, ht, rfl⟩
  go_wp2_with fail
  go_ret
  exact ⟨Below.drw hW1 hD2 (Nat.le_refl _) hw1, t, ht, rfl⟩
theorem drawRemove_any (a : Option Addr) (len cap : Nat) (hc : cap ≤ maxLen) (w : World) (h : CodeAt w a len cap) :
    Calls Tryd.prog 54 #[.slice a len cap] w fun e w' => TopTI w w' e := by
  have c0 := Lib.hid (l14Open_any a len cap hc w h)
  clear h
  go_enter Tryd.func54, Tryd.ntmps54
  go_wp2_with fail
  refine c0.out.mono ?_
  rintro e w1 ⟨hW1, rfl, hR1⟩
  have c1 := Lib.hid (l9With_any _ 0 (by omega) w1 hR1)
  have hw1 := hW1.size
  clear hR1
  go_wp2_with fail
  refine c1.out.mono ?_
  rintro e w2 ⟨hD2, hR2, t, i, ht, hi, rfl⟩
  go_wp2_with fail
  go_ret2
  exact ⟨Below.drw hW1 hD2 (Nat.le_refl _) hw1, t, i, ht, hi, rfl⟩
theorem drawLift_any (a : Option Addr) (len cap : Nat) (hc : cap ≤ maxLen) (w : World) (h : CodeAt w a len cap) :
    Calls Tryd.prog 27 #[.slice a len cap] w fun e w' => TopTII w w' e := by
  have c0 := Lib.hid (l14Open_any a len cap hc w h)
  clear h
  go_enter Tryd.func27, Tryd.ntmps27
  go_wp2_with fail
  refine c0.out.mono ?_
  rintro e w1 ⟨hW1, rfl, hR1⟩
  have c1 := Lib.hid (l9With_any _ 0 (by omega) w1 hR1)
  have hw1 := hW1.size
  clear hR1
  go_wp2_with fail
  refine c1.out.mono ?_
  rintro e w2 ⟨hD2, hR2, t, i, ht, hi, rfl⟩
  have c2 := Lib.hid (pick_any _ _ 4 (by omega) (by omega) w2 hR2)
  have HB2 := Lib.hid (Below.drw hW1 hD2 (Nat.le_refl _) hw1)
  clear hR2 hD2
  go_wp2_with fail
  refine c2.out.mono ?_
  rintro e w3 ⟨hD3, hR3, j, rfl, hj, _⟩
  have c3 := Lib.hid (pick_any _ _ 8 (by omega) (by omega) w3 hR3)
  have HB3 := Lib.hid (Below.drw HB2.out hD3 (Nat.le_refl _) HB2.out.size)
  clear hR3 hD3
  go_wp2_with fail
  refine c3.out.mono ?_
  rintro e w4 ⟨hD4, hR4, q, rfl, hq, _⟩
  have HB4 := Lib.hid (Below.drw HB3.out hD4 (Nat.le_refl _) HB3.out.size)
  have HR4 := Lib.hid hR4
  clear hR4 hD4
  go_wp2_with ((with_reducible show wpList _ _ _ (⟨_, .buildSlice 30 6 _, _, _, _, _⟩ :: _) _ _); refine wpList_buildSlice' rfl _ _ _ rfl rfl (ints_built6 _ _ _ _ _ _ _) ?_)
  refine (num6_any (fun v => (Lit.int .i64 v).wf = true) _ _ _ _ _ _ _ _ (by omega) w4 HR4.out (wf_nat (by omega)) (wf_nat (by omega)) (by decide) (by decide) (by decide) (by decide)).mono ?_
  rintro e w5 ⟨hD5, hR5, v, hv, rfl⟩
  go_wp2_with fail
  go_ret3
  exact ⟨Below.drw HB4.out hD5 (Nat.le_refl _) HB4.out.size, t, i, v, ht, hi, hv, rfl⟩
theorem drawDrop_any (a : Option Addr) (len cap : Nat) (hc : cap ≤ maxLen) (w : World) (h : CodeAt w a len cap) :
    Calls Tryd.prog 30 #[.slice a len cap] w fun e w' => TopIII w w' e := by
  have c0 := Lib.hid (l14Open_any a len cap hc w h)
  clear h
  go_enter Tryd.func30, Tryd.ntmps30
  go_wp2_with fail
  refine c0.out.mono ?_
  rintro e w2 ⟨hW1, rfl, hR2⟩
  have c2 := Lib.hid (pick_any _ _ 8 (by omega) (by omega) w2 hR2)
  have HB2 := Lib.hid hW1
  clear hR2 hW1
  go_wp2_with fail
  refine c2.out.mono ?_
  rintro e w3 ⟨hD3, hR3, j, rfl, hj, _⟩
  have c3 := Lib.hid (pick_any _ _ 32 (by omega) (by omega) w3 hR3)
  have HB3 := Lib.hid (Below.drw HB2.out hD3 (Nat.le_refl _) HB2.out.size)
  clear hR3 hD3
  go_wp2_with fail
  refine c3.out.mono ?_
  rintro e w4 ⟨hD4, hR4, q, rfl, hq, _⟩
  have HB4 := Lib.hid (Below.drw HB3.out hD4 (Nat.le_refl _) HB3.out.size)
  have HR4 := Lib.hid hR4
  clear hR4 hD4
  go_wp2_with ((with_reducible show wpList _ _ _ (⟨_, .buildSlice 30 6 _, _, _, _, _⟩ :: _) _ _); refine wpList_buildSlice' rfl _ _ _ rfl rfl (ints_built6 _ _ _ _ _ _ _) ?_)
  refine (num6_any (fun v => (Lit.int .i64 v).wf = true) _ _ _ _ _ _ _ _ (by omega) w4 HR4.out (wf_nat (by omega)) (wf_nat (by omega)) (by decide) (by decide) (by decide) (by decide)).mono ?_
  rintro e w5 ⟨hD5, hR5, v, hv, rfl⟩
  have HB5 := Lib.hid (Below.drw HB4.out hD5 (Nat.le_refl _) HB4.out.size)
  have HR5 := Lib.hid hR5
  clear hR5 hD5
  go_wp2_with ((with_reducible show wpList _ _ _ (⟨_, .buildSlice 30 6 _, _, _, _, _⟩ :: _) _ _); refine wpList_buildSlice' rfl _ _ _ rfl rfl (ints_built6 _ _ _ _ _ _ _) ?_)
  refine (num6_any (fun v => (Lit.int .i64 v).wf = true) _ _ _ _ _ _ _ _ (by omega) w5 HR5.out (by decide) (by decide) (by decide) (by decide) (by decide) (by decide)).mono ?_
  rintro e w6 ⟨hD6, hR6, n, hn, rfl⟩
  have HB6 := Lib.hid (Below.drw HB5.out hD6 (Nat.le_refl _) HB5.out.size)
  have c6 := Lib.hid (l1Switch_any _ _ (by omega) w6 hR6)
  clear hR6 hD6
  go_wp2_with fail
  refine c6.out.mono ?_
  rintro e w7 ⟨hD7, hR7, i, hi, rfl⟩
  go_wp2_with fail
  go_ret3
  exact ⟨Below.drw HB6.out hD7 (Nat.le_refl _) HB6.out.size, v, n, i, hv, hn, hi, rfl⟩
end Go.Proofs.YtcddnacbjdahbaaDoor
