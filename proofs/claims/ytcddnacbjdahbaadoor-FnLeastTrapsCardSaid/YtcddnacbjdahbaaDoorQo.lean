/- The program's greatest traps. The statement's least and greatest traps. -/
import Derived.Test.YtcddnacbjdahbaaDoorImplP
import Derived.Test.YtcddnacbjdahbaaDoorSpecN
namespace Go.Proofs.YtcddnacbjdahbaaDoor
open Go Go.RowKit Go.Sw
set_option maxRecDepth 100000
set_option linter.unusedVariables false

set_option maxHeartbeats 1000000 in
theorem greatestTraps_impl (t : ByteArray) (w : World) (hs : t.size ≤ 1048576) :
    Calls Tryd.prog 61 #[.string t] w fun e w' => Below w.heap.size w w' ∧ ∃ a c, e = .returned (.slice a (greatL t).length c) ∧ TextsAt w' w.heap.size a (greatL t) := by
  have cT := Lib.hid (trapsOf_impl t w hs)
  have hl := trapsL_length t
  have hterm := trapsL_terms t
  have hdef : greatL t = (trapsL t).tail.filter fun u => !moreB (trapsL t).tail u := rfl
  have hn5 : (trapsL t) ≠ [] → (netOf t).n ≤ 5 := fun h => by
    unfold trapsL at h
    split at h
    · rename_i hok; exact (netOf_ok hok).2
    · exact absurd rfl h
  obtain ⟨xs, hxs⟩ : ∃ xs, trapsL t = xs := ⟨_, rfl⟩
  rw [hxs] at cT hl hterm hdef hn5
  rw [hdef]
  clear hdef hxs
  rcases xs with _ | ⟨x, r⟩
  · have hnil : ((([] : List ByteArray).tail).filter fun u => !moreB ([] : List ByteArray).tail u) = [] := rfl
    rw [hnil]
    clear hnil hterm hn5
    go_enter Tryd.func61, Tryd.ntmps61
    go_wp2_with fail
    refine cT.out.mono ?_
    rintro e w1 ⟨hW1, a, c, rfl, hc, ha, hT⟩
    have hB1 : Below w1.heap.size w1 (w1.alloc (.cells #[.slice a 0 c] 26)) := (Below.refl w1.heap.size w1).alloc (Nat.le_refl _) _
    have HR := Lib.hid (hT.txR.step hB1)
    have cC := Lib.hid (cloneS_any [] a c (w1.alloc (.cells #[.slice a 0 c] 26)) HR.out (by simp))
    clear hT ha
    go_wp2_with fail
    refine cC.out.mono ?_
    rintro e w2 ⟨hW2, a2, c2, rfl, hc2, hT2⟩
    have hs2 := hW2.size
    have hsz1 : (w1.alloc (.cells #[.slice a 0 c] 26)).heap.size = w1.heap.size + 1 := by simp
    have cD := Lib.hid (deleteS_any (w1.heap.size + 1) [] a2 c2 137 #[.pointer (some ⟨w1.heap.size, 0, none⟩)] (moreB []) w2 (by rw [← hsz1]; exact hT2) (by omega) hc2 (by simp) (enters_fn Tryd.func137 (by kernel_rfl) rfl) (fun u wx hu hx => by cases hu))
    clear hT2
    go_wp2_with fail
    refine cD.out.mono ?_
    rintro e w3 ⟨hW3, m, rfl, hm, hT3⟩
    have hW13 : Below w1.heap.size w1 w3 := (hB1.trans (hW2.mono (by omega))).trans (hW3.mono (by omega))
    obtain rfl : m = 0 := hm
    have C := Lib.hid (fun wx => clips_any a2 0 c2 (fun h => absurd h (Nat.lt_irrefl _)) (Nat.zero_le _) (by omega) wx)
    clear hT3
    go_wp2_with fail
    refine (C.out _).mono ?_
    rintro e w' ⟨rfl, rfl⟩
    go_wp2_with fail
    go_ret
    exact ⟨hW1.trans (hW13.mono hW1.size), a2, 0, rfl, textsAt_nil _ _ _⟩
  · obtain ⟨n, hn⟩ : ∃ n, (netOf t).n = n := ⟨_, rfl⟩
    rw [hn] at hterm hn5
    have hn5' := hn5 (by simp)
    rw [List.tail_cons]
    have hlr : r.length ≤ 242 := by simp at hl; omega
    obtain ⟨ys, hys⟩ : ∃ ys, (r.filter fun u => !moreB r u) = ys := ⟨_, rfl⟩
    have hyx : ys.length ≤ r.length := by rw [← hys]; exact List.length_filter_le _ _
    rw [hys]
    have Hys := Lib.hid hys
    have Hterm := Lib.hid (show allT n r from fun u hu => hterm u (by simp [hu]))
    clear hterm hn5 hys hl hn
    go_enter Tryd.func61, Tryd.ntmps61
    go_wp2_with fail
    refine cT.out.mono ?_
    rintro e w1 ⟨hW1, a, c, rfl, hc, ha, hT⟩
    obtain ⟨g, cur, tt, rfl, hBg, hcur, hcs, hcells⟩ := hT.at' (by simp)
    have hgw := block_lt hcur
    rw [List.length_cons] at hc hcs
    have hc1 : (1 : Int) ≤ (r.length : Int) + 1 := by omega
    have hc3 : (r.length : Int) + 1 ≤ (c : Int) := by omega
    have hcc : c = 1 ∨ 2 ≤ c := by omega
    have hca : (w1.alloc (.cells #[.slice (some ⟨g, 0, none⟩) (r.length + 1) c] 26)).cell? ⟨w1.heap.size, 0, none⟩ = some (.slice (some ⟨g, 0, none⟩) (r.length + 1) c) := cell_new rfl
    have hfa : (w1.alloc (.cells #[.slice (some ⟨g, 0, none⟩) (r.length + 1) c] 26)).frozen? ⟨w1.heap.size, 0, none⟩ = false := free_of_one (heap_alloc_new w1 _)
    rcases hcc with rfl | hcc
    · have hr0 : r = [] := List.length_eq_zero_iff.1 (by omega)
      subst hr0
      have hsz1 : (w1.alloc (.cells #[.slice (some ⟨g, 0, none⟩) 0 0] 26)).heap.size = w1.heap.size + 1 := by simp
      have hB1 : Below w1.heap.size w1 (w1.alloc (.cells #[.slice (some ⟨g, 0, none⟩) 0 0] 26)) := (Below.refl w1.heap.size w1).alloc (Nat.le_refl _) _
      have hcW : (w1.alloc (.cells #[.slice (some ⟨g, 0, none⟩) 0 0] 26)).cell? ⟨w1.heap.size, 0, none⟩ = some (.slice (some ⟨g, 0, none⟩) 0 0) := cell_new rfl
      have HR := Lib.hid (show TxR (w1.alloc (.cells #[.slice (some ⟨g, 0, none⟩) 0 0] 26)) (some ⟨g, 0, none⟩) [] from ⟨fun h0 => ⟨g, 0, rfl, by rw [hsz1]; omega, fun j hj => by
        cases hj⟩⟩)
      have cC := Lib.hid (cloneS_any [] (some ⟨g, 0, none⟩) 0 (w1.alloc (.cells #[.slice (some ⟨g, 0, none⟩) 0 0] 26)) HR.out (by omega))
      obtain ⟨W, hW0⟩ : ∃ W, w1.alloc (.cells #[.slice (some ⟨g, 0, none⟩) 0 0] 26) = W := ⟨_, rfl⟩
      rw [hW0] at hsz1 hB1 hcW HR cC
      have HcW := Lib.hid hcW
      have HW0 := Lib.hid hW0
      clear hT ha hcells hcur hcW hW0
      go_wp2_with fail
      rw [HW0.out]
      refine cC.out.mono ?_
      rintro e w2 ⟨hW2, a2, c2, rfl, hc2, hT2⟩
      have hs2 := hW2.size
      have cD := Lib.hid (deleteS_any (w1.heap.size + 1) [] a2 c2 137 #[.pointer (some ⟨w1.heap.size, 0, none⟩)] (moreB []) w2 (by rw [← hsz1]; exact hT2) (by omega) hc2 (by omega) (enters_fn Tryd.func137 (by kernel_rfl) rfl) (fun u wx hu hx => by
        have h12 : Below (w1.heap.size + 1) W wx := (by rw [← hsz1]; exact hW2 : Below (w1.heap.size + 1) _ w2).trans hx
        exact greatest1_any n hn5' [] Hterm.out (by omega) (some ⟨g, 0, none⟩) 0 w1.heap.size u (Hterm.out u hu) wx (HR.out.step (by rw [hsz1]; exact h12)) (by have := h12.size; omega) (by rw [h12.cell (by show w1.heap.size < w1.heap.size + 1; omega)]; exact HcW.out)))
      clear hT2
      go_wp2_with fail
      refine cD.out.mono ?_
      rintro e w3 ⟨hW3, m, rfl, hm, hT3⟩
      have hW13 : Below w1.heap.size w1 w3 := (hB1.trans (hW2.mono (by omega))).trans (hW3.mono (by omega))
      rw [Hys.out] at hm hT3
      have HT3 := Lib.hid (hT3.mono (show w.heap.size ≤ w1.heap.size + 1 by have := hW1.size; omega))
      subst hm
      have hya : 0 < ys.length → ∃ g, a2 = some ⟨g, 0, none⟩ := fun h0 => by
        obtain ⟨g, _, _, h1, _⟩ := hT3.at' h0
        exact ⟨g, h1⟩
      have hyc : ys.length ≤ c2 := by omega
      have C := Lib.hid (fun wx => clips_any a2 ys.length c2 hya hyc (by omega) wx)
      clear hT3 hya
      go_wp2_with fail
      refine (C.out _).mono ?_
      rintro e w' ⟨rfl, rfl⟩
      go_wp2_with fail
      go_ret
      exact ⟨hW1.trans (hW13.mono hW1.size), a2, _, rfl, HT3.out⟩
    · have hcc2 : ¬ c - 1 = 0 := by omega
      have hsz1 : (w1.alloc (.cells #[.slice (some ⟨g, 1, none⟩) r.length (c - 1)] 26)).heap.size = w1.heap.size + 1 := by simp
      have hB1 : Below w1.heap.size w1 (w1.alloc (.cells #[.slice (some ⟨g, 1, none⟩) r.length (c - 1)] 26)) := (Below.refl w1.heap.size w1).alloc (Nat.le_refl _) _
      have hcW : (w1.alloc (.cells #[.slice (some ⟨g, 1, none⟩) r.length (c - 1)] 26)).cell? ⟨w1.heap.size, 0, none⟩ = some (.slice (some ⟨g, 1, none⟩) r.length (c - 1)) := cell_new rfl
      have HR := Lib.hid (show TxR (w1.alloc (.cells #[.slice (some ⟨g, 1, none⟩) r.length (c - 1)] 26)) (some ⟨g, 1, none⟩) r from ⟨fun h0 => ⟨g, 1, rfl, by rw [hsz1]; omega, fun j hj => by
        rw [hB1.cell hgw, cell_of_row w1 _ _ _ _ _ hcur, show 1 + j = j + 1 by omega]
        have := hcells (j + 1) (by simp; omega)
        rwa [List.getElem_cons_succ] at this⟩⟩)
      have cC := Lib.hid (cloneS_any r (some ⟨g, 1, none⟩) (c - 1) (w1.alloc (.cells #[.slice (some ⟨g, 1, none⟩) r.length (c - 1)] 26)) HR.out (by omega))
      obtain ⟨W, hW0⟩ : ∃ W, w1.alloc (.cells #[.slice (some ⟨g, 1, none⟩) r.length (c - 1)] 26) = W := ⟨_, rfl⟩
      rw [hW0] at hsz1 hB1 hcW HR cC
      have HcW := Lib.hid hcW
      have HW0 := Lib.hid hW0
      clear hT ha hcells hcur hcW hW0
      go_wp2_with fail
      rw [HW0.out]
      refine cC.out.mono ?_
      rintro e w2 ⟨hW2, a2, c2, rfl, hc2, hT2⟩
      have hs2 := hW2.size
      have cD := Lib.hid (deleteS_any (w1.heap.size + 1) r a2 c2 137 #[.pointer (some ⟨w1.heap.size, 0, none⟩)] (moreB r) w2 (by rw [← hsz1]; exact hT2) (by omega) hc2 (by omega) (enters_fn Tryd.func137 (by kernel_rfl) rfl) (fun u wx hu hx => by
        have h12 : Below (w1.heap.size + 1) W wx := (by rw [← hsz1]; exact hW2 : Below (w1.heap.size + 1) _ w2).trans hx
        exact greatest1_any n hn5' r Hterm.out (by omega) (some ⟨g, 1, none⟩) (c - 1) w1.heap.size u (Hterm.out u hu) wx (HR.out.step (by rw [hsz1]; exact h12)) (by have := h12.size; omega) (by rw [h12.cell (by show w1.heap.size < w1.heap.size + 1; omega)]; exact HcW.out)))
      clear hT2
      go_wp2_with fail
      refine cD.out.mono ?_
      rintro e w3 ⟨hW3, m, rfl, hm, hT3⟩
      have hW13 : Below w1.heap.size w1 w3 := (hB1.trans (hW2.mono (by omega))).trans (hW3.mono (by omega))
      rw [Hys.out] at hm hT3
      have HT3 := Lib.hid (hT3.mono (show w.heap.size ≤ w1.heap.size + 1 by have := hW1.size; omega))
      subst hm
      have hya : 0 < ys.length → ∃ g, a2 = some ⟨g, 0, none⟩ := fun h0 => by
        obtain ⟨g, _, _, h1, _⟩ := hT3.at' h0
        exact ⟨g, h1⟩
      have hyc : ys.length ≤ c2 := by omega
      have C := Lib.hid (fun wx => clips_any a2 ys.length c2 hya hyc (by omega) wx)
      clear hT3 hya
      go_wp2_with fail
      refine (C.out _).mono ?_
      rintro e w' ⟨rfl, rfl⟩
      go_wp2_with fail
      go_ret
      exact ⟨hW1.trans (hW13.mono hW1.size), a2, _, rfl, HT3.out⟩
end Go.Proofs.YtcddnacbjdahbaaDoor
namespace Go.Proofs.YtcddnacbjdahbaaDoor
open Go Go.RowKit Go.Sw
set_option maxRecDepth 100000
set_option linter.unusedVariables false

theorem trapsL_five {t : ByteArray} (h : trapsL t ≠ []) : (netOf t).n ≤ 5 := by
  unfold trapsL at h
  split at h
  · rename_i hok; exact (netOf_ok hok).2
  · exact absurd rfl h
theorem leastTraps_spec (t : ByteArray) (w : World) (hs : t.size ≤ 1048576) :
    Calls Tryd.prog 62 #[.string t] w fun e w' => Below w.heap.size w w' ∧ ∃ a c, e = .returned (.slice a (leastL t).length c) ∧ TextsAt w' w.heap.size a (leastL t) := by
  have cT := Lib.hid (trapsOf_spec t w hs)
  have hl := trapsL_length t
  have hterm := Lib.hid (trapsL_terms t)
  have h5 := Lib.hid (fun h : trapsL t ≠ [] => trapsL_five h)
  have hout : leastL t = outTo true (trapsL t) (trapsL t).length := (out_least (trapsL_nodup t)).symm
  rw [hout]
  obtain ⟨xs, hxs⟩ : ∃ xs, trapsL t = xs := ⟨_, rfl⟩
  rw [hxs] at cT hl hterm h5 ⊢
  clear hout hxs
  go_enter Tryd.func62, Tryd.ntmps62
  go_wp2_with fail
  refine cT.out.mono ?_
  rintro e w1 ⟨hW1, a, c, rfl, hT⟩
  have cS := Lib.hid (l6Some_any (netOf t).n xs hterm.out h5.out hl true a c w1 hT.txR)
  clear hT
  go_wp2_with fail
  refine cS.out.mono ?_
  rintro e w2 ⟨hW2, a2, c2, rfl, hT2⟩
  have HT2 := Lib.hid (hT2.mono hW1.size)
  clear hT2
  go_wp2_with fail
  go_ret
  exact ⟨hW1.trans (hW2.mono hW1.size), a2, c2, rfl, HT2.out⟩
theorem greatestTraps_spec (t : ByteArray) (w : World) (hs : t.size ≤ 1048576) :
    Calls Tryd.prog 63 #[.string t] w fun e w' => Below w.heap.size w w' ∧ ∃ a c, e = .returned (.slice a (greatL t).length c) ∧ TextsAt w' w.heap.size a (greatL t) := by
  have cT := Lib.hid (trapsOf_spec t w hs)
  have hl := trapsL_length t
  have hterm := Lib.hid (trapsL_terms t)
  have h5 := Lib.hid (fun h : trapsL t ≠ [] => trapsL_five h)
  have hout : greatL t = outTo false (trapsL t) (trapsL t).length := (out_great (trapsL_nodup t)).symm
  rw [hout]
  obtain ⟨xs, hxs⟩ : ∃ xs, trapsL t = xs := ⟨_, rfl⟩
  rw [hxs] at cT hl hterm h5 ⊢
  clear hout hxs
  go_enter Tryd.func63, Tryd.ntmps63
  go_wp2_with fail
  refine cT.out.mono ?_
  rintro e w1 ⟨hW1, a, c, rfl, hT⟩
  have cS := Lib.hid (l6Some_any (netOf t).n xs hterm.out h5.out hl false a c w1 hT.txR)
  clear hT
  go_wp2_with fail
  refine cS.out.mono ?_
  rintro e w2 ⟨hW2, a2, c2, rfl, hT2⟩
  have HT2 := Lib.hid (hT2.mono hW1.size)
  clear hT2
  go_wp2_with fail
  go_ret
  exact ⟨hW1.trans (hW2.mono hW1.size), a2, c2, rfl, HT2.out⟩
end Go.Proofs.YtcddnacbjdahbaaDoor
