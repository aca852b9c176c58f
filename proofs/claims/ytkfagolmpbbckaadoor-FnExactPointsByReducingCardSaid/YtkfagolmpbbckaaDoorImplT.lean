/- The program's networks made of a function: of a step that is told. -/
import Derived.Test.YtkfagolmpbbckaaDoorImplA
import Derived.Test.YtkfagolmpbbckaaDoorTu
import Derived.Deep.RegionWith
namespace Go.Proofs.YtkfagolmpbbckaaDoor
open Go Go.RowKit Go.Sw
set_option maxRecDepth 100000
set_option linter.unusedVariables false

set_option maxHeartbeats 1000000 in
theorem fromStep1_any (s i k v : Nat) (cap : Array Value) (b1 b2 : Nat) (w : World) (hi : i < 5) (hv : v < 32)
    (h1 : w.cell? ⟨b1, 0, none⟩ = some (.func (.func k) #[] cap)) (h2 : w.cell? ⟨b2, 0, none⟩ = some (.int .i64 i)) (hb1 : b1 < w.heap.size) (hb2 : b2 < w.heap.size)
    (hk : ∀ args w, (callFunc k args).run Tryd.prog w = .ok (.enter k args) w)
    (hcl : ∀ wx : World, Below w.heap.size w wx → Calls Tryd.prog k (#[.int .i64 s] ++ cap) wx fun e w' => e = .returned (.int .i64 v) ∧ Below wx.heap.size wx w') :
    Calls Tryd.prog 213 #[.int .i64 s, .pointer (some ⟨b1, 0, none⟩), .pointer (some ⟨b2, 0, none⟩)] w fun e w' => e = .returned (.int .u8 (Sw.b2 (v.testBit i))) ∧ Below w.heap.size w w' := by
  have Hcl := Lib.hid hcl
  have hpi := pow2_le i (by omega)
  clear hcl
  cases hvb : v.testBit i
  all_goals
    go_enter Tryd.func213, Tryd.ntmps213
    go_wp2_with fail
    go_region_with (first | (refine Calls.mono (Hcl.out _ ((Below.refl _ _).drew)) ?_; rintro e w' ⟨rfl, hbx⟩; have h2' : w'.cell? ⟨b2, 0, none⟩ = some (.int .i64 i) := (hbx.cell hb2).trans h2))
    all_goals
      go_wp2_with fail
      go_ret
      exact ⟨rfl, (Below.refl _ _).drew.trans hbx⟩

theorem fromStep_any (n : Nat) (hn1 : 1 ≤ n) (hn : n ≤ 5) (k : Nat) (cap : Array Value) (g : Nat → Nat) (hg : ∀ s, s < pw n → g s < 32) (w : World)
    (hk : ∀ args w, (callFunc k args).run Tryd.prog w = .ok (.enter k args) w)
    (hcl : ∀ (s : Nat) (wx : World), s < pw n → Below w.heap.size w wx → Calls Tryd.prog k (#[.int .i64 s] ++ cap) wx fun e w' => e = .returned (.int .i64 (g s)) ∧ Below wx.heap.size wx w') :
    Calls Tryd.prog 184 #[.int .i64 n, .func (.func k) #[] cap] w fun e w' => Below w.heap.size w w' ∧
      ∃ b c, e = .returned (.slice (some ⟨b, 0, none⟩) n c) ∧ w.heap.size ≤ b ∧ b < w'.heap.size ∧ NetAt w' b n (stepF n g) := by
  have Hcl := Lib.hid hcl
  have hp := pw_le hn
  clear hcl
  go_enter Tryd.func184, Tryd.ntmps184
  go_wp2_with fail
  go_loopw [5, 6, 8] (fun out _ j wr => ∃ i : Nat, i ≤ n ∧ j = .int .i64 i ∧ wr.ownsRow (w.heap.size + 1) 79 33 out i (netCells n (stepF n g) i) ∧ wr.heap[w.heap.size]? = some (.cells #[.func (.func k) #[] cap] 63 (0, 0)) ∧ Below w.heap.size w wr) (fun _ _ j _ => n - (intOf j).toNat)
  case atStart => exact ⟨0, Nat.zero_le _, rfl, World.ownsRow_nil _ _ _ _, heap_alloc_new _ _, (Below.refl _ _).alloc (Nat.le_refl _) _⟩
  case round =>
    obtain ⟨i, hi, rfl, hown, hbox, hW⟩ := hrel
    have Hown := Lib.hid hown
    have Hbox := Lib.hid hbox
    have hlt0 := block_lt hbox
    clear hown hbox
    by_cases hlt : i < n
    · have hE := fun (wx : World) (h0 : wx.heap.size = wr.heap.size + 1) (hx : Below wr.heap.size wr wx) (hci : wx.cell? ⟨wr.heap.size, 0, none⟩ = some (.int .i64 i)) =>
        each_any n hn 213 #[.pointer (some ⟨w.heap.size, 0, none⟩), .pointer (some ⟨wr.heap.size, 0, none⟩)] (fun s => (g s).testBit i) wx (enters_fn Tryd.func213 (by kernel_rfl) rfl)
          (fun s wy hs hy => by
            have h1 : wy.cell? ⟨w.heap.size, 0, none⟩ = some (.func (.func k) #[] cap) := by
              rw [hy.cell (by show w.heap.size < wx.heap.size; omega), hx.cell (by show w.heap.size < wr.heap.size; omega), cell_of_row wr _ _ _ _ _ Hbox.out]; rfl
            have h2 : wy.cell? ⟨wr.heap.size, 0, none⟩ = some (.int .i64 i) := by
              rw [hy.cell (by show wr.heap.size < wx.heap.size; omega)]; exact hci
            refine (fromStep1_any s i k (g s) cap w.heap.size wr.heap.size wy (by omega) (hg s hs) h1 h2 (by have := hy.size; omega) (by have := hy.size; omega) hk (fun wz hz => ?_)).mono fun e w' h => h
            exact Hcl.out s wz hs ((hW.trans (hx.mono (by omega))).trans ((hy.mono (by omega)).trans (hz.mono (by have := hy.size; omega)))))
      have HE := Lib.hid hE
      clear hE
      obtain ⟨wo, rfl⟩ : ∃ wo : World, wo = wr := ⟨_, rfl⟩
      go_wp2_with fail
      refine (HE.out _ ?_ ?_ ?_).mono ?_
      · simp
      · exact (Below.refl _ _).alloc (Nat.le_refl _) _
      · exact cell_new rfl
      rintro e w1 ⟨rfl, hb1⟩
      have hW1 : Below w.heap.size w w1 := (hW.alloc hW.size _).trans (hb1.mono (by have := hW.size; simp; omega))
      have hbox1 : w1.heap[w.heap.size]? = some (.cells #[.func (.func k) #[] cap] 63 (0, 0)) := (hb1.block _ (by simp; omega)).trans ((Below.heap_alloc _ _ _ hlt0).trans Hbox.out)
      have hbo : Below wo.heap.size wo w1 := ((Below.refl _ _).alloc (Nat.le_refl _) _).trans (hb1.mono (by simp))
      have hF : upto (pw n) (fun s => (g s).testBit i) = stepF n g i := rfl
      rw [hF]
      obtain ⟨fi, hfi⟩ : ∃ fi, stepF n g i = fi := ⟨_, rfl⟩
      rw [hfi]
      have Hfi := Lib.hid hfi
      have Hbox1 := Lib.hid hbox1
      clear hF hfi hbox1
      go_wp2_with (first | ((with_reducible show wpList _ _ _ (⟨_, .buildSlice 58 _ _, _, _, _, _⟩ :: _) _ _); refine wpList_buildSlice' rfl _ _ _ rfl rfl (net_one _ _ _) ?_) | (at_builtin; refine wpList_tab_append rfl _ _ _ rfl Tryd.underlying58 (w.heap.size + 1) _ i _ rfl ((own_below Hown.out hbo).alloc _) _ _ fi rfl (range_new ?_) (by omega) ?_ ?_))
      · rfl
      · have := hW1.size; have := hW.size; have := hbo.size; simp; omega
      · intro v' w2 hown2 hg2
        have hown3 : w2.ownsRow (w.heap.size + 1) 79 33 v' (i + 1) (netCells n (stepF n g) (i + 1)) := by
          rw [netCells_succ, Hfi.out]; exact hown2
        have hbox2 : w2.heap[w.heap.size]? = some (.cells #[.func (.func k) #[] cap] 63 (0, 0)) := by
          rw [hg2.block _ (by have := hW1.size; have := hbo.size; simp; omega) (fun e => by have := own_ge (own_below Hown.out hbo) e.symm; omega), Below.heap_alloc _ _ _ (by have := hbo.size; omega)]
          exact Hbox1.out
        have hb2 : Below w.heap.size w w2 := (hW1.alloc hW1.size _).grown hg2 (by have := hW1.size; simp; omega) (fun q hq => by have := own_ge (own_below Hown.out hbo) hq; omega)
        have Hown3 := Lib.hid hown3
        have Hbox2 := Lib.hid hbox2
        have Hb2 := Lib.hid hb2
        clear hown2 hown3 hg2 hbox2 hb2
        go_wp2_with fail
        go_roundw
        case rel => exact ⟨i + 1, by omega, by go_num, Hown3.out, Hbox2.out, Hb2.out⟩
        case measure => simp [intOf] <;> omega
    · obtain rfl : i = n := by omega
      obtain ⟨b, cp, rfl, hb1, hb2⟩ := own_slice Hown.out hn1
      have hat : NetAt wr b i (stepF i g) := netAt_of_own Hown.out rfl
      have Hat := Lib.hid hat
      clear hat
      go_wp2_with fail
      go_ret
      exact ⟨hW, b, cp, rfl, by omega, hb2, Hat.out⟩
end Go.Proofs.YtkfagolmpbbckaaDoor
