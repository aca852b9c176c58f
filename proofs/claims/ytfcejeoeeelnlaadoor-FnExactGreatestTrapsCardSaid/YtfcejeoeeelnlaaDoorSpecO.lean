/- The statement's least and greatest traps. -/
import Derived.Test.YtfcejeoeeelnlaaDoorSpecN
namespace Go.Proofs.YtfcejeoeeelnlaaDoor
open Go Go.RowKit Go.Sw
set_option maxRecDepth 100000
set_option linter.unusedVariables false

theorem trapsL_five {t : ByteArray} (h : trapsL t ≠ []) : (netOf t).n ≤ 5 := by
  unfold trapsL at h
  split at h
  · rename_i hok; exact (netOf_ok hok).2
  · exact absurd rfl h
theorem leastTraps_spec (t : ByteArray) (w : World) (hs : t.size ≤ 1048576) :
    Calls Tryd.prog 27 #[.string t] w fun e w' => Below w.heap.size w w' ∧ ∃ a c, e = .returned (.slice a (leastL t).length c) ∧ TextsAt w' w.heap.size a (leastL t) := by
  have cT := Lib.hid (trapsOf_spec t w hs)
  have hl := trapsL_length t
  have hterm := Lib.hid (trapsL_terms t)
  have h5 := Lib.hid (fun h : trapsL t ≠ [] => trapsL_five h)
  have hout : leastL t = outTo true (trapsL t) (trapsL t).length := (out_least (trapsL_nodup t)).symm
  rw [hout]
  obtain ⟨xs, hxs⟩ : ∃ xs, trapsL t = xs := ⟨_, rfl⟩
  rw [hxs] at cT hl hterm h5 ⊢
  clear hout hxs
  go_enter Tryd.func27, Tryd.ntmps27
  go_wp2_with fail
  refine cT.out.mono ?_
  rintro e w1 ⟨hW1, a, c, rfl, hT⟩
  have cS := Lib.hid (l6Some_any (netOf t).n xs hterm.out h5.out hl true a c w1 hT.txR)
  clear hT
  go_wp2_with fail
  refine cS.out.mono ?_
  rintro e w2 ⟨hW2, a2, c2, rfl, hT2⟩
  have HT2 := Lib.hid (hT2.mono hW1.size)
  clear hT2
  go_wp2_with fail
  go_ret
  exact ⟨hW1.trans (hW2.mono hW1.size), a2, c2, rfl, HT2.out⟩
theorem greatestTraps_spec (t : ByteArray) (w : World) (hs : t.size ≤ 1048576) :
    Calls Tryd.prog 32 #[.string t] w fun e w' => Below w.heap.size w w' ∧ ∃ a c, e = .returned (.slice a (greatL t).length c) ∧ TextsAt w' w.heap.size a (greatL t) := by
  have cT := Lib.hid (trapsOf_spec t w hs)
  have hl := trapsL_length t
  have hterm := Lib.hid (trapsL_terms t)
  have h5 := Lib.hid (fun h : trapsL t ≠ [] => trapsL_five h)
  have hout : greatL t = outTo false (trapsL t) (trapsL t).length := (out_great (trapsL_nodup t)).symm
  rw [hout]
  obtain ⟨xs, hxs⟩ : ∃ xs, trapsL t = xs := ⟨_, rfl⟩
  rw [hxs] at cT hl hterm h5 ⊢
  clear hout hxs
  go_enter Tryd.func32, Tryd.ntmps32
  go_wp2_with fail
  refine cT.out.mono ?_
  rintro e w1 ⟨hW1, a, c, rfl, hT⟩
  have cS := Lib.hid (l6Some_any (netOf t).n xs hterm.out h5.out hl false a c w1 hT.txR)
  clear hT
  go_wp2_with fail
  refine cS.out.mono ?_
  rintro e w2 ⟨hW2, a2, c2, rfl, hT2⟩
  have HT2 := Lib.hid (hT2.mono hW1.size)
  clear hT2
  go_wp2_with fail
  go_ret
  exact ⟨hW1.trans (hW2.mono hW1.size), a2, c2, rfl, HT2.out⟩
end Go.Proofs.YtfcejeoeeelnlaaDoor
