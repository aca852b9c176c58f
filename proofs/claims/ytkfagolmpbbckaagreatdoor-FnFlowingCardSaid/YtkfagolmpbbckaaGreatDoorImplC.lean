/- The program's circuits: the sign of a row of switches. -/
import Derived.Test.YtkfagolmpbbckaaGreatDoorImpl7
import Derived.Test.YtkfagolmpbbckaaGreatDoorP1
import Derived.Test.YtkfagolmpbbckaaGreatDoorAp
import Derived.Deep.RegionHeld3
import Derived.Deep.AppendLies
namespace Go.Proofs.YtkfagolmpbbckaaGreatDoor
open Go Go.RowKit Go.Sw
set_option maxRecDepth 100000
set_option linter.unusedVariables false

/-- numbers lie in block g -/
def RowAt (w : World) (g : Nat) (way : List Nat) : Prop := g < w.heap.size ∧ ∀ k (h : k < way.length), w.cell? ⟨g, k, none⟩ = some (.int .i64 (way[k] : Nat))
theorem RowAt.below {w w' : World} {g : Nat} {way : List Nat} (h : RowAt w g way) (hb : Below w.heap.size w w') : RowAt w' g way :=
  ⟨Nat.lt_of_lt_of_le h.1 hb.size, fun k hk => by rw [hb.cell h.1]; exact h.2 k hk⟩
theorem RowAt.same {w w' : World} {g : Nat} {way : List Nat} (h : RowAt w g way) (hs : w'.heap[g]? = w.heap[g]?) : RowAt w' g way :=
  ⟨by
    have : ∃ o, w'.heap[g]? = some o := by rw [hs]; exact ⟨_, Array.getElem?_eq_getElem h.1⟩
    exact block_lt this.choose_spec, fun k hk => by rw [World.cell?_of_block (w := w) (a := ⟨g, k, none⟩) hs]; exact h.2 k hk⟩

set_option maxHeartbeats 1000000 in
theorem signRow_any (b cap g c : Nat) (N : Net) (hn : N.n ≤ 5) (way : List Nat) (hne : way ≠ []) (hw : ∀ k ∈ way, k < N.n) (he : edgesOk N way) (hl : way.length ≤ 5) (w : World) (hat : NetAt w b N.n N.f) (hb : b < w.heap.size) (hr : RowAt w g way) :
    Calls Tryz.prog 84 #[.slice (some ⟨b, 0, none⟩) N.n cap, .slice (some ⟨g, 0, none⟩) way.length c] w fun e w' => Below w.heap.size w w' ∧ e = .returned (.int .u8 (signT (circC N way)).toNat) := by
  have Hat := Lib.hid hat
  have Hr := Lib.hid hr
  have hlp : 0 < way.length := List.length_pos_iff.2 hne
  have hcirc := circC_fold (N := N) hne
  have Hcirc := Lib.hid hcirc
  have Hw := Lib.hid hw
  have He := Lib.hid he
  clear hat hr hcirc hw he hne
  go_enter Tryz.func84, Tryz.ntmps84
  go_wp2_with fail
  go_loopw [5, 6, 7, 10] (fun m _ _ j wr => ∃ k : Nat, k ≤ way.length ∧ j = .int .i64 k ∧ m = .int .i64 (minusC N way k : Nat) ∧ (∀ i, i < k → codeC N way i = 1 ∨ codeC N way i = 2) ∧ Below w.heap.size w wr) (fun _ _ _ j _ => way.length - (intOf j).toNat)
  case atStart => exact ⟨0, Nat.zero_le _, rfl, rfl, fun i h => absurd h (Nat.not_lt_zero _), Below.refl _ _⟩
  case round =>
    obtain ⟨k, hk, rfl, rfl, hall, hW⟩ := hrel
    have Hall := Lib.hid hall
    have hml := minusC_le N way k
    clear hall
    by_cases hlt : k < way.length
    · obtain ⟨q, hq⟩ : ∃ q, (k + 1) % way.length = q := ⟨_, rfl⟩
      have hq1 : q < way.length := by rw [← hq]; exact Nat.mod_lt _ hlp
      have hq2 : ((k : Int) + 1) % (way.length : Int) = (q : Int) := by rw [← hq]; simp
      have hr' := Hr.out.below (hW.mono (Nat.le_refl _))
      have c1 : wr.cell? ⟨g, k, none⟩ = some (.int .i64 (way.getD k 0 : Nat)) := by
        rw [List.getD_eq_getElem?_getD, List.getElem?_eq_getElem hlt]; exact hr'.2 k hlt
      have c2 : wr.cell? ⟨g, q, none⟩ = some (.int .i64 (way.getD q 0 : Nat)) := by
        rw [List.getD_eq_getElem?_getD, List.getElem?_eq_getElem hq1]; exact hr'.2 q hq1
      have hcode : codeC N way k = edgeC N (way.getD k 0) (way.getD q 0) := by unfold codeC; rw [hq]
      have hi1 : way.getD k 0 < N.n := Hw.out _ (by rw [List.getD_eq_getElem?_getD, List.getElem?_eq_getElem hlt]; exact List.getElem_mem hlt)
      have hi2 : way.getD q 0 < N.n := Hw.out _ (by rw [List.getD_eq_getElem?_getD, List.getElem?_eq_getElem hq1]; exact List.getElem_mem hq1)
      have hpos := He.out k hlt
      obtain ⟨i, hi⟩ : ∃ i, way.getD k 0 = i := ⟨_, rfl⟩
      obtain ⟨t, ht⟩ : ∃ t, way.getD q 0 = t := ⟨_, rfl⟩
      rw [hi, ht] at hcode
      rw [hi] at c1 hi1
      rw [ht] at c2 hi2
      rw [hcode] at hpos
      have hle := edgeC_le N i t
      have Hrg := Lib.hid ((Hat.out.below hW hb) t hi2)
      have cS := fun W => sign_any N.n (N.f t) i hn hi1 W
      rw [sgT_code] at cS
      have hmn : minusC N way (k + 1) = minusC N way k + if codeC N way k = 2 then 1 else 0 := rfl
      rw [hcode] at hmn
      have h3 : edgeC N i t = 3 → circC N way = 3 := fun h => by rw [Hcirc.out]; exact foldC_three hlt (by rw [hcode]; exact h)
      have Hcode := Lib.hid hcode
      have hkl : (k : Int) < (way.length : Int) := by omega
      have hql : (q : Int) < (way.length : Int) := by omega
      have htn : (t : Int) < (N.n : Int) := by omega
      have hWs := hW.size
      clear hr' hi ht hq hcode
      have hcases : edgeC N i t = 1 ∨ edgeC N i t = 2 ∨ edgeC N i t = 3 := by omega
      rcases hcases with e | e | e
      · rw [e] at cS hmn
        have CS := Lib.hid (show ∀ W, Calls Tryz.prog 96 #[.agg (tcells N.n (N.f t)), .int .i64 i] W fun e w' => e = .returned (.string ⟨#[43]⟩) ∧ Below W.heap.size W w' from cS)
        have Hmn := Lib.hid (show minusC N way (k + 1) = minusC N way k from hmn)
        have He1 := Lib.hid e
        clear cS hmn h3 e hpos hle
        go_wp2_with (first | ((with_reducible show wpList _ _ _ (⟨_, .load 86 _, _, _, _, _⟩ :: _) _ _); refine wpList_load' rfl _ _ rfl rfl (tab_load_at _ _ _ N.n (N.f t) Hrg.out) ?_) | (go_at_call 96; refine (CS.out _).mono ?_; rintro e w1 ⟨rfl, hb1⟩))
        go_roundw
        case rel => exact ⟨k + 1, by omega, by go_num, by rw [Hmn.out], fun j hj => by
            by_cases e : j = k
            · subst e; rw [Hcode.out]; exact .inl He1.out
            · exact Hall.out j (by omega), hW.trans (hb1.mono hWs)⟩
        case measure => simp [intOf] <;> omega
      · rw [e] at cS hmn
        have CS := Lib.hid (show ∀ W, Calls Tryz.prog 96 #[.agg (tcells N.n (N.f t)), .int .i64 i] W fun e w' => e = .returned (.string ⟨#[45]⟩) ∧ Below W.heap.size W w' from cS)
        have Hmn := Lib.hid (show minusC N way (k + 1) = minusC N way k + 1 from hmn)
        have He1 := Lib.hid e
        clear cS hmn h3 e hpos hle
        go_wp2_with (first | ((with_reducible show wpList _ _ _ (⟨_, .load 86 _, _, _, _, _⟩ :: _) _ _); refine wpList_load' rfl _ _ rfl rfl (tab_load_at _ _ _ N.n (N.f t) Hrg.out) ?_) | (go_at_call 96; refine (CS.out _).mono ?_; rintro e w1 ⟨rfl, hb1⟩))
        go_roundw
        case rel => exact ⟨k + 1, by omega, by go_num, by rw [Hmn.out]; go_num, fun j hj => by
            by_cases e : j = k
            · subst e; rw [Hcode.out]; exact .inr He1.out
            · exact Hall.out j (by omega), hW.trans (hb1.mono hWs)⟩
        case measure => simp [intOf] <;> omega
      · rw [e] at cS
        have CS := Lib.hid (show ∀ W, Calls Tryz.prog 96 #[.agg (tcells N.n (N.f t)), .int .i64 i] W fun e w' => e = .returned (.string ⟨#[42]⟩) ∧ Below W.heap.size W w' from cS)
        have Hres := Lib.hid (h3 e)
        clear cS hmn h3 e hpos hle
        go_wp2_with (first | ((with_reducible show wpList _ _ _ (⟨_, .load 86 _, _, _, _, _⟩ :: _) _ _); refine wpList_load' rfl _ _ rfl rfl (tab_load_at _ _ _ N.n (N.f t) Hrg.out) ?_) | (go_at_call 96; refine (CS.out _).mono ?_; rintro e w1 ⟨rfl, hb1⟩))
        go_ret
        exact ⟨hW.trans (hb1.mono hWs), by rw [Hres.out]; rfl⟩
    · obtain rfl : k = way.length := by omega
      have hres : circC N way = 1 + minusC N way way.length % 2 := by rw [Hcirc.out]; exact foldC_minus Hall.out
      obtain ⟨m, hm⟩ : ∃ m, minusC N way way.length = m := ⟨_, rfl⟩
      rw [hm] at hres hml ⊢
      have h2 : m % 2 = 0 ∨ m % 2 = 1 := by omega
      rcases h2 with h2 | h2
      · have h2i : (m : Int) % 2 = 0 := by omega
        rw [h2] at hres
        have Hres := Lib.hid hres
        clear hres hm h2
        go_wp2_with fail
        go_ret
        exact ⟨hW, by rw [Hres.out]; rfl⟩
      · have h2i : (m : Int) % 2 = 1 := by omega
        rw [h2] at hres
        have Hres := Lib.hid hres
        clear hres hm h2
        go_wp2_with fail
        go_ret
        exact ⟨hW, by rw [Hres.out]; rfl⟩
end Go.Proofs.YtkfagolmpbbckaaGreatDoor
