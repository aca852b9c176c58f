/- The program's rules of a network as texts, and their signs. -/
import Derived.Test.YtkfagolmpbbckaaDoorImplR
import Derived.Test.YtkfagolmpbbckaaDoorImplB
namespace Go.Proofs.YtkfagolmpbbckaaDoor
open Go Go.RowKit Go.Sw
set_option maxRecDepth 100000
set_option linter.unusedVariables false

theorem swB_nat {t : ByteArray} (h : netOk t = true) {i : Nat} (hi : i < (netOf t).n) : swB t (i : Int) = true := by
  unfold swB
  rw [h, Bool.true_and, decide_eq_true (by omega), decide_eq_true (by omega)]; rfl
theorem ruleOf_impl (t : ByteArray) (i : Nat) (w : World) (hs : t.size ≤ 1048576) (hok : netOk t = true) (hi : i < (netOf t).n) :
    Calls Tryd.prog 46 #[.string t, .int .i64 i] w fun e w' => Below w.heap.size w w' ∧ e = .returned (.string (tabText (netOf t).n ((netOf t).f i))) := by
  have hn := netOf_ok hok
  have c := Lib.hid (switchOf_yes t i w hs (swB_nat hok hi))
  have hi1 : (0 : Int) ≤ (i : Int) := by omega
  have hi2 : (i : Int) < (((netOf t).n : Nat) : Int) := by omega
  clear hok
  obtain ⟨N, hN⟩ : ∃ N, netOf t = N := ⟨_, rfl⟩
  rw [hN] at hn hi c hi2 ⊢
  clear hN
  go_enter Tryd.func46, Tryd.ntmps46
  go_wp2_with fail
  refine c.out.mono ?_
  rintro e w1 ⟨hW1, b, cap, rfl, hb1, hb2, hat⟩
  have Hr := Lib.hid (hat i hi)
  have cT := Lib.hid (fun wx => tableText_any N.n (N.f i) hn.2 wx)
  clear hat
  go_wp2_with ((with_reducible show wpList _ _ _ (⟨_, .load 79 _, _, _, _, _⟩ :: _) _ _); refine wpList_load' rfl _ _ rfl rfl (tab_load_at _ _ _ N.n (N.f i) Hr.out) ?_)
  refine (cT.out _).mono ?_
  rintro e w2 ⟨hW2, rfl⟩
  go_wp2_with fail
  go_ret
  exact ⟨hW1.trans (hW2.mono hW1.size), rfl⟩
theorem signOf_impl (n : Nat) (f : Nat → Bool) (i : Nat) (h1 : 1 ≤ n) (hn : n ≤ 5) (hi : i < n) (w : World) :
    Calls Tryd.prog 45 #[.string (tabText n f), .int .i64 i] w fun e w' => Below w.heap.size w w' ∧ e = .returned (.string (sgT (sgU n f i) (sgD n f i))) := by
  have hsz := tabText_size n f
  have hpw := pw_le hn
  have c := readTable_any (tabText n f) w (by rw [hsz]; omega)
  have hr : rdCells (tabText n f) = tcells n (bitAt (tabText n f)) := by rw [rdCells, tabOk_text h1 hn, if_pos rfl, hsz, logN_pw h1 hn]
  rw [hr, tabOk_text h1 hn] at c
  have C := Lib.hid c
  have hb : ∀ s, s < pw n → bitAt (tabText n f) s = f s := fun s hs => bitAt_text hs
  have hU : sgU n (bitAt (tabText n f)) i = sgU n f i := sgU_congr hi hb
  have hD : sgD n (bitAt (tabText n f)) i = sgD n f i := sgD_congr hi hb
  have cS := fun wx => sign_any n (bitAt (tabText n f)) i hn hi wx
  rw [hU, hD] at cS
  have CS := Lib.hid cS
  obtain ⟨q, hq⟩ : ∃ q, bitAt (tabText n f) = q := ⟨_, rfl⟩
  rw [hq] at C CS
  obtain ⟨tx, htx⟩ : ∃ q, tabText n f = q := ⟨_, rfl⟩
  rw [htx] at C ⊢
  have hi1 : ¬ ((i : Int) < 0) := by omega
  have hi2 : ¬ ((i : Int) ≥ (n : Int)) := by omega
  have hi3 : (i : Int) < (n : Int) := by omega
  clear c hr hb hU hD cS hq htx hsz
  go_enter Tryd.func45, Tryd.ntmps45
  go_wp2_with fail
  refine C.out.mono ?_
  rintro e w1 ⟨rfl, hW1⟩
  have hcell : (w1.alloc (.cells (tcells n q) 79)).cell? ⟨w1.heap.size, 0, none⟩ = some (.int .i64 n) := by
    rw [cell_of_row _ _ _ _ _ _ (heap_alloc_last _ _)]; rfl
  go_wp2_with (first | ((with_reducible show wpList _ _ _ (⟨_, .alloc 79, _, _, _, _⟩ :: _) _ _); refine wpList_alloc' rfl _ rfl (tab_alloc _) ?_) | ((with_reducible show wpList _ _ _ (⟨_, .store 79 _ _, _, _, _, _⟩ :: _) _ _); refine wpList_store' rfl _ _ _ rfl rfl rfl (tab_store_new _ _ n _ ?_) ?_; simp) | ((with_reducible show wpList _ _ _ (⟨_, .load 79 _, _, _, _, _⟩ :: _) _ _); refine wpList_load' rfl _ _ rfl rfl (tab_load_at _ _ _ n q (range_new ?_)) ?_; simp))
  refine (CS.out _).mono ?_
  rintro e w2 ⟨rfl, hW2⟩
  go_wp2_with fail
  go_ret
  exact ⟨hW1.trans ((((Below.refl _ _).alloc (Nat.le_refl _) _).trans (hW2.mono (by simp))).mono hW1.size), rfl⟩
end Go.Proofs.YtkfagolmpbbckaaDoor
