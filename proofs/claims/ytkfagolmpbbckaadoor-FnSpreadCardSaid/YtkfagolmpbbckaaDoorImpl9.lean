/- The program's removing of switches: which can be, states with one put in. -/
import Derived.Test.YtkfagolmpbbckaaDoorImplA
import Derived.Test.YtkfagolmpbbckaaDoorPu
import Derived.Test.YtkfagolmpbbckaaDoorSl
namespace Go.Proofs.YtkfagolmpbbckaaDoor
open Go Go.RowKit Go.Sw
set_option maxRecDepth 100000
set_option linter.unusedVariables false

theorem hold_any (s i : Nat) (v : Bool) (hs : s < 32) (hi : i < 5) (w : World) :
    Calls Tryd.prog 206 #[.int .i64 s, .int .i64 i, .int .i64 (b2 v)] w fun e w' => Below w.heap.size w w' ∧ e = .returned (.int .i64 (setN s i v)) := by
  have h2 := pow2_le i (by omega)
  obtain ⟨h3, h4⟩ := set_facts s i v hs hi
  cases v
  all_goals
    simp only [Bool.toNat_true, Bool.toNat_false, Int.natCast_zero, Int.natCast_one, Int.zero_mul, Int.one_mul, b2_true, b2_false] at h4 ⊢
    go_enter Tryd.func206, Tryd.ntmps206
    go_wp2_with fail
    go_quiet (fail)
    go_wp2_with fail
    go_ret
    exact ⟨below_drewN (Below.refl _ _) _, rfl⟩

theorem stepOne_any (b cap s i : Nat) (N : Net) (hn : N.n ≤ 5) (hs : s < pw N.n) (hi : i < N.n) (w : World) (hat : NetAt w b N.n N.f) :
    Calls Tryd.prog 173 #[.slice (some ⟨b, 0, none⟩) N.n cap, .int .i64 s, .int .i64 i] w fun e w' => Below w.heap.size w w' ∧ e = .returned (.int .i64 (setN s i (N.f i s))) := by
  have hp := pw_le hn
  have hc : w.cell? ⟨b, i * 33 + 1 + s, none⟩ = some (.int .u8 (b2 (N.f i s))) := by
    have h := tcells_bit N.n (N.f i) s (by omega)
    have h2 : (tlist N.n (N.f i))[1 + s]? = some (.int .u8 (b2 (N.f i s))) := by simpa [tcells] using h
    have h3 : w.cell? ⟨b, i * 33 + (1 + s), none⟩ = some (.int .u8 (b2 (N.f i s))) := hat i hi (1 + s) _ h2
    rw [← Nat.add_assoc] at h3
    exact h3
  have c := fun wx => hold_any s i (N.f i s) (by omega) (by omega) wx
  clear hat
  cases hv : N.f i s <;> rw [hv] at hc c <;> simp only [b2_true, b2_false] at hc c
  all_goals
    have C := Lib.hid c
    clear c hv
    go_enter Tryd.func173, Tryd.ntmps173
    go_wp2_with fail
    refine (C.out _).mono ?_
    rintro e w1 ⟨hW1, rfl⟩
    go_wp2_with fail
    go_ret
    exact ⟨hW1, rfl⟩

theorem put_any (s i : Nat) (hs : s < 16) (hi : i < 5) (w : World) :
    Calls Tryd.prog 187 #[.int .i64 s, .int .i64 i] w fun e w' => e = .returned (.int .i64 (putN s i : Nat)) ∧ w = w' := by
  obtain ⟨ha, h0, h1, ho, _⟩ := put_facts s i hs hi
  have h2 := pow2_le i (by omega)
  go_enter Tryd.func187, Tryd.ntmps187
  go_wp2
  go_ret
  exact ⟨rfl, rfl⟩

theorem lift_any (b cap s i : Nat) (N : Net) (h2 : 2 ≤ N.n) (hn : N.n ≤ 5) (hs : s < pw (N.n - 1)) (hi : i < N.n) (w : World) (hat : NetAt w b N.n N.f) :
    Calls Tryd.prog 156 #[.slice (some ⟨b, 0, none⟩) N.n cap, .int .i64 i, .int .i64 s] w fun e w' => Below w.heap.size w w' ∧ e = .returned (.int .i64 (liftN N i s)) := by
  have hp := pw_le hn
  have hh := pw_half (show 1 ≤ N.n by omega)
  have hlt := putN_lt s i (N.n - 1) hs
  rw [show N.n - 1 + 1 = N.n by omega] at hlt
  have c1 := Lib.hid (put_any s i (by omega) (by omega) w)
  have c2 := Lib.hid (stepOne_any b cap (putN s i) i N hn hlt hi w hat)
  clear hat hh
  go_enter Tryd.func156, Tryd.ntmps156
  go_wp2_with fail
  refine c1.out.mono ?_
  rintro e w' ⟨rfl, rfl⟩
  go_wp2_with fail
  refine c2.out.mono ?_
  rintro e w1 ⟨hW1, rfl⟩
  go_wp2_with fail
  go_ret
  exact ⟨hW1, rfl⟩

theorem removable_any (b cap i : Nat) (N : Net) (hn : N.n ≤ 5) (hi : i < N.n) (w : World) (hat : NetAt w b N.n N.f) :
    Calls Tryd.prog 154 #[.slice (some ⟨b, 0, none⟩) N.n cap, .int .i64 i] w fun e w' => Below w.heap.size w w' ∧ e = .returned (.bool (freeB N i)) := by
  by_cases h1 : 1 < N.n
  · have hr := hat i hi
    have c := fun wx => sign_any N.n (N.f i) i hn hi wx
    have hf : freeB N i = !infB N i i := by rw [freeB, decide_eq_true h1, Bool.true_and]
    rw [hf, infB]
    have Hr := Lib.hid hr
    clear hr hat hf
    cases hu : sgU N.n (N.f i) i <;> cases hd : sgD N.n (N.f i) i
    case' false.false => have hs : sgT false false = ⟨#[48]⟩ := rfl
    case' true.false => have hs : sgT true false = ⟨#[43]⟩ := rfl
    case' false.true => have hs : sgT false true = ⟨#[45]⟩ := rfl
    case' true.true => have hs : sgT true true = ⟨#[42]⟩ := rfl
    all_goals
      rw [hu, hd, hs] at c
      have C := Lib.hid c
      clear c hu hd hs
      go_enter Tryd.func154, Tryd.ntmps154
      go_wp2_with (first | ((with_reducible show wpList _ _ _ (⟨_, .load 79 _, _, _, _, _⟩ :: _) _ _); refine wpList_loadG rfl _ _ rfl rfl (tab_load_at _ _ _ N.n (N.f i) Hr.out) ?_) | (go_at_call 87; refine (C.out _).mono ?_; rintro e w1 ⟨rfl, hb1⟩))
      go_ret
      exact ⟨hb1, rfl⟩
  · have hf : freeB N i = false := by rw [freeB, decide_eq_false h1, Bool.false_and]
    have Hf := Lib.hid hf
    clear hat hf
    go_enter Tryd.func154, Tryd.ntmps154
    go_wp2_with fail
    go_ret
    exact ⟨Below.refl _ _, by rw [Hf.out]; rfl⟩

end Go.Proofs.YtkfagolmpbbckaaDoor
