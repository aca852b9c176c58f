/- The program's influences in any number of steps. -/
import Derived.Test.YtifallippecdmaaGreatDoorImplA
import Derived.Test.YtifallippecdmaaGreatDoorP1
import Derived.Test.YtifallippecdmaaGreatDoorSl
import Derived.Deep.LoopGhost
namespace Go.Proofs.YtifallippecdmaaGreatDoor
open Go Go.RowKit Go.Sw
set_option maxRecDepth 100000
set_option linter.unusedVariables false

theorem acts_any (b cap i : Nat) (N : Net) (hn : N.n ≤ 5) (hi : i < N.n) (w : World) (hat : NetAt w b N.n N.f) (hb : b < w.heap.size) :
    Calls Tryz.prog 32 #[.slice (some ⟨b, 0, none⟩) N.n cap, .int .i64 i] w fun e w' => Below w.heap.size w w' ∧ e = .returned (.int .i64 (actsN N i)) := by
  have Hat := Lib.hid hat
  clear hat
  go_enter Tryz.func32, Tryz.ntmps32
  go_wp2_with fail
  go_loopw [5, 6, 7, 10] (fun set _ _ j wr => (∃ k : Nat, k ≤ N.n ∧ j = .int .i64 k ∧ set = .int .i64 ((ofBits k (infB N i) : Nat) : Int)) ∧ Below w.heap.size w wr) (fun _ _ _ j _ => N.n - (intOf j).toNat)
  case atStart => exact ⟨⟨0, Nat.zero_le _, rfl, rfl⟩, Below.refl _ _⟩
  case round =>
    obtain ⟨⟨k, hk, rfl, rfl⟩, hW⟩ := hrel
    by_cases hlt : k < N.n
    · have hr : wr.rangeAt b (k * 33) (tlist N.n (N.f k)) := (Hat.out.below hW hb) k hlt
      have Hr := Lib.hid hr
      clear hr
      obtain ⟨wo, rfl⟩ : ∃ wo : World, wo = wr := ⟨_, rfl⟩
      have hlt2 := ofBits_lt k (infB N i)
      have hpk := pw_le (show k ≤ 5 by omega)
      have hor := or_pow (ofBits k (infB N i)) k (by omega) (by omega)
      have h2k := pow2_le k (by omega)
      have c := fun W => sign_any N.n (N.f k) i hn hi W
      cases hu : sgU N.n (N.f k) i <;> cases hd : sgD N.n (N.f k) i
      case' false.false => have hs : sgT false false = ⟨#[48]⟩ := rfl
      case' true.false => have hs : sgT true false = ⟨#[43]⟩ := rfl
      case' false.true => have hs : sgT false true = ⟨#[45]⟩ := rfl
      case' true.true => have hs : sgT true true = ⟨#[42]⟩ := rfl
      case' false.false =>
        have hnx : ofBits (k + 1) (infB N i) = ofBits k (infB N i) := ofBits_skip (by rw [infB, hu, hd]; rfl)
      case' true.false =>
        have hnx : ofBits (k + 1) (infB N i) = ofBits k (infB N i) ||| 2 ^ k := (ofBits_or (by rw [infB, hu, hd]; rfl)).symm
      case' false.true =>
        have hnx : ofBits (k + 1) (infB N i) = ofBits k (infB N i) ||| 2 ^ k := (ofBits_or (by rw [infB, hu, hd]; rfl)).symm
      case' true.true =>
        have hnx : ofBits (k + 1) (infB N i) = ofBits k (infB N i) ||| 2 ^ k := (ofBits_or (by rw [infB, hu, hd]; rfl)).symm
      all_goals
        rw [hu, hd, hs] at c
        have C := Lib.hid c
        have Hnx := Lib.hid hnx
        clear c hd hu hs hnx
        go_wp2_with (first | ((with_reducible show wpList _ _ _ (⟨_, .alloc 54, _, _, _, _⟩ :: _) _ _); refine wpList_alloc' rfl _ rfl (tab_alloc _) ?_) | ((with_reducible show wpList _ _ _ (⟨_, .store 54 _ _, _, _, _, _⟩ :: _) _ _); refine wpList_store' rfl _ _ _ rfl rfl rfl (tab_store_new _ _ N.n _ ?_) ?_; simp) | ((with_reducible show wpList _ _ _ (⟨_, .load 54 _, _, _, _, _⟩ :: _) _ _); refine wpList_load' rfl _ _ rfl rfl (tab_load_at _ _ _ N.n (N.f k) (range_new ?_)) ?_; simp) | ((with_reducible show wpList _ _ _ (⟨_, .load 54 _, _, _, _, _⟩ :: _) _ _); refine wpList_load' rfl _ _ rfl rfl (tab_load_at _ _ _ N.n (N.f k) Hr.out) ?_) | (go_at_call 24; refine (C.out _).mono ?_; rintro e w1 ⟨rfl, hb1⟩))
        go_roundw
        case rel => exact ⟨⟨k + 1, by omega, by go_num, by rw [Hnx.out]⟩, (hW.alloc hW.size _).trans (hb1.mono (by have := hW.size; simp; omega))⟩
        case measure => simp [intOf] <;> omega
    · obtain rfl : k = N.n := by omega
      go_wp2_with fail
      go_ret
      exact ⟨hW, rfl⟩

end Go.Proofs.YtifallippecdmaaGreatDoor
