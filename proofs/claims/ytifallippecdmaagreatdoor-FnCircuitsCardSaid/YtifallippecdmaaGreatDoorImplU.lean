/- The program's turned networks; which switches to turn. -/
import Derived.Test.YtifallippecdmaaGreatDoorImplT
namespace Go.Proofs.YtifallippecdmaaGreatDoor
open Go Go.RowKit Go.Sw
set_option maxRecDepth 100000
set_option linter.unusedVariables false

theorem turned_any (b cap set : Nat) (N : Net) (h1 : 1 ≤ N.n) (hn : N.n ≤ 5) (hset : set < pw N.n) (w : World) (hat : NetAt w b N.n N.f) (hb : b < w.heap.size) :
    Calls Tryz.prog 22 #[.slice (some ⟨b, 0, none⟩) N.n cap, .int .i64 set] w fun e w' => Below w.heap.size w w' ∧
      ∃ b' c', e = .returned (.slice (some ⟨b', 0, none⟩) N.n c') ∧ w.heap.size ≤ b' ∧ b' < w'.heap.size ∧ NetAt w' b' N.n (stepF N.n fun s => stepN N (s ^^^ set) ^^^ set) := by
  have hp := pw_le hn
  have C := Lib.hid (fun (W : World) (hW : Below w.heap.size w W) (hsz : w.heap.size + 1 < W.heap.size) (c1 : W.cell? ⟨w.heap.size, 0, none⟩ = some (.slice (some ⟨b, 0, none⟩) N.n cap)) (c2 : W.cell? ⟨w.heap.size + 1, 0, none⟩ = some (.int .i64 set)) =>
    fromStep_any N.n h1 hn 42 #[.pointer (some ⟨w.heap.size, 0, none⟩), .pointer (some ⟨w.heap.size + 1, 0, none⟩)] (fun s => stepN N (s ^^^ set) ^^^ set)
      (fun s hs => by have := xor_lt (stepN_lt N (s ^^^ set)) hset; omega) W (enters_fn Tryz.func42 (by kernel_rfl) rfl)
      (fun s wx hs hx => (turned1_any s set b cap w.heap.size (w.heap.size + 1) N hn hs hset wx ((hat.below hW hb).below hx (by omega)) (by have := hx.size; omega)
        (by rw [hx.cell (by show w.heap.size < W.heap.size; omega)]; exact c1) (by rw [hx.cell (by show w.heap.size + 1 < W.heap.size; omega)]; exact c2) (by have := hx.size; omega) (by have := hx.size; omega)).mono fun e w' h => h))
  clear hat
  go_enter Tryz.func22, Tryz.ntmps22
  go_wp2_with fail
  refine (C.out _ ?_ ?_ ?_ ?_).mono ?_
  · exact ((Below.refl _ _).alloc (Nat.le_refl _) _).alloc (by simp) _
  · simp
  · rw [cell_of_row _ _ _ _ _ _ (heap_alloc2_old _ _ _)]; rfl
  · exact cell_new (by simp)
  rintro e w1 ⟨hW1, b', c', rfl, hb1, hb2, hat⟩
  have Hat := Lib.hid hat
  have hsz : w.heap.size ≤ b' := by simp at hb1; omega
  have hB : Below w.heap.size w w1 := (((Below.refl _ _).alloc (Nat.le_refl _) _).alloc (by simp) _).trans (hW1.mono (by simp; omega))
  clear hat
  go_wp2_with fail
  go_ret
  exact ⟨hB, b', c', rfl, hsz, hb2, Hat.out⟩

end Go.Proofs.YtifallippecdmaaGreatDoor
