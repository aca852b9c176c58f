/- The program's least term of given states; a step of one switch. -/
import Derived.Test.YtkfagolmpbbckaaDoorImplG
import Derived.Test.YtkfagolmpbbckaaDoorImplB
namespace Go.Proofs.YtkfagolmpbbckaaDoor
open Go Go.RowKit Go.Sw
set_option maxRecDepth 100000
set_option linter.unusedVariables false

theorem hullOf_impl (B n : Nat) (a : Option Addr) (cap : Nat) (L : List Nat) (h1 : 1 ≤ n) (hn : n ≤ 5) (hne : 0 < L.length) (hL : L.length ≤ 4000000) (hs : ∀ s ∈ L, s < pw n) (w : World) (h : IntsAt w B a (natI L)) :
    Calls Tryd.prog 51 #[.slice a L.length cap, .int .i64 n] w fun e w' => Below w.heap.size w w' ∧ e = .returned (.tuple #[.string (termT n (hullP L)), .bool true]) := by
  have hpw := pw_le hn
  have cH := Lib.hid (hull_any B n a cap L hn hne hL (fun s h => Nat.lt_of_lt_of_le (hs s h) hpw.2) w h)
  have hcells := Lib.hid (fun k (hk : k < L.length) => ints_cell h hk)
  have hsl := Lib.hid (fun k (hk : k < L.length) => hs _ (List.getElem_mem hk))
  obtain ⟨g0, hg0, hgl0, hc0⟩ := ints_cell h hne
  subst hg0
  have hpc := pw_cast n
  have hp2 := pow2_le n hn
  have i1 : ¬ ((n : Int) < 1) := by omega
  have i2 : ¬ ((5 : Int) < (n : Int)) := by omega
  have i3 : ((L.length : Int) == 0) = false := by rw [beq_eq_false_iff_ne]; omega
  clear hs h hc0
  go_enter Tryd.func51, Tryd.ntmps51
  go_wp2_with fail
  go_loopw [7, 21] (fun _ j wr => ∃ k : Nat, k ≤ L.length ∧ j = .int .i64 k ∧ wr = w) (fun _ j _ => L.length - (intOf j).toNat)
  case atStart => exact ⟨0, Nat.zero_le _, rfl, rfl⟩
  case round =>
    obtain ⟨k, hk, rfl, rfl⟩ := hrel
    by_cases hlt : k < L.length
    · obtain ⟨g, hg, hgl, hc⟩ := hcells.out k hlt
      have hx := hsl.out k hlt
      obtain rfl : g0 = g := by simpa using hg
      obtain ⟨x, hx0⟩ : ∃ x, L[k] = x := ⟨_, rfl⟩
      rw [hx0] at hc hx
      have hlk : (k : Int) < (L.length : Int) := by omega
      have hx1 : (0 : Int) ≤ (x : Int) := by omega
      have hx2 : (x : Int) < 2 ^ n := by omega
      clear hx0 hg
      go_wp2_with fail
      go_roundw
      case rel => exact ⟨k + 1, by omega, by go_num, by first | rfl | trivial⟩
      case measure => simp [intOf] <;> omega
    · go_wp2_with fail
      refine cH.out.mono ?_
      rintro e w1 ⟨hW1, rfl⟩
      go_wp2_with fail
      go_ret2
      exact ⟨hW1, rfl⟩
theorem one_at (w : World) (x : Int) : IntsAt (w.alloc (.cells #[.int .i64 x] 3)) w.heap.size (some ⟨w.heap.size, 0, none⟩) [x] :=
  ⟨fun _ => ⟨w.heap.size, _, _, rfl, Nat.le_refl _, heap_alloc_new w _, by simp, fun j h => by
    have : j = 0 := by simpa using h
    subst this; rfl⟩⟩
theorem hull1_impl (n x : Nat) (h1 : 1 ≤ n) (hn : n ≤ 5) (hx : x < pw n) (w : World) :
    Calls Tryd.prog 51 #[.slice (some ⟨w.heap.size, 0, none⟩) 1 1, .int .i64 n] (w.alloc (.cells #[.int .i64 x] 3)) fun e w' => Below w.heap.size w w' ∧ e = .returned (.tuple #[.string (termT n (hullP [x])), .bool true]) := by
  refine (hullOf_impl w.heap.size n _ 1 [x] h1 hn (by simp) (by simp) (fun s h => by rw [List.mem_singleton.1 h]; exact hx) _ (one_at w x)).mono ?_
  rintro e w' ⟨h1, h2⟩
  refine ⟨((Below.refl w.heap.size w).alloc (Nat.le_refl _) _).trans (h1.mono (by simp)), h2⟩
end Go.Proofs.YtkfagolmpbbckaaDoor
