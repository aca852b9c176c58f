/- The program's circuits, all; flowing networks. -/
import Derived.Test.YtkfagolmpbbckaaGreatDoorImplH
namespace Go.Proofs.YtkfagolmpbbckaaGreatDoor
open Go Go.RowKit Go.Sw
set_option maxRecDepth 100000
set_option linter.unusedVariables false

/-- the circuits told so far -/
def circP (N : Net) (k : Nat) : List (List Nat) := subL (fun i => walkL N N.n [i]) (fun _ => true) k
theorem circP_zero (N : Net) : circP N 0 = [] := rfl
theorem circP_succ (N : Net) (k : Nat) : circP N (k + 1) = circP N k ++ walkL N N.n [k] := by unfold circP; rw [subL, if_pos rfl]
theorem circP_all (N : Net) : circP N N.n = circL N := rfl
theorem circP_length {N : Net} (hn : N.n ≤ 5) (k : Nat) : (circP N k).length ≤ k * 6 ^ N.n := subL_length fun _ _ => walkL_length hn _ _
theorem Kp.below {w w' : World} {B bo : Nat} {v v' : Value} (h : Kp w w' bo v v') (h1 : B ≤ w.heap.size) (h2 : B ≤ bo) (h3 : ∀ q, v.ownBlock = some q → B ≤ q) : Below B w w' :=
  ⟨h.os, h.tape, h.output, h.size, fun k hk => h.block k (by omega) (by omega) fun e => by have := h3 k e; omega⟩
@[go_sem] theorem run_store_func (P : Program) (w : World) (a : Addr) (m : Mode) (f : Fn) (t c : Array Value) : (store a (.func f t c) m).run P w = stored P w a (.func f t c) m := run_store P w a _ m rfl
/-- circuits lie in a slice -/
def CircsAt (w : World) (N : Net) (v : Value) (cs : List (List Nat)) : Prop := ∃ base xs, w.ownsRow base 53 3 v cs.length xs ∧ ∀ j (h : j < cs.length), ∃ g c, (∀ m, m < 3 → xs[j * 3 + m]? = (circCells N cs[j] g c)[m]?) ∧ RowAt w g cs[j]

set_option maxHeartbeats 2000000 in
theorem circuits_any (bn cn : Nat) (N : Net) (hn : N.n ≤ 5) (w : World) (hat : NetAt w bn N.n N.f) (hb : bn < w.heap.size) :
    Calls Tryz.prog 37 #[.slice (some ⟨bn, 0, none⟩) N.n cn] w fun e w' => Below w.heap.size w w' ∧ ∃ v, e = .returned v ∧ CircsAt w' N v (circL N) := by
  have Hat := Lib.hid hat
  obtain ⟨W3, hW3⟩ : ∃ W3, ((w.alloc (.cells #[.slice (some ⟨bn, 0, none⟩) N.n cn] 47)).alloc (.cells #[.slice none 0 0] 51)).alloc (.cells #[.nilFunc] 90) = W3 := ⟨_, rfl⟩
  have hs3 : W3.heap.size = w.heap.size + 3 := by rw [← hW3]; simp
  have hB3 : Below w.heap.size w W3 := by
    rw [← hW3]
    exact (((Below.refl _ _).alloc (Nat.le_refl _) _).alloc (by simp) _).alloc (by simp; omega) _
  have hb0 : W3.heap[w.heap.size]? = some (.cells #[.slice (some ⟨bn, 0, none⟩) N.n cn] 47 (0, 0)) := by
    rw [← hW3, Below.heap_alloc _ _ _ (by simp; omega), Below.heap_alloc _ _ _ (by simp)]; exact heap_alloc_new w _
  have hb1 : W3.heap[w.heap.size + 1]? = some (.cells #[.slice none 0 0] 51 (0, 0)) := by
    rw [← hW3, Below.heap_alloc _ _ _ (by simp)]
    have := heap_alloc_new (w.alloc (.cells #[.slice (some ⟨bn, 0, none⟩) N.n cn] 47)) (.cells #[.slice none 0 0] 51)
    simpa using this
  have hb2 : W3.heap[w.heap.size + 2]? = some (.cells #[.nilFunc] 90 (0, 0)) := by
    rw [← hW3]
    have := heap_alloc_new ((w.alloc (.cells #[.slice (some ⟨bn, 0, none⟩) N.n cn] 47)).alloc (.cells #[.slice none 0 0] 51)) (.cells #[.nilFunc] 90)
    simpa using this
  have hc2 : W3.cell? ⟨w.heap.size + 1 + 1, 0, none⟩ = some .nilFunc := by rw [cell_of_row W3 _ _ _ _ _ hb2]; rfl
  have hf2 : W3.frozen? ⟨w.heap.size + 1 + 1, 0, none⟩ = false := free_of_one hb2
  obtain ⟨W4, hW4⟩ : ∃ W4, W3.setCell ⟨w.heap.size + 1 + 1, 0, none⟩ (.func (.func 81) #[] #[.pointer (some ⟨w.heap.size, 0, none⟩), .pointer (some ⟨w.heap.size + 1, 0, none⟩), .pointer (some ⟨w.heap.size + 1 + 1, 0, none⟩)]) = W4 := ⟨_, rfl⟩
  have hs4 : W4.heap.size = w.heap.size + 3 := by rw [← hW4]; simpa using hs3
  have ho4 : ∀ k, k ≠ w.heap.size + 2 → W4.heap[k]? = W3.heap[k]? := fun k hk => by rw [← hW4]; exact heap_setCell_other _ _ _ _ hk
  have hB4 : Below w.heap.size w W4 := ⟨by rw [← hW4]; exact hB3.os, by rw [← hW4]; exact hB3.tape, by rw [← hW4]; exact hB3.output, by omega, fun k hk => (ho4 k (by omega)).trans (hB3.block k hk)⟩
  have hv2 : W4.heap[w.heap.size + 2]? = some (.cells #[.func (.func 81) #[] #[.pointer (some ⟨w.heap.size, 0, none⟩), .pointer (some ⟨w.heap.size + 1, 0, none⟩), .pointer (some ⟨w.heap.size + 1 + 1, 0, none⟩)]] 90 (0, 0)) := by
    rw [← hW4, heap_setCell_same _ _ _ _ _ _ hb2]; rfl
  have hE4 : EnvW W4 N (w.heap.size + 3) w.heap.size (w.heap.size + 1) (w.heap.size + 1 + 1) bn cn :=
    ⟨by rw [cell_of_row W4 _ _ _ _ _ ((ho4 _ (by omega)).trans hb0)]; rfl, by rw [cell_of_row W4 _ _ _ _ _ hv2]; rfl, hat.below hB4 hb, by omega⟩
  have hO4 : OutAt W4 N (w.heap.size + 3) (w.heap.size + 1) (.slice none 0 0) [] := ⟨(ho4 _ (by omega)).trans hb1, ⟨[], World.ownsRow_nil _ _ _ _, fun j hj => by simp at hj⟩, by omega⟩
  have HE4 := Lib.hid hE4
  have HO4 := Lib.hid hO4
  have HB4 := Lib.hid hB4
  clear hat hb0 hb1 hb2 hB3 hE4 hO4 hB4 ho4 hv2
  have hnet4 : W4.cell? ⟨w.heap.size, 0, none⟩ = some (.slice (some ⟨bn, 0, none⟩) N.n cn) := HE4.out.net
  have hpow : 6 ^ N.n ≤ 6 ^ 5 := Nat.pow_le_pow_right (by omega) hn
  go_enter Tryz.func37, Tryz.ntmps37
  go_wp2_with (first | rw [hW3] | rw [hW4])
  go_loopw [5, 9] (fun _ j wr => ∃ (k : Nat) (vk : Value), k ≤ N.n ∧ j = .int .i64 k ∧ OutAt wr N (w.heap.size + 3) (w.heap.size + 1) vk (circP N k) ∧ Kp W4 wr (w.heap.size + 1) (.slice none 0 0) vk) (fun _ j _ => N.n - (intOf j).toNat)
  case atStart => exact ⟨0, .slice none 0 0, Nat.zero_le _, rfl, by rw [circP_zero]; exact HO4.out, Kp.of_below (Below.refl _ _)⟩
  case round =>
    obtain ⟨k, vk, hk, rfl, hO, hK⟩ := hrel
    have hE := HE4.out.kp hK (fun q hq => by cases hq)
    have hfn := hE.fn
    have hvk : ∀ q, vk.ownBlock = some q → w.heap.size + 3 ≤ q ∧ q < wr.heap.size := fun q hq => by obtain ⟨xs, h, _⟩ := hO.row; exact ⟨own_ge h hq, own_lt' h hq⟩
    have hsz := hK.size
    have hvar := hO.var
    have hco : wr.cell? ⟨w.heap.size + 1, 0, none⟩ = some vk := by rw [cell_of_row wr _ _ _ _ _ hvar]; rfl
    have HO := Lib.hid hO
    have HK := Lib.hid hK
    have HE := Lib.hid hE
    have Hvk := Lib.hid hvk
    clear hvk hvar
    by_cases hlt : k < N.n
    · have hkn : (k : Int) < (N.n : Int) := by omega
      have hw2 : IntKind.i64.wrap (2 ^ k) = ((2 ^ k : Nat) : Int) := by
        have := pow2_le k (by omega)
        rw [IntWalk.i64_in _ (by omega), pow_cast]
      have hcall : ∀ w6 : World, Below wr.heap.size wr w6 → RowAt w6 wr.heap.size [k] →
          Calls Tryz.prog 81 #[.slice (some ⟨wr.heap.size, 0, none⟩) 1 1, .int .i64 (2 ^ k : Nat), .pointer (some ⟨w.heap.size, 0, none⟩), .pointer (some ⟨w.heap.size + 1, 0, none⟩), .pointer (some ⟨w.heap.size + 1 + 1, 0, none⟩)] w6 fun e w7 =>
            e = .returned (.tuple #[]) ∧ w7.cell? ⟨w.heap.size + 1 + 1, 0, none⟩ = some (.func (.func 81) #[] #[.pointer (some ⟨w.heap.size, 0, none⟩), .pointer (some ⟨w.heap.size + 1, 0, none⟩), .pointer (some ⟨w.heap.size + 1 + 1, 0, none⟩)]) ∧ ∃ v7, OutAt w7 N (w.heap.size + 3) (w.heap.size + 1) v7 (circP N (k + 1)) ∧ Kp W4 w7 (w.heap.size + 1) (.slice none 0 0) v7 := by
        intro w6 hB6 hR6
        have hset : setL [k] = 2 ^ k := by simp [setL]
        have hlen1 : [k].length = 1 := rfl
        have hK6 : Kp wr w6 (w.heap.size + 1) vk vk := Kp.of_below hB6
        have hE6 := HE.out.kp hK6 fun q hq => (Hvk.out q hq).1
        have hl := circP_length hn k
        have hl2 : k * 6 ^ N.n ≤ 4 * 6 ^ 5 := Nat.mul_le_mul (by omega) hpow
        have c := walk_any N hn (w.heap.size + 3) w.heap.size (w.heap.size + 1) (w.heap.size + 1 + 1) bn cn N.n [k] wr.heap.size 1 vk (circP N k) w6 (WayOk.one hlt) (stepsOk.one N k) (by simp; omega) (by omega) hE6 hR6 (by omega) (fun e => by have := (Hvk.out _ e).2; omega) (HO.out.below hB6)
        rw [hset, hlen1] at c
        refine c.mono ?_
        rintro e w7 ⟨he, v7, hO7, hK7⟩
        have hE7 := hE6.kp hK7 fun q hq => (Hvk.out q hq).1
        exact ⟨he, hE7.fn, v7, by rw [circP_succ]; exact hO7, HK.out.trans (hK6.trans hK7)⟩
      have hal : Below wr.heap.size wr (wr.alloc (.cells #[.int .i64 (k : Nat)] 3)).drew := ((Below.refl _ _).alloc (Nat.le_refl _) _).drew
      have hral : RowAt (wr.alloc (.cells #[.int .i64 (k : Nat)] 3)).drew wr.heap.size [k] := ⟨by simp, fun j hj => by
        obtain rfl : j = 0 := by simpa using hj
        have := cell_of_row (wr.alloc (.cells #[.int .i64 (k : Nat)] 3)).drew _ 0 _ _ _ (heap_alloc_new wr (.cells #[.int .i64 (k : Nat)] 3))
        rw [this]; rfl⟩
      have Hcall := Lib.hid (hcall _ hal hral)
      clear hcall hal hral hO hK hE
      go_wp2_with fail
      go_region_held3 (fun w' => w'.cell? ⟨w.heap.size + 1 + 1, 0, none⟩ = some (.func (.func 81) #[] #[.pointer (some ⟨w.heap.size, 0, none⟩), .pointer (some ⟨w.heap.size + 1, 0, none⟩), .pointer (some ⟨w.heap.size + 1 + 1, 0, none⟩)]))
        (first | with_reducible exact hkeep7 | with_reducible exact hfn | exact cell_alloc_keep (w := wr) hfn | go_keep)
        (first
          | (go_at_call 81
             refine Calls.mono Hcall.out ?_
             rintro e w7 ⟨rfl, hkeep7, hfin⟩))
      go_wp2_with fail
      go_roundw
      case rel => exact ⟨k + 1, hfin.choose, by omega, by go_num, hfin.choose_spec.1, hfin.choose_spec.2⟩
      case measure => simp [intOf] <;> omega
    · obtain rfl : k = N.n := by omega
      clear hO hK hE
      go_wp2_with fail
      go_ret
      obtain ⟨xs, hx, hj⟩ := HO.out.row
      exact ⟨HB4.out.trans (HK.out.below (by omega) (by omega) fun q hq => by cases hq), vk, rfl, _, xs, hx, fun j h => by
        obtain ⟨g, c, a1, a2, _⟩ := hj j h
        exact ⟨g, c, a1, a2⟩⟩
end Go.Proofs.YtkfagolmpbbckaaGreatDoor
