/- The program's orbits. -/
import Derived.Test.YtkfagolmpbbckaaGreatDoorImplB
import Derived.Test.YtkfagolmpbbckaaGreatDoorP2
import Derived.Deep.RegionHeld3
namespace Go.Proofs.YtkfagolmpbbckaaGreatDoor
open Go Go.RowKit Go.Sw
set_option maxRecDepth 100000
set_option linter.unusedVariables false

/-- an array of 32 numbers -/
def icells (A : Nat → Nat) : Array Value := ((List.range 32).map fun k => Value.int .i64 ((A k : Nat) : Int)).toArray
/-- the length of a slice -/
def lenV : Value → Nat
  | .slice _ n _ => n
  | _ => 0
theorem icells_size (A : Nat → Nat) : (icells A).size = 32 := by simp [icells]
theorem icells_get (A : Nat → Nat) (k : Nat) (h : k < 32) : (icells A)[k]? = some (.int .i64 ((A k : Nat) : Int)) := by simp [icells, h]
theorem icells_set (A : Nat → Nat) (k v : Nat) (h : k < 32) : (icells A).setIfInBounds k (.int .i64 ((v : Nat) : Int)) = icells (fun j => if k = j then v else A j) := by
  apply Array.ext
  · rw [Array.size_setIfInBounds, icells_size, icells_size]
  · intro j h1 h2
    rw [icells_size] at h2
    rw [Array.getElem_setIfInBounds (by simpa using h1)]
    by_cases e : k = j
    · subst e; simp [icells]
    · rw [if_neg e]; simp [icells, e]
theorem arr_alloc (w : World) : (Instr.alloc 112 true (.tuple #[])).run Tryz.prog w = .ok (.pointer (some ⟨w.heap.size, 0, none⟩)) (w.alloc (.cells (icells fun _ => 0) 112)) := by kernel_rfl
set_option maxHeartbeats 2000000 in
theorem orbit_any (b cap s : Nat) (N : Net) (hn : N.n ≤ 5) (hs : s < pw N.n) (w : World) (hat : NetAt w b N.n N.f) (hb : b < w.heap.size) :
    Calls Tryz.prog 70 #[.slice (some ⟨b, 0, none⟩) N.n cap, .int .i64 s] w fun e w' => Below w.heap.size w w' ∧ ∃ p i a, Orb N s p i ∧ e = .returned (.tuple #[.slice a p p, .int .i64 i]) ∧ IntsAt w' w.heap.size a (nats (orbL N s p)) := by
  have Hat := Lib.hid hat
  have hpw := pw_le hn
  clear hat
  have hB1 : Below w.heap.size w (w.alloc (.cells (icells fun _ => 0) 112)) := (Below.refl _ _).alloc (Nat.le_refl _) _
  have hA0 : (w.alloc (.cells (icells fun _ => 0) 112)).heap[w.heap.size]? = some (.cells (icells (placeN N s 0)) 112 (0, 0)) := heap_alloc_last _ _
  have HA0 := Lib.hid hA0
  have h0 : iterN N 0 s = s := rfl
  clear hA0
  go_enter Tryz.func70, Tryz.ntmps70
  go_wp2_with ((with_reducible show wpList _ _ _ (⟨_, .alloc 112, _, _, _, _⟩ :: _) _ _); refine wpList_alloc' rfl _ rfl (arr_alloc _) ?_)
  go_loopw [1, 7] (fun x out wr => ∃ (k : Nat) (a : Option Addr) (c : Nat), unlikeP N s k ∧ x = .int .i64 ((iterN N k s : Nat) : Int) ∧ out = .slice a k c ∧ wr.ownsRow (w.heap.size + 1) 3 1 (.slice a k c) (nats (orbL N s k)).length (ints (nats (orbL N s k))) ∧ wr.heap[w.heap.size]? = some (.cells (icells (placeN N s k)) 112 (0, 0)) ∧ Below w.heap.size w wr) (fun _ out _ => 40 - lenV out)
  case atStart => exact ⟨0, none, 0, fun a b h1 h2 => absurd h2 (Nat.not_lt_zero _), rfl, rfl, World.ownsRow_nil _ _ _ _, HA0.out, hB1⟩
  case round =>
    obtain ⟨k, a, c, hu, rfl, rfl, hown, hA, hW⟩ := hrel
    have hk := unlike_le hs hu
    have hx := iterN_lt N k s hs
    have hWs := hW.size
    have hol : (nats (orbL N s k)).length = k := by rw [nats_length, orbL_length]
    have Hu := Lib.hid hu
    have Hown := Lib.hid hown
    have HA := Lib.hid hA
    have hcell : wr.cell? ⟨w.heap.size, iterN N k s, none⟩ = some (.int .i64 ((placeN N s k (iterN N k s) : Nat) : Int)) := by
      rw [cell_of_row wr _ _ _ _ _ hA, icells_get _ _ (by omega)]
    have hgA := block_lt hA
    have hsx := orbL_succ N s k
    have hnx := iterN_succ N k s
    have cS := step_any b cap (iterN N k s) N hn hx
    have hend := Lib.hid (fun h => orb_end (k := k) hs hn Hu.out h)
    have hunl := Lib.hid (fun h => unlike_succ (k := k) Hu.out h)
    have hplace := placeN
    have hps : ∀ y, placeN N s (k + 1) y = if iterN N k s = y then k + 1 else placeN N s k y := fun y => rfl
    clear hu hown hA hplace
    obtain ⟨x, hx0⟩ : ∃ x, iterN N k s = x := ⟨_, rfl⟩
    rw [hx0] at hx hcell hsx hnx cS hend hunl hps ⊢
    obtain ⟨z, hz0⟩ : ∃ z, placeN N s k x = z := ⟨_, rfl⟩
    rw [hz0] at hcell hend hunl
    have Hsx := Lib.hid hsx
    have Hnx := Lib.hid hnx
    have Hps := Lib.hid hps
    have CS := Lib.hid cS
    have Hz0 := Lib.hid hz0
    clear hx0 hsx hnx hps cS hz0
    by_cases hz : z = 0
    · have hzi : ((z : Int) == 0) = true := by rw [beq_iff_eq]; omega
      have hu2 := Lib.hid (hunl.out hz)
      have Hhol := Lib.hid hol
      have hol2 : (nats (orbL N s k)).length ≤ 32 := by omega
      have hfr : ∀ wx : World, wx.heap[w.heap.size]? = wr.heap[w.heap.size]? → wx.frozen? ⟨w.heap.size, x, none⟩ = false := fun wx h => frozen_of_row wx _ _ _ _ (h.trans HA.out)
      have Hfr := Lib.hid hfr
      have hneo : (Value.slice a k c).ownBlock ≠ some w.heap.size := fun e => by have := own_ge Hown.out e; omega
      clear hz hol hfr
      obtain ⟨wo, rfl⟩ : ∃ wo : World, wo = wr := ⟨_, rfl⟩
      go_wp2_with (first | ((with_reducible show wpList _ _ _ (⟨_, .buildSlice 27 1 _, _, _, _, _⟩ :: _) _ _); refine wpList_buildSlice' rfl _ _ _ rfl rfl (int_one (x : Int) _) ?_) | (at_builtin; refine wpList_int_appendK rfl _ _ rfl (w.heap.size + 1) _ (nats (orbL N s k)) rfl ((Hown.out.alloc _)) _ _ rfl (cell_new ?_) (by omega) (hW.alloc (by omega) _) ?_ ?_ ?_))
      · rfl
      · omega
      · first | omega | (simp; omega)
      · intro v' w3 hown3 hB3 hk3
        have h1 := hk3 w.heap.size (by first | omega | (simp; omega)) hneo
        have hA3 : w3.heap[w.heap.size]? = some (.cells (icells (placeN N s k)) 112 (0, 0)) := (h1.1.trans (Below.heap_alloc _ _ _ hgA)).trans HA.out
        have hown4 : w3.ownsRow (w.heap.size + 1) 3 1 v' (nats (orbL N s (k + 1))).length (ints (nats (orbL N s (k + 1)))) := by rw [Hsx.out, nats_snoc, List.length_append]; exact hown3
        obtain ⟨a', c', rfl, hc', hI'⟩ := intsAt_of_own hown4
        have hl' : (nats (orbL N s (k + 1))).length = k + 1 := by rw [nats_length, orbL_length]
        rw [hl'] at hown4 ⊢
        have Hown4 := Lib.hid hown4
        have HB3 := Lib.hid hB3
        have HA3 := Lib.hid hA3
        have hf3 : w3.frozen? ⟨w.heap.size, x, none⟩ = false := frozen_of_row w3 _ _ _ _ hA3
        have hc3 : w3.cell? ⟨w.heap.size, x, none⟩ = some (.int .i64 ((placeN N s k x : Nat) : Int)) := by
          rw [cell_of_row w3 _ _ _ _ _ hA3, icells_get _ _ (by omega)]
        have hgA3 := block_lt hA3
        have hW4 : Below w.heap.size w (w3.setCell ⟨w.heap.size, x, none⟩ (.int .i64 ((k : Int) + 1))) := hB3.setCell (Nat.le_refl _) _
        have cS4 := Lib.hid (CS.out (w3.setCell ⟨w.heap.size, x, none⟩ (.int .i64 ((k : Int) + 1))) (Hat.out.below hW4 hb) (Nat.lt_of_lt_of_le hb hW4.size))
        have HW4 := Lib.hid hW4
        clear hown3 hown4 hB3 hk3 h1 hA3 hI' hl' hW4
        go_wp2_with fail
        refine cS4.out.mono ?_
        rintro e w5 ⟨rfl, hW5⟩
        have hs4 := HW4.out.size
        go_wp2_with fail
        go_roundw
        case rel => 
          refine ⟨k + 1, a', c', hu2.out, by rw [Hnx.out], by first | rfl | go_num, ?_, ?_, HW4.out.trans (hW5.mono hs4)⟩
          · refine own_below ?_ hW5
            rw [show (nats (orbL N s (k + 1))).length = k + 1 by rw [nats_length, orbL_length]]
            exact own_same Hown4.out fun q hq => heap_setCell_other _ _ _ _ (by
              show q ≠ w.heap.size
              have := own_ge Hown4.out hq; omega)
          · refine (hW5.block _ (by simpa [World.setCell] using hgA3)).trans ?_
            rw [heap_setCell_same _ _ _ _ _ _ HA3.out]
            rw [show ((k : Int) + 1) = ((k + 1 : Nat) : Int) by omega, icells_set _ _ _ (by omega)]
            congr 2
            first | rfl | (congr 1; funext y; exact (Hps.out y).symm)
        case measure => simp [lenV] <;> omega
    · have hzi : ((z : Int) == 0) = false := by rw [beq_eq_false_iff_ne]; omega
      obtain ⟨i, hi, hO⟩ := hend.out hz
      obtain ⟨a2, c2, e2, hc2, hI⟩ := intsAt_of_own Hown.out
      have hac : a2 = a ∧ c2 = c := by
        rw [hol] at e2
        simp only [Value.slice.injEq] at e2
        exact ⟨e2.1.symm, e2.2.2.symm⟩
      obtain ⟨rfl, rfl⟩ := hac
      have hkp : 0 < k := by have := hO.lt; omega
      have HI := Lib.hid hI
      have HO := Lib.hid hO
      have hcl := Lib.hid (fun wx => clip_any a2 k c2 (fun _ => by
        obtain ⟨g, cur, t, e, _⟩ := HI.out.at' (by rw [hol]; exact hkp)
        exact ⟨g, e⟩) (by rw [← hol]; exact hc2) (by omega) wx)
      have hik := HO.out.lt
      have hzz : IntKind.i64.wrap ((z : Int) - 1) = (i : Int) := by rw [show (z : Int) - 1 = (i : Int) by omega]; exact wraps_i64 _ (by omega) (by omega)
      have hx1 : (0 : Int) ≤ (x : Int) := by omega
      have hx2 : (x : Int) < 32 := by omega
      clear hz hi hO hI e2 hunl hend
      go_wp2_with fail
      go_region_held3 (fun w' => w'.cell? ⟨w.heap.size, x, none⟩ = some (.int .i64 (z : Int)) ∧ Below wr.heap.size wr w')
        (first | exact hHeld | exact ⟨hcell, (Below.refl _ _).drew⟩ | go_keep)
        (first
          | (go_at_call 115; refine Calls.mono (hcl.out _) ?_; rintro e w' ⟨rfl, rfl⟩))
      go_wp2_with fail
      go_ret2
      exact ⟨hW.drew, k, i, a2, HO.out, rfl, (HI.out.below ((Below.refl _ _).drew)).mono (by omega)⟩
end Go.Proofs.YtkfagolmpbbckaaGreatDoor
