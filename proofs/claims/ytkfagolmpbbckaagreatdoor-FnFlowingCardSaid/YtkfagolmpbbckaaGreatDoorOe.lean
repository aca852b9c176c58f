/- The program's cycles: of a state, all of them; can a state be reached? -/
import Derived.Test.YtkfagolmpbbckaaGreatDoorOd
import Derived.Test.YtkfagolmpbbckaaGreatDoorAp
import Derived.Test.YtkfagolmpbbckaaGreatDoorImplB
namespace Go.Proofs.YtkfagolmpbbckaaGreatDoor
open Go Go.RowKit Go.Sw
set_option maxRecDepth 100000
set_option linter.unusedVariables false

/-- append of a whole slice of numbers to a row that the call owns -/
theorem wpList_nats_append {ops : Array Oper} {rest : List Oper} {o : Oper} {a : Act} {w : World} {Q : Exit → Act → World → Prop} (hgd : o.guard = none) (s x : Operand)
    (ho : o.op = .call { callee := .builtin .append, args := #[s, x], argTypes := #[27, 27] })
    (base : Nat) (v : Value) (xs : List Nat) (hs : a.eval s = v) (hown : w.ownsRow base 3 1 v (nats xs).length (ints (nats xs)))
    (g p c : Nat) (L : List Nat) (hx : a.eval x = .slice (some ⟨g, p, none⟩) L.length c) (hc : CellsO w g p L) (hl1 : xs.length ≤ 1000) (hl2 : L.length ≤ 1000) {B : Nat} {w0 : World} (hW : Below B w0 w) (hB : B ≤ base) (hB0 : base ≤ w.heap.size)
    (h : ∀ v' w', w'.ownsRow base 3 1 v' (nats (xs ++ L)).length (ints (nats (xs ++ L))) → Below B w0 w' → wpList Tryz.prog ops Q rest (a.put o.dst v') w') : wpList Tryz.prog ops Q (o :: rest) a w := by
  obtain ⟨i0, hi, hz0, hz1, hz2⟩ := info_parts int_row
  refine wpList_append_own_at w hgd s x 27 ho base 3 i0 (.int .i64 0) 1 8 Tryz.underlying27 hi hz0 hz1 hz2 rfl (by decide) v _ _ hs hown ⟨g, p, none⟩ L.length c (ints (nats L)) hx (by rw [ints_length, nats_length, Nat.mul_one])
    (fun j u hu => ?_) (fun u hu => ?_) (by rw [nats_length]; unfold maxLen; omega) (by rw [nats_length]; omega) hB0 ?_
  · have hj : j < L.length := by
      have := (List.getElem?_eq_some_iff.1 hu).1
      rwa [ints_length, nats_length] at this
    have e : (⟨g, p, none⟩ : Addr).add j = ⟨g, p + j, none⟩ := by
      rcases j with _ | j
      · simp [Addr.add]
      · unfold Addr.add; split <;> simp_all
    rw [e, hc j hj, ← hu]
    simp [ints, nats, hj]
  · obtain ⟨z, _, rfl⟩ := List.mem_map.1 hu
    rfl
  · intro v' w' h1 h2 _ _
    refine h v' w' ?_ (hW.grown h2 (by omega) fun g hg => Nat.le_trans hB (own_ge hown hg))
    have e1 : (nats (xs ++ L)).length = (nats xs).length + L.length := by rw [nats_length, nats_length, List.length_append]
    have e2 : ints (nats (xs ++ L)) = ints (nats xs) ++ ints (nats L) := by simp [ints, nats]
    rw [e1, e2]; exact h1
/-- the first k of two lists, one after the other -/
def catP (L1 L2 : List Nat) (k : Nat) : List Nat := if k = 0 then [] else if k = 1 then L1 else L1 ++ L2
def szP (a b k : Nat) : Nat := if k = 0 then 0 else if k = 1 then a else a + b
set_option maxHeartbeats 2000000 in
theorem concat_any (q g o1 c1 o2 c2 : Nat) (L1 L2 : List Nat) (h1 : 1 ≤ L1.length) (hl : L1.length + L2.length ≤ 64) (w : World)
    (hq0 : w.cell? ⟨q, 0, none⟩ = some (.slice (some ⟨g, o1, none⟩) L1.length c1)) (hq1 : w.cell? ⟨q, 1, none⟩ = some (.slice (some ⟨g, o2, none⟩) L2.length c2)) (hq : q < w.heap.size) (hg : g < w.heap.size) (H1 : CellsO w g o1 L1) (H2 : CellsO w g o2 L2) :
    Calls Tryz.prog 118 #[.slice (some ⟨q, 0, none⟩) 2 2] w fun e w' => Below w.heap.size w w' ∧ ∃ a c, e = .returned (.slice a (L1 ++ L2).length c) ∧ IntsAt w' w.heap.size a (nats (L1 ++ L2)) := by
  have cG := Lib.hid (grow_any (L1.length + L2.length) (by omega) hl w)
  have K1 := Lib.hid H1
  have K2 := Lib.hid H2
  have Hq0 := Lib.hid hq0
  have Hq1 := Lib.hid hq1
  clear H1 H2
  go_enter Tryz.func118, Tryz.ntmps118
  go_wp2_with fail
  go_loop [3, 5, 11] (fun z _ i => ∃ k : Nat, k ≤ 2 ∧ i = .int .i64 k ∧ z = .int .i64 (szP L1.length L2.length k : Nat)) (fun _ _ i => 2 - (intOf i).toNat)
  case atStart => exact ⟨0, Nat.zero_le _, rfl, rfl⟩
  case round =>
    obtain ⟨k, hk, rfl, rfl⟩ := hrel
    obtain rfl | rfl | rfl : k = 0 ∨ k = 1 ∨ k = 2 := by omega
    · simp only [szP, if_true]
      go_wp2_with fail
      go_round
      case rel => exact ⟨1, by omega, by first | rfl | go_num, by first | rfl | (simp [szP]; done)⟩
      case measure => simp [intOf] <;> omega
    · have e1 : szP L1.length L2.length 1 = L1.length := rfl
      have i0 : ¬ (((L1.length : Nat) : Int) + ((L2.length : Nat) : Int) < 0) := by omega
      rw [e1]
      go_wp2_with fail
      go_round
      case rel => exact ⟨2, by omega, by first | rfl | go_num, by first | rfl | (simp [szP]; done)⟩
      case measure => simp [intOf] <;> omega
    · have e2 : ((szP L1.length L2.length 2 : Nat) : Int) = ((L1.length + L2.length : Nat) : Int) := rfl
      rw [e2]
      clear e2
      go_wp2_with fail
      refine cG.out.mono ?_
      rintro e w1 ⟨hW1, v, rfl, hown⟩
      have hW1s := hW1.size
      have Hown := Lib.hid hown
      clear hown
      go_wp2_with fail
      go_loopw [6, 8, 27] (fun v _ i wr => ∃ k : Nat, k ≤ 2 ∧ i = .int .i64 k ∧ wr.ownsRow w.heap.size 3 1 v (nats (catP L1 L2 k)).length (ints (nats (catP L1 L2 k))) ∧ Below w.heap.size w wr) (fun _ _ i _ => 2 - (intOf i).toNat)
      case atStart => exact ⟨0, Nat.zero_le _, rfl, Hown.out, hW1⟩
      case round =>
        obtain ⟨k, hk, rfl, hown2, hW⟩ := hrel
        have Hown2 := Lib.hid hown2
        have hWs := hW.size
        have hr0 : wr.cell? ⟨q, 0, none⟩ = some (.slice (some ⟨g, o1, none⟩) L1.length c1) := (hW.cell (show q < w.heap.size from hq)).trans Hq0.out
        have hr1 : wr.cell? ⟨q, 1, none⟩ = some (.slice (some ⟨g, o2, none⟩) L2.length c2) := (hW.cell (show q < w.heap.size from hq)).trans Hq1.out
        have J1 := Lib.hid (K1.out.below hW hg)
        have J2 := Lib.hid (K2.out.below hW hg)
        clear hown2
        obtain rfl | rfl | rfl : k = 0 ∨ k = 1 ∨ k = 2 := by omega
        · go_wp2_with (at_builtin; refine wpList_nats_append rfl _ _ rfl w.heap.size _ (catP L1 L2 0) rfl Hown2.out g o1 c1 L1 rfl J1.out (Nat.zero_le _) (by omega) hW (Nat.le_refl _) hWs ?_)
          intro v' w3 hown3 hB3
          have Hown3 := Lib.hid hown3
          have HB3 := Lib.hid hB3
          clear hown3 hB3
          go_wp2_with fail
          go_roundw
          case rel => exact ⟨1, by omega, by first | rfl | go_num, Hown3.out, HB3.out⟩
          case measure => simp [intOf] <;> omega
        · go_wp2_with (at_builtin; refine wpList_nats_append rfl _ _ rfl w.heap.size _ (catP L1 L2 1) rfl Hown2.out g o2 c2 L2 rfl J2.out (show L1.length ≤ 1000 by omega) (by omega) hW (Nat.le_refl _) hWs ?_)
          intro v' w3 hown3 hB3
          have Hown3 := Lib.hid hown3
          have HB3 := Lib.hid hB3
          clear hown3 hB3
          go_wp2_with fail
          go_roundw
          case rel => exact ⟨2, by omega, by first | rfl | go_num, Hown3.out, HB3.out⟩
          case measure => simp [intOf] <;> omega
        · have Hown3 := (show wr.ownsRow w.heap.size 3 1 _ (nats (L1 ++ L2)).length (ints (nats (L1 ++ L2))) from Hown2.out)
          obtain ⟨a, cp, rfl, hcp, hI⟩ := intsAt_of_own Hown3
          have HI := Lib.hid hI
          rw [nats_length]
          clear hI Hown3 hcp
          go_wp2_with fail
          go_ret
          exact ⟨hW, a, cp, rfl, HI.out⟩
set_option maxHeartbeats 2000000 in
theorem cycle_any (b cap s : Nat) (N : Net) (hn : N.n ≤ 5) (hs : s < pw N.n) (w : World) (hat : NetAt w b N.n N.f) (hb : b < w.heap.size) :
    Calls Tryz.prog 71 #[.slice (some ⟨b, 0, none⟩) N.n cap, .int .i64 s] w fun e w' => Below w.heap.size w w' ∧ ∃ L a c, CycW N s L ∧ e = .returned (.slice a L.length c) ∧ IntsAt w' w.heap.size a (nats L) := by
  have cO := Lib.hid (orbit_any b cap s N hn hs w hat hb)
  clear hat
  go_enter Tryz.func71, Tryz.ntmps71
  go_wp2_with fail
  refine cO.out.mono ?_
  rintro e w1 ⟨hW1, p, i, a, hO, rfl, hI⟩
  have hip := hO.lt
  have hp32 := hO.le
  have hol := orbL_length N s p
  obtain ⟨g, cur, tt, rfl, hBg, hcur, hcs, hcells⟩ := hI.at' (by rw [nats_length]; omega)
  have hgl := block_lt hcur
  have hC0 : CellsO w1 g 0 (orbL N s p) := fun j hj => by
    rw [Nat.zero_add, cell_of_row w1 _ _ _ _ _ hcur, hcells j (by rw [nats_length]; exact hj)]; simp [nats]
  have hC : CellsO w1 g i (cycL N s p i) := by
    have := hC0.drop i
    rw [Nat.zero_add] at this; exact this
  have hcyc := orb_cyc hO
  have hcl : (cycL N s p i).length = p - i := by unfold cycL; rw [List.length_drop, hol]
  obtain ⟨R, hR⟩ : ∃ R, cycL N s p i = R := ⟨_, rfl⟩
  rw [hR] at hC hcyc hcl
  have HC := Lib.hid hC
  have Hcyc := Lib.hid hcyc
  have hR0 := hcyc.1
  have hR32 := hcyc.2.1
  have hW1s := hW1.size
  have q1 : (0 : Int) ≤ (i : Int) := by omega
  have q2 : (i : Int) ≤ (p : Int) := by omega
  have hpi : p - i = R.length := hcl.symm
  have hne : ¬ p = i := by omega
  have cM := Lib.hid (min_any g i R.length R hR0 (by omega) w1 HC.out)
  have hpi2 : (p : Int) - (i : Int) = (R.length : Int) := by omega
  clear hI hcells hcur hC0 hC hcyc hR hcl hO hol
  go_wp2_with fail
  refine cM.out.mono ?_
  rintro e w' ⟨⟨x, hx, rfl⟩, rfl⟩
  have cI := Lib.hid (index_any g i R.length x R hx (by omega) w1 HC.out)
  clear hx
  go_wp2_with fail
  refine cI.out.mono ?_
  rintro e w' ⟨⟨k, hk, rfl⟩, rfl⟩
  have k1 : (0 : Int) ≤ (k : Int) := by omega
  have k2 : (k : Int) ≤ (R.length : Int) := by omega
  obtain ⟨m, hm⟩ : ∃ m, R.length - k = m := ⟨_, rfl⟩
  have hne2 : ¬ R.length = k := by omega
  have hmi : (R.length : Int) - (k : Int) = (m : Int) := by omega
  have cK := Lib.hid (fun (wx : World) (hb : Below w1.heap.size w1 wx) => concat_any wx.heap.size g (i + k) m i R.length (R.drop k) (R.take k) (by rw [List.length_drop]; omega) (by rw [List.length_drop, List.length_take]; omega)
    (wx.alloc (.cells #[.slice (some ⟨g, i + k, none⟩) m m, .slice (some ⟨g, i, none⟩) k R.length] 27))
    (by rw [cell_of_row _ _ _ _ _ _ (heap_alloc_last _ _), List.length_drop, hm]; rfl) (by rw [cell_of_row _ _ _ _ _ _ (heap_alloc_last _ _), List.length_take, Nat.min_eq_left (by omega)]; rfl) (by simp) (by have := hb.size; simp; omega)
    (((HC.out.drop k).below hb hgl).below (Below.refl _ _ |>.alloc (Nat.le_refl _) _) (by have := hb.size; omega)) (((HC.out.take k).below hb hgl).below (Below.refl _ _ |>.alloc (Nat.le_refl _) _) (by have := hb.size; omega)))
  have Hcyc2 := Lib.hid (Hcyc.out.turn (k := k))
  obtain ⟨J, hJ⟩ : ∃ J, R.drop k ++ R.take k = J := ⟨_, rfl⟩
  rw [hJ] at cK Hcyc2
  clear hJ
  clear cI cM
  go_wp2_with fail
  go_region_held3 (fun w' => Below w1.heap.size w1 w')
    (first | exact hkeep | exact (Below.refl _ _).drew | exact hHeld | exact ((Below.refl _ _).drew).alloc (by simp) _ | go_keep)
    (first
      | (go_at_call 118; refine Calls.mono (cK.out _ ((Below.refl _ _).drew)) ?_; rintro e w4 ⟨hW4, a4, c4, rfl, hI4⟩; have hkeep : Below w1.heap.size w1 w4 := (((Below.refl _ _).drew).alloc (by simp) _).trans (hW4.mono (by simp))))
  go_wp2_with fail
  go_ret
  exact ⟨hW1.trans (hkeep.mono hW1s), J, a4, c4, Hcyc2.out, rfl, hI4.mono (by simp; omega)⟩
end Go.Proofs.YtkfagolmpbbckaaGreatDoor
