/- Walk of the law on removing a switch. -/
import Derived.Test.YtcddnacbjdahbaaDoorLawP
import Derived.Test.YtcddnacbjdahbaaDoorBn
import Derived.Test.YtcddnacbjdahbaaDoorSpecR
namespace Go.Proofs.YtcddnacbjdahbaaDoor
open Go Go.RowKit Go.Sw
set_option maxRecDepth 100000
set_option linter.unusedVariables false

theorem freeL_iff {N : Net} {k : Nat} {x : Int} : x ∈ freeL N k ↔ ∃ i : Nat, x = (i : Int) ∧ i < k ∧ freeB N i = true := by
  refine ⟨freeL_mem, ?_⟩
  rintro ⟨i, rfl, hi, hf⟩
  induction k with
  | zero => omega
  | succ k ih =>
    rw [freeL]
    by_cases e : i = k
    · subst e; rw [if_pos hf]; simp
    · split
      · exact List.mem_append_left _ (ih (by omega))
      · exact ih (by omega)
def hasI (L : List Int) (x : Int) : Nat → Bool
  | 0 => false
  | k + 1 => hasI L x k || (L.getD k 0 == x)
theorem hasI_iff (L : List Int) (x : Int) (k : Nat) (hk : k ≤ L.length) : hasI L x k = true ↔ ∃ j, ∃ h : j < L.length, j < k ∧ L[j] = x := by
  induction k with
  | zero => simp [hasI]
  | succ k ih =>
    have hlt : k < L.length := by omega
    rw [hasI, Bool.or_eq_true, ih (by omega), beq_iff_eq, List.getD_eq_getElem?_getD, List.getElem?_eq_getElem hlt]
    constructor
    · rintro (⟨j, h1, h2, h3⟩ | h)
      · exact ⟨j, h1, by omega, h3⟩
      · exact ⟨k, hlt, by omega, h⟩
    · rintro ⟨j, h1, h2, h3⟩
      by_cases e : j = k
      · subst e; exact .inr h3
      · exact .inl ⟨j, h1, by omega, h3⟩
theorem hasI_all (L : List Int) (x : Int) : hasI L x L.length = true ↔ x ∈ L := by
  rw [hasI_iff L x _ (Nat.le_refl _)]
  constructor
  · rintro ⟨j, h1, _, rfl⟩; exact List.getElem_mem h1
  · intro h
    obtain ⟨j, hj, rfl⟩ := List.getElem_of_mem h
    exact ⟨j, hj, hj, rfl⟩
theorem rem_has (t : ByteArray) (i : Int) : hasI (remL t) i (remL t).length = remB t i := by
  rw [Bool.eq_iff_iff, hasI_all]
  unfold remL remB
  cases hok : netOk t
  · rw [if_neg (by decide)]
    unfold swB
    rw [hok]; simp
  · rw [if_pos rfl, freeL_iff, Bool.and_eq_true]
    unfold swB
    rw [hok, Bool.true_and, Bool.and_eq_true, decide_eq_true_eq, decide_eq_true_eq]
    constructor
    · rintro ⟨k, rfl, hk, hf⟩
      exact ⟨by omega, by simpa using hf⟩
    · rintro ⟨h1, h2⟩
      exact ⟨i.toNat, by omega, by omega, h2⟩
theorem remB_yes {t : ByteArray} {i : Int} (h : remB t i = true) : netOk t = true ∧ ∃ i' : Nat, i = i' ∧ i' < (netOf t).n ∧ freeB (netOf t) i' = true := by
  unfold remB at h
  rw [Bool.and_eq_true] at h
  obtain ⟨k1, k2, k3⟩ := swB_yes h.1
  exact ⟨k1, i.toNat, by omega, by omega, h.2⟩
theorem stepI_nat {t : ByteArray} (h : netOk t = true) {s : Nat} (hs : s < pw (netOf t).n) : stepI t s = ((stepN (netOf t) s : Nat) : Int) := by
  have : stB t s = true := by
    unfold stB
    rw [h, Bool.true_and, decide_eq_true (by omega), decide_eq_true (by omega)]; rfl
  rw [stepI, this]; rfl
theorem restI_nat {t : ByteArray} (h : netOk t = true) {s : Nat} (hs : s < pw (netOf t).n) : restI t s = ((stepN (netOf t) s ^^^ s : Nat) : Int) := by
  have : stB t s = true := by
    unfold stB
    rw [h, Bool.true_and, decide_eq_true (by omega), decide_eq_true (by omega)]; rfl
  rw [restI, this]; rfl
theorem liftI_nat {t : ByteArray} (h : netOk t = true) {i s : Nat} (hi : i < (netOf t).n) (hf : freeB (netOf t) i = true) (hs : s < pw ((netOf t).n - 1)) : liftI t i s = ((liftN (netOf t) i s : Nat) : Int) := by
  have : liftB t i s = true := by
    unfold liftB swB
    simp only [h, Bool.true_and, Bool.and_eq_true, decide_eq_true_eq, Int.toNat_natCast]
    exact ⟨⟨by omega, by omega⟩, hf, by omega, by omega⟩
  rw [liftI, this]; rfl
theorem dropI_nat {s n i : Nat} (h2 : 2 ≤ n) (h5 : n ≤ 5) (hi : i < n) (hs : s < pw n) : dropI s n i = ((dropN s i : Nat) : Int) := by
  have : dropOk s n i = true := by
    unfold dropOk
    simp only [Bool.and_eq_true, decide_eq_true_eq, Int.toNat_natCast]
    omega
  rw [dropI, this]; rfl
/-- the text of what is left, read again -/
theorem rem_text {N : Net} {i : Nat} (h2 : 2 ≤ N.n) (h5 : N.n ≤ 5) : netOk (netText (remN N i)) = true ∧ (netOf (netText (remN N i))).eqv (remN N i) :=
  ⟨netOk_text (by show 1 ≤ N.n - 1; omega) (by show N.n - 1 ≤ 5; omega), netOf_text (by show 1 ≤ N.n - 1; omega)⟩
set_option maxHeartbeats 2000000 in
theorem law_RemoveSwitch (w : World) (a : Option Addr) (n c : Nat) (hc : c ≤ maxLen) (h : CodeAt w a n c) :
    Calls Tryd.prog 11 #[.slice a n c] w fun e w' => Below w.heap.size w w' ∧ e = .returned (.bool true) := by
  have hle := h.1
  have m0 : n ≤ 9223372036854775807 := by unfold maxLen at hc; omega
  have cD := Lib.hid (drawRemove_any a n c hc w h)
  clear h
  by_cases s0 : n ≤ 1048576
  case' neg =>
    go_enter Tryd.func11, Tryd.ntmps11
    go_wp2_with fail
    go_ret
    exact ⟨Below.refl _ _, rfl⟩
  go_enter Tryd.func11, Tryd.ntmps11
  go_wp2_with fail
  refine cD.out.mono ?_
  rintro e w1 ⟨hW1, t, i, ht, hi, rfl⟩
  have hW1s := hW1.size
  have c1 := Lib.hid (fun wx => removeSwitch_impl t i wx (by omega))
  have c2 := Lib.hid (fun wx => removeSwitch_spec t i wx (by omega))
  have c3 := Lib.hid (fun wx => removable_impl t wx (by omega))
  have c4 := Lib.hid (fun wx => removable_spec t wx (by omega))
  have hl5 := remL_length t
  have hhas := rem_has t i
  have hyes := Lib.hid (fun h : remB t i = true => remB_yes h)
  have hrt := Lib.hid (fun h : remB t i = true => show remT t i = netText (remN (netOf t) i.toNat) by rw [remT, h]; rfl)
  have e2 : (remB t i != remB t i) = false := by simp
  obtain ⟨L, hL⟩ : ∃ L, remL t = L := ⟨_, rfl⟩
  obtain ⟨rt, hrt0⟩ : ∃ x, remT t i = x := ⟨_, rfl⟩
  obtain ⟨rb, hrb⟩ : ∃ x, remB t i = x := ⟨_, rfl⟩
  rw [hL] at c3 c4 hl5 hhas
  rw [hrt0, hrb] at c1 c2
  rw [hrb] at hhas hyes hrt e2
  rw [hrt0] at hrt
  have Hhas := Lib.hid hhas
  clear hL hrt0 hrb hhas
  go_wp2_with fail
  refine (c1.out _).mono ?_
  rintro e w2 ⟨hW2, rfl⟩
  go_wp2_with fail
  refine (c2.out _).mono ?_
  rintro e w3 ⟨hW3, rfl⟩
  go_wp2_with fail
  refine (c3.out _).mono ?_
  rintro e w4 ⟨hW4, a4, cp4, rfl, hI4⟩
  have k2 := hW2.size
  have k3 := hW3.size
  have k4 := hW4.size
  have hB4 : Below w.heap.size w w4 := ((hW1.trans (hW2.mono hW1s)).trans (hW3.mono (by omega))).trans (hW4.mono (by omega))
  have HI4 := Lib.hid hI4
  clear hI4
  go_wp2_with fail
  refine (c4.out _).mono ?_
  rintro e w5 ⟨hW5, a5, cp5, rfl, hI5⟩
  have k5 := hW5.size
  have cS := Lib.hid (bnSame_any _ _ a4 a5 cp4 cp5 L w5 (HI4.out.below hW5) hI5 (by omega))
  clear hI5
  go_wp2_with fail
  refine cS.out.mono ?_
  rintro e w6 ⟨hW6, rfl⟩
  have hB6 : Below w.heap.size w w6 := (hB4.trans (hW5.mono hB4.size)).trans (hW6.mono (by omega))
  have HI6 := Lib.hid ((HI4.out.below hW5).below hW6)
  go_wp2_with fail
  go_loopw [10, 11] (fun sm j wr => ∃ k : Nat, k ≤ L.length ∧ j = .int .i64 k ∧ sm = .bool (hasI L i k) ∧ Below w6.heap.size w6 wr) (fun _ j _ => L.length - (intOf j).toNat)
  case atStart => exact ⟨0, Nat.zero_le _, rfl, rfl, Below.refl _ _⟩
  case round =>
    obtain ⟨k, hk, rfl, rfl, hW⟩ := hrel
    by_cases hlt : k < L.length
    · obtain ⟨g, cur, tt, rfl, hBg, hcur, hcs, hcells⟩ := (HI6.out.below hW).at' (by omega)
      have hcell := cell_row wr g k hcur (hcells k hlt)
      have hsuc : hasI L i (k + 1) = (hasI L i k || (L[k] == i)) := by
        rw [hasI, List.getD_eq_getElem?_getD, List.getElem?_eq_getElem hlt]; rfl
      obtain ⟨hv, hhv⟩ : ∃ v, hasI L i k = v := ⟨_, rfl⟩
      obtain ⟨x, hx⟩ : ∃ x, L[k] = x := ⟨_, rfl⟩
      rw [hhv, hx] at hsuc
      rw [hhv]
      rw [hx] at hcell
      have Hs := Lib.hid hsuc
      clear hsuc hhv hx hcells hcur
      cases hv
      all_goals
        go_wp2_with fail
        go_roundw
        case rel => exact ⟨k + 1, by omega, by go_num, by rw [Hs.out]; first | rfl | simp, hW⟩
        case measure => simp [intOf] <;> omega
    · obtain rfl : k = L.length := by omega
      rw [Hhas.out]
      cases rb
      · go_wp2_with fail
        go_ret
        exact ⟨hB6.trans (hW.mono hB6.size), rfl⟩
      · obtain ⟨hnok, i', rfl, hi', hf⟩ := hyes.out rfl
        have hrtt := hrt.out rfl
        rw [Int.toNat_natCast] at hrtt
        have hn := netOf_ok hnok
        have h2 := (free_inf hf).1
        have hB7 := hB6.trans (hW.mono hB6.size)
        obtain ⟨rk, re⟩ := rem_text (i := i') h2 hn.2
        rw [← hrtt] at rk re
        have hz := netText_size (N := remN (netOf t) i') (by show (netOf t).n - 1 ≤ 5; omega)
        rw [← hrtt] at hz
        have hre1 : (netOf rt).n = (netOf t).n - 1 := re.1
        have cz := Lib.hid (fun wx => (sizI_yes hnok) ▸ sizeOf_impl t wx (by omega))
        have cz2 := Lib.hid (fun wx => (sizI_yes rk) ▸ sizeOf_impl rt wx (by omega))
        rw [hre1] at cz2
        have cl := Lib.hid (fun (s : Nat) (hs : s < pw ((netOf t).n - 1)) wx => (liftI_nat hnok hi' hf hs) ▸ liftState_impl t i' s wx (by omega))
        have cs := Lib.hid (fun (s : Nat) (hs : s < pw ((netOf t).n - 1)) wx => (stepI_nat rk (s := s) (by rw [hre1]; exact hs)) ▸ stepAll_impl rt s wx (by omega))
        have cs2 := Lib.hid (fun (s : Nat) (hs : s < pw (netOf t).n) wx => (stepI_nat hnok (s := s) hs) ▸ stepAll_impl t s wx (by omega))
        have cd := Lib.hid (fun (s : Nat) (hs : s < pw (netOf t).n) wx => (dropI_nat h2 hn.2 hi' hs) ▸ (drop_both s (netOf t).n i' wx).1)
        have hse : ∀ s, s < pw ((netOf t).n - 1) → stepN (netOf rt) s = dropN (stepN (netOf t) (liftN (netOf t) i' s)) i' := fun s hs => by
          rw [re.step (by rw [hre1]; exact hs)]; exact remN_step hi' hs
        have Hse := Lib.hid hse
        have hpw := pw_le (n := (netOf t).n - 1) (by omega)
        have hpc := pw_cast ((netOf t).n - 1)
        have hp2 := pow2_le ((netOf t).n - 1) (by omega)
        have hll := Lib.hid (fun s (hs : s < pw ((netOf t).n - 1)) => liftN_lt (netOf t) i' s hi' hs)
        have hsl := Lib.hid (fun s => stepN_lt (netOf t) s)
        have hnc : (((netOf t).n : Nat) : Int) - 1 = (((netOf t).n - 1 : Nat) : Int) := by omega
        obtain ⟨N, hN⟩ : ∃ N, netOf t = N := ⟨_, rfl⟩
        rw [hN] at cz cz2 cl cs2 cd hpw hpc hp2 hn h2 hi' hll hsl hnc Hse cs
        obtain ⟨M, hM⟩ : ∃ M, netOf rt = M := ⟨_, rfl⟩
        rw [hM] at cs Hse
        obtain ⟨q, hq⟩ : ∃ q, N.n - 1 = q := ⟨_, rfl⟩
        rw [hq] at cz2 cl cs hpw hpc hp2 hll hnc Hse
        clear hnok hf hrtt rk re hre1 hN hM hse hi hq
        go_wp2_with fail
        refine (cz.out _).mono ?_
        rintro e w8 ⟨hW8, rfl⟩
        have hB8 := hB7.trans (hW8.mono hB7.size)
        go_wp2_with fail
        go_loopw [13, 14] (fun j _ wr => ∃ k : Nat, k ≤ pw q ∧ j = .int .i64 k ∧ Below w8.heap.size w8 wr) (fun j _ _ => pw q - (intOf j).toNat)
        case atStart => exact ⟨0, Nat.zero_le _, rfl, Below.refl _ _⟩
        case round =>
          obtain ⟨k, hk, rfl, hV⟩ := hrel
          have hVs := hV.size
          by_cases hlt : k < pw q
          · have e1 := Hse.out k hlt
            have hlk := hll.out k hlt
            have hsk := hsl.out (liftN N i' k)
            have C1 := cl.out k hlt
            have C2 := cs.out k hlt
            have C3 := cs2.out (liftN N i' k) hlk
            have C4 := cd.out (stepN N (liftN N i' k)) hsk
            rw [e1] at C2
            obtain ⟨f1, hf1⟩ : ∃ x, liftN N i' k = x := ⟨_, rfl⟩
            rw [hf1] at C1 C2 C3 C4
            obtain ⟨f2, hf2⟩ : ∃ x, stepN N f1 = x := ⟨_, rfl⟩
            rw [hf2] at C2 C3 C4
            obtain ⟨f3, hf3⟩ : ∃ x, dropN f2 i' = x := ⟨_, rfl⟩
            rw [hf3] at C2 C4
            have D1 := Lib.hid C1
            have D2 := Lib.hid C2
            have D3 := Lib.hid C3
            have D4 := Lib.hid C4
            have hne : ((f3 : Int) != (f3 : Int)) = false := by simp
            clear C1 C2 C3 C4 e1 hf1 hf2 hf3 hlk hsk
            go_wp2_with fail
            refine (D1.out _).mono ?_
            rintro e v1 ⟨hV1, rfl⟩
            go_wp2_with fail
            refine (D2.out _).mono ?_
            rintro e v2 ⟨hV2, rfl⟩
            go_wp2_with fail
            refine (D3.out _).mono ?_
            rintro e v3 ⟨hV3, rfl⟩
            go_wp2_with fail
            refine (D4.out _).mono ?_
            rintro e v4 ⟨rfl, rfl⟩
            have g1 := hV1.size
            have g2 := hV2.size
            have hV4 : Below w8.heap.size w8 v3 := ((hV.trans (hV1.mono hVs)).trans (hV2.mono (by omega))).trans (hV3.mono (by omega))
            go_wp2_with fail
            go_roundw
            case rel => exact ⟨k + 1, by omega, by go_num, hV4⟩
            case measure => simp [intOf] <;> omega
          · go_wp2_with fail
            refine (cz2.out _).mono ?_
            rintro e v1 ⟨hV1, rfl⟩
            go_wp2_with fail
            go_ret
            exact ⟨(hB8.trans (hV.mono hB8.size)).trans (hV1.mono (by have := hB8.size; omega)), by simp⟩
end Go.Proofs.YtcddnacbjdahbaaDoor
