/- The reference's single steps, what they lead to, attractors. -/
import Derived.Test.YtcddnacbjdahbaaDoorSpecF
import Derived.Test.YtcddnacbjdahbaaDoorRs
import Derived.Test.YtcddnacbjdahbaaDoorSl
import Derived.Test.YtcddnacbjdahbaaDoorAp
namespace Go.Proofs.YtcddnacbjdahbaaDoor
open Go Go.RowKit Go.Sw
set_option maxRecDepth 100000
set_option linter.unusedVariables false

theorem wrap_two : ∀ k, k < 5 → (((2 ^ k : Nat)) : Int) = wrap64 ((2 : Int) ^ k) := fun k hk => by
  have : k = 0 ∨ k = 1 ∨ k = 2 ∨ k = 3 ∨ k = 4 := by omega
  rcases this with rfl | rfl | rfl | rfl | rfl <;> first | rfl | (simp [wrap64]; done) | (unfold wrap64; decide)
set_option maxHeartbeats 1000000 in
theorem l5Next_any (b cap s : Nat) (N : Net) (hn : N.n ≤ 5) (hs : s < pw N.n) (w : World) (hat : StrsAt w b (netTexts N)) (hb : b < w.heap.size) :
    Calls Tryd.prog 210 #[.slice (some ⟨b, 0, none⟩) N.n cap, .int .i64 s] w fun e w' => Below w.heap.size w w' ∧ ∃ a c, e = .returned (.slice a (nextL N s).length c) ∧ IntsAt w' w.heap.size a (natL (nextL N s)) := by
  have Hat := Lib.hid hat
  have hpw := pw_le hn
  clear hat
  go_enter Tryd.func210, Tryd.ntmps210
  go_wp2_with ((with_reducible show wpList _ _ _ (⟨_, .buildSlice 30 0 _, _, _, _, _⟩ :: _) _ _); refine wpList_buildSlice' rfl _ _ _ rfl rfl (int_none _) ?_)
  go_loopw [5, 6, 7] (fun out i _ wr => ∃ k : Nat, k ≤ N.n ∧ i = .int .i64 k ∧ wr.ownsRow w.heap.size 3 1 out (natL (nextTo N s k)).length (ints (natL (nextTo N s k))) ∧ Below w.heap.size w wr) (fun _ i _ _ => N.n - (intOf i).toNat)
  case atStart => exact ⟨0, Nat.zero_le _, rfl, World.ownsRow_made w #[] 0 (Nat.le_refl _) (by unfold maxLen; omega) rfl, (Below.refl _ _).alloc (Nat.le_refl _) _⟩
  case round =>
    obtain ⟨k, hk, rfl, hown, hW⟩ := hrel
    have Hown := Lib.hid hown
    have hlk := nextTo_length N s k
    have hWs := hW.size
    clear hown
    by_cases hlt : k < N.n
    · have c0 := l3Step_any b cap s (2 ^ k) N hn hs (Nat.pow_lt_pow_right (by omega) (by omega)) wr (Hat.out.below hW hb)
      rw [setStep_one N s k hlt, wrap_two k (by omega)] at c0
      have hsuc : nextTo N s (k + 1) = if setN s k (N.f k s) ≠ s then nextTo N s k ++ [setN s k (N.f k s)] else nextTo N s k := rfl
      obtain ⟨t, ht⟩ : ∃ t, setN s k (N.f k s) = t := ⟨_, rfl⟩
      rw [ht] at c0 hsuc
      obtain ⟨ps, hps⟩ : ∃ ps, nextTo N s k = ps := ⟨_, rfl⟩
      rw [hps] at hsuc Hown hlk
      have hpl : (natL ps).length ≤ 5 := by rw [natL_length]; omega
      have cO := Lib.hid c0
      clear ht hps c0
      by_cases hts : t = s
      · rw [if_neg (by simpa using hts)] at hsuc
        have Hs := Lib.hid hsuc
        have he : ((t : Int) == (s : Int)) = true := by rw [hts]; simp
        have he2 : ((t : Int) != (s : Int)) = false := by rw [hts]; simp
        clear hsuc hts
        go_wp2_with fail
        refine cO.out.mono ?_
        rintro e w2 ⟨rfl, rfl⟩
        go_wp2_with fail
        go_roundw
        case rel => exact ⟨k + 1, by omega, by go_num, by rw [Hs.out]; exact Hown.out, hW⟩
        case measure => simp [intOf] <;> omega
      · rw [if_pos hts] at hsuc
        have Hs := Lib.hid hsuc
        have he : ((t : Int) == (s : Int)) = false := by rw [beq_eq_false_iff_ne]; omega
        have he2 : ((t : Int) != (s : Int)) = true := by rw [bne_iff_ne]; omega
        clear hsuc
        go_wp2_with fail
        refine cO.out.mono ?_
        rintro e w2 ⟨rfl, rfl⟩
        go_wp2_with (first | ((with_reducible show wpList _ _ _ (⟨_, .buildSlice 30 1 _, _, _, _, _⟩ :: _) _ _); refine wpList_buildSlice' rfl _ _ _ rfl rfl (int_one (t : Int) _) ?_) | (at_builtin; refine wpList_int_append rfl _ _ rfl w.heap.size _ (natL ps) rfl ((Hown.out.alloc _)) _ _ rfl (cell_new ?_) (by omega) (hW.alloc (by omega) _) ?_ ?_ ?_))
        · rfl
        · exact Nat.le_refl _
        · first | omega | (simp; omega)
        · intro v' w4 hown4 hB4
          have hown5 : w4.ownsRow w.heap.size 3 1 v' (natL (nextTo N s (k + 1))).length (ints (natL (nextTo N s (k + 1)))) := by
            rw [Hs.out, natL_snoc, List.length_append]; exact hown4
          have Hown4 := Lib.hid hown5
          have HB4 := Lib.hid hB4
          clear hown4 hown5 hB4
          go_wp2_with fail
          go_roundw
          case rel => exact ⟨k + 1, by omega, by go_num, Hown4.out, HB4.out⟩
          case measure => simp [intOf] <;> omega
    · obtain rfl : k = N.n := by omega
      obtain ⟨a, cp, rfl, hcp, hI⟩ := intsAt_of_own Hown.out
      have HI := Lib.hid hI
      have hnl : nextTo N s N.n = nextL N s := rfl
      rw [hnl] at HI ⊢
      clear hI
      rw [natL_length]
      go_wp2_with fail
      go_ret
      exact ⟨hW, a, _, rfl, HI.out⟩
/-- block b holds n truths -/
structure BoolsAt (w : World) (b n : Nat) (S : Nat → Bool) : Prop where
  at' : ∃ cur t, w.heap[b]? = some (.cells cur t (0, 0)) ∧ cur.size = n ∧ ∀ j, j < n → cur[j]? = some (.bool (S j))
theorem BoolsAt.same {w w' : World} {b n : Nat} {S : Nat → Bool} (h : BoolsAt w b n S) (hb : w'.heap[b]? = w.heap[b]?) : BoolsAt w' b n S := by
  obtain ⟨cur, t, h1, h2⟩ := h.at'
  exact ⟨cur, t, hb.trans h1, h2⟩
theorem BoolsAt.lt {w : World} {b n : Nat} {S : Nat → Bool} (h : BoolsAt w b n S) : b < w.heap.size := by
  obtain ⟨cur, t, h1, _⟩ := h.at'
  exact block_lt h1
theorem BoolsAt.below {w w' : World} {b n : Nat} {S : Nat → Bool} (h : BoolsAt w b n S) (hb : Below w.heap.size w w') : BoolsAt w' b n S := h.same (hb.block b h.lt)
theorem BoolsAt.cell {w : World} {b n j : Nat} {S : Nat → Bool} (h : BoolsAt w b n S) (hj : j < n) : w.cell? ⟨b, j, none⟩ = some (.bool (S j)) := by
  obtain ⟨cur, t, h1, h2, h3⟩ := h.at'
  rw [cell_of_row w _ _ _ _ _ h1]
  exact h3 j hj
theorem l5Sorted_any (b c n : Nat) (p : Nat → Bool) (hn : n ≤ 32) (w : World) (hB : BoolsAt w b n p) :
    Calls Tryd.prog 190 #[.slice (some ⟨b, 0, none⟩) n c] w fun e w' => Below w.heap.size w w' ∧ ∃ a c, e = .returned (.slice a (pickL p n).length c) ∧ IntsAt w' w.heap.size a (natL (pickL p n)) := by
  have HB := Lib.hid hB
  clear hB
  go_enter Tryd.func190, Tryd.ntmps190
  go_wp2_with ((with_reducible show wpList _ _ _ (⟨_, .buildSlice 30 0 _, _, _, _, _⟩ :: _) _ _); refine wpList_buildSlice' rfl _ _ _ rfl rfl (int_none _) ?_)
  go_loopw [3, 4] (fun out i wr => ∃ m : Nat, m ≤ n ∧ i = .int .i64 m ∧ wr.ownsRow w.heap.size 3 1 out (natL (pickL p m)).length (ints (natL (pickL p m))) ∧ Below w.heap.size w wr) (fun _ i _ => n - (intOf i).toNat)
  case atStart => exact ⟨0, Nat.zero_le _, rfl, World.ownsRow_made w #[] 0 (Nat.le_refl _) (by unfold maxLen; omega) rfl, (Below.refl _ _).alloc (Nat.le_refl _) _⟩
  case round =>
    obtain ⟨m, hm, rfl, hown, hW⟩ := hrel
    have Hown := Lib.hid hown
    have hlk := pickL_length p m
    have hWs := hW.size
    clear hown
    by_cases hlt : m < n
    · have hcell := (HB.out.below hW).cell hlt
      have hsuc : pickL p (m + 1) = if p m then pickL p m ++ [m] else pickL p m := rfl
      obtain ⟨ps, hps⟩ : ∃ ps, pickL p m = ps := ⟨_, rfl⟩
      rw [hps] at hsuc Hown hlk
      have hpl : (natL ps).length ≤ 32 := by rw [natL_length]; omega
      clear hps
      cases hp : p m <;> rw [hp] at hcell hsuc
      · have Hs := Lib.hid (show pickL p (m + 1) = ps from hsuc)
        clear hsuc hp
        go_wp2_with fail
        go_roundw
        case rel => exact ⟨m + 1, by omega, by go_num, by rw [Hs.out]; exact Hown.out, hW⟩
        case measure => simp [intOf] <;> omega
      · have Hs := Lib.hid (show pickL p (m + 1) = ps ++ [m] from hsuc)
        clear hsuc hp
        go_wp2_with (first | ((with_reducible show wpList _ _ _ (⟨_, .buildSlice 30 1 _, _, _, _, _⟩ :: _) _ _); refine wpList_buildSlice' rfl _ _ _ rfl rfl (int_one (m : Int) _) ?_) | (at_builtin; refine wpList_int_append rfl _ _ rfl w.heap.size _ (natL ps) rfl ((Hown.out.alloc _)) _ _ rfl (cell_new ?_) (by omega) (hW.alloc (by omega) _) ?_ ?_ ?_))
        · rfl
        · exact Nat.le_refl _
        · first | omega | (simp; omega)
        · intro v' w4 hown4 hB4
          have hown5 : w4.ownsRow w.heap.size 3 1 v' (natL (pickL p (m + 1))).length (ints (natL (pickL p (m + 1)))) := by
            rw [Hs.out, natL_snoc, List.length_append]; exact hown4
          have Hown4 := Lib.hid hown5
          have HB4 := Lib.hid hB4
          clear hown4 hown5 hB4
          go_wp2_with fail
          go_roundw
          case rel => exact ⟨m + 1, by omega, by go_num, Hown4.out, HB4.out⟩
          case measure => simp [intOf] <;> omega
    · obtain rfl : m = n := by omega
      obtain ⟨a, cp, rfl, hcp, hI⟩ := intsAt_of_own Hown.out
      have HI := Lib.hid hI
      clear hI
      rw [natL_length]
      go_wp2_with fail
      go_ret
      exact ⟨hW, a, _, rfl, HI.out⟩
/-- the first of the queue is taken -/
theorem rinv_front {N : Net} {s t : Nat} {S : Nat → Bool} {L : List Nat} (h : RInv N s S (t :: L) none) : RInv N s S L (some (t, 0)) :=
  ⟨h.start, h.only, fun i hi => h.stack i (by simp [hi]), fun i hi hn hx => by
    by_cases e : i = t
    · subst e; exact absurd rfl (hx 0)
    · exact h.done i hi (by simp [hn, e]) (fun m => by simp), fun t' m e => by
    cases e; exact ⟨h.stack t (by simp), fun k hk hm => by omega⟩⟩
theorem isTrap_spec (t u : ByteArray) (w : World) (hs : t.size ≤ 1048576) (hu : u.size ≤ 1048576) :
    Calls Tryd.prog 70 #[.string t, .string u] w fun e w' => Below w.heap.size w w' ∧ e = .returned (.bool (termOk t u && trapP (netOf t) (ofT u))) := by
  cases hok : termOk t u
  · have c := Lib.hid (l6Term_no t u w hs hu hok)
    rw [Bool.false_and]
    clear hok
    go_enter Tryd.func70, Tryd.ntmps70
    go_wp2_with fail
    refine c.out.mono ?_
    rintro e w1 ⟨hW1, v, rfl⟩
    go_wp2_with fail
    go_ret
    exact ⟨hW1, rfl⟩
  · rw [Bool.true_and]
    have hok2 := hok
    unfold termOk at hok2
    rw [Bool.and_eq_true] at hok2
    have hn := netOf_ok hok2.1
    have hut : termT (netOf t).n (ofT u) = u := termT_of hok2.2
    have c := l6Term_yes t u w hs hu hok
    obtain ⟨p, hp0⟩ : ∃ p0, ofT u = p0 := ⟨_, rfl⟩
    rw [hp0] at hut ⊢
    rw [← hut]
    rw [← hut] at c
    obtain ⟨N, hN⟩ : ∃ N, netOf t = N := ⟨_, rfl⟩
    rw [hN] at hn c ⊢
    have C := Lib.hid c
    clear hok hok2 hut c hN hp0 hu
    go_enter Tryd.func70, Tryd.ntmps70
    go_wp2_with fail
    refine C.out.mono ?_
    rintro e w1 ⟨hW1, b, cap, rfl, hb1, hb2, hat⟩
    have C1 := Lib.hid (l6Trap_any b cap N hn.2 p w1 hat hb2)
    clear hat
    go_wp2_with fail
    refine C1.out.mono ?_
    rintro e w2 ⟨hW2, rfl⟩
    go_wp2_with fail
    go_ret
    exact ⟨hW1.trans (hW2.mono hW1.size), rfl⟩
end Go.Proofs.YtcddnacbjdahbaaDoor
