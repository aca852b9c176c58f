/- The program's terms: which texts are, their states, traps, the least term of some states. -/
import Derived.Test.YtkfagolmpbbckaaGreatDoorImplA
import Derived.Test.YtkfagolmpbbckaaGreatDoorP1
import Derived.Test.YtkfagolmpbbckaaGreatDoorSl
import Derived.Deep.QuietTactic
import Derived.BigQuiet
import Derived.Laws.BytesArg
import Derived.OwnWalk
namespace Go.Proofs.YtkfagolmpbbckaaGreatDoor
open Go Go.RowKit Go.Sw
set_option maxRecDepth 100000
set_option linter.unusedVariables false

theorem letter_no (v : UInt8) (h : isLetter v = false) : ((v.toNat : Int) != 48) = true ∧ ((v.toNat : Int) != 49) = true ∧ ((v.toNat : Int) != 42) = true := by
  simp only [isLetter, Bool.or_eq_false_iff, beq_eq_false_iff_ne, ne_eq, ← UInt8.toNat_inj] at h
  simp only [bne_iff_ne, ne_eq]
  have h48 : (48 : UInt8).toNat = 48 := rfl
  have h49 : (49 : UInt8).toNat = 49 := rfl
  have h42 : (42 : UInt8).toNat = 42 := rfl
  exact ⟨fun e => h.2.1 (by omega), fun e => h.2.2 (by omega), fun e => h.1 (by omega)⟩
theorem letter_yes (v : UInt8) (h : isLetter v = true) : ((v.toNat : Int) != 48) = false ∨ (((v.toNat : Int) != 48) = true ∧ ((v.toNat : Int) != 49) = false) ∨ (((v.toNat : Int) != 48) = true ∧ ((v.toNat : Int) != 49) = true ∧ ((v.toNat : Int) != 42) = false) := by
  simp only [isLetter, Bool.or_eq_true, beq_iff_eq] at h
  rcases h with rfl | rfl | rfl
  · exact .inr (.inr ⟨rfl, rfl, rfl⟩)
  · exact .inl rfl
  · exact .inr (.inl ⟨rfl, rfl⟩)
theorem termB_bad {t : ByteArray} {n j : Nat} (h : j < t.size) (hb : isLetter t[j] = false) : termB t n = false := by
  unfold termB
  rw [Bool.and_eq_false_iff]
  refine .inr (List.all_eq_false.2 ⟨_, List.getElem_mem (by simpa using h), ?_⟩)
  rw [Sw.byte_at t j h, hb]; decide
theorem termB_good {t : ByteArray} {n : Nat} (hn : t.size = n) (h : ∀ j (hj : j < t.size), isLetter t[j] = true) : termB t n = true := by
  unfold termB
  rw [decide_eq_true hn, Bool.true_and, List.all_eq_true]
  intro v hv
  obtain ⟨j, hj, rfl⟩ := List.getElem_of_mem hv
  have hj' : j < t.size := by simpa using hj
  rw [Sw.byte_at t j hj']; exact h j hj'

theorem termValid_any (t : ByteArray) (n : Nat) (h1 : 1 ≤ n) (hn : n ≤ 5) (ht : t.size ≤ 1048576) (w : World) :
    Calls Tryz.prog 113 #[.string t, .int .i64 n] w fun e w' => w = w' ∧ e = .returned (.bool (termB t n)) := by
  by_cases hsz : t.size = n
  · have hr : ∀ b, termB t n = b → True := fun _ _ => trivial
    clear hr
    go_enter Tryz.func113, Tryz.ntmps113
    have hne : ((t.size : Int) != (n : Int)) = false := by rw [hsz]; simp
    have Hsz := Lib.hid hsz
    have hszl : n ≤ t.size := by omega
    clear hsz
    go_wp2_with fail
    go_loop [5, 19] (fun _ j => ∃ k : Nat, k ≤ n ∧ j = .int .i64 k ∧ ∀ i (hi : i < t.size), i < k → isLetter t[i] = true) (fun _ j => n - (intOf j).toNat)
    case atStart => exact ⟨0, Nat.zero_le _, rfl, fun i hi h => absurd h (Nat.not_lt_zero _)⟩
    case round =>
      obtain ⟨k, hk, rfl, hall⟩ := hrel
      have Hall := Lib.hid hall
      clear hall
      by_cases hlt : k < n
      · have hlt2 : k < t.size := by omega
        obtain ⟨v, hv⟩ : ∃ v, t[k] = v := ⟨_, rfl⟩
        cases hl : isLetter v
        · obtain ⟨e1, e2, e3⟩ := letter_no v hl
          have hbad : termB t n = false := termB_bad hlt2 (by rw [hv]; exact hl)
          have Hbad := Lib.hid hbad
          clear hbad hl
          go_wp2_with fail
          go_ret
          exact ⟨rfl, by rw [Hbad.out]; rfl⟩
        · have hall' : ∀ i (hi : i < t.size), i < k + 1 → isLetter t[i] = true := fun i hi h => by
            by_cases e : i = k
            · subst e; rw [hv]; exact hl
            · exact Hall.out i hi (by omega)
          have Hall' := Lib.hid hall'
          clear hall'
          rcases letter_yes v hl with e1 | ⟨e1, e2⟩ | ⟨e1, e2, e3⟩
          all_goals
            clear hl
            go_wp2_with fail
            go_round
            case rel => exact ⟨k + 1, by omega, by go_num, Hall'.out⟩
            case measure => simp [intOf] <;> omega
      · obtain rfl : k = n := by omega
        have hok : termB t k = true := termB_good Hsz.out fun j hj => Hall.out j hj (by have := Hsz.out; omega)
        have Hok := Lib.hid hok
        clear hok
        go_wp2_with fail
        go_ret
        exact ⟨rfl, by rw [Hok.out]; rfl⟩
  · have hbad : termB t n = false := by unfold termB; rw [decide_eq_false hsz, Bool.false_and]
    have Hbad := Lib.hid hbad
    have hne : ((t.size : Int) != (n : Int)) = true := by rw [bne_iff_ne]; omega
    clear hbad hsz
    go_enter Tryz.func113, Tryz.ntmps113
    go_wp2_with fail
    go_ret
    exact ⟨rfl, by rw [Hbad.out]; rfl⟩

theorem hasState_any (n s : Nat) (p : Trm) (hn : n ≤ 5) (hs : s < 32) (w : World) :
    Calls Tryz.prog 143 #[.string (termT n p), .int .i64 s] w fun e w' => Below w.heap.size w w' ∧ e = .returned (.bool (hasP n p s)) := by
  obtain ⟨t, ht⟩ : ∃ t, termT n p = t := ⟨_, rfl⟩
  have hsz : t.size = n := by rw [← ht]; exact termT_size n p
  have hget : ∀ k (h : k < t.size), t[k] = letterT (p k) := fun k h => by subst ht; exact termT_get n p k (by omega)
  have hr : hasP n p s = hasTo p s n := rfl
  have Hr := Lib.hid hr
  rw [ht]
  have Hget := Lib.hid hget
  have Hsz := Lib.hid hsz
  have hs1 : t.size ≤ n := by omega
  have hs2 : n ≤ t.size := by omega
  clear ht hsz hget hr
  go_enter Tryz.func143, Tryz.ntmps143
  go_wp2_with fail
  go_loopw [5] (fun j wr => (∃ k : Nat, k ≤ n ∧ j = .int .i64 k ∧ hasTo p s k = true) ∧ ∃ nq, wr = w.drewN nq) (fun j _ => n - (intOf j).toNat)
  case atStart => exact ⟨⟨0, Nat.zero_le _, rfl, rfl⟩, 0, rfl⟩
  case round =>
    obtain ⟨⟨k, hk, rfl, hto⟩, nq0, rfl⟩ := hrel
    have Hto := Lib.hid hto
    clear hto
    by_cases hlt : k < n
    · have hlt2 : k < t.size := by omega
      have hv := Hget.out k hlt2
      have hnx : hasTo p s (k + 1) = (hasTo p s k && fitB (p k) (s.testBit k)) := rfl
      rw [Hto.out, Bool.true_and] at hnx
      have hbt := bit_test s k
      have q0 : IntKind.u8.wrap 0 = 0 := rfl
      have q1 : IntKind.u8.wrap 1 = 1 := rfl
      have q2 : IntKind.i64.wrap 0 = 0 := rfl
      have q3 : IntKind.i64.wrap 1 = 1 := rfl
      cases hp : p k with
      | none =>
        rw [hp] at hv hnx
        have hv2 : ((t[k].toNat : Int) != 42) = false := by rw [hv]; rfl
        have Hnx := Lib.hid hnx
        clear hv hnx hp
        go_wp2_with fail
        go_quiet (fail)
        go_wp2_with fail
        first
          | (go_roundw
             case rel => exact ⟨⟨k + 1, by omega, by go_num, Hnx.out⟩, _, rfl⟩
             case measure => simp [intOf] <;> omega)
          | exact ⟨⟨⟨k + 1, by omega, by go_num, Hnx.out⟩, _, rfl⟩, by simp [intOf] <;> omega⟩
      | some c =>
        rw [hp] at hv hnx
        have hsb := hasP_bad (n := n) (p := p) (s := s) (i := k) hlt
        rw [hp] at hsb
        cases c <;> cases hb : s.testBit k <;> rw [hb] at hbt hnx hsb
        all_goals
          simp only [letterT, Bool.toNat_true, Bool.toNat_false, Int.natCast_zero, Int.natCast_one] at hv hbt
          have hv2 : (t[k].toNat : Int) = _ := congrArg (fun x : UInt8 => (x.toNat : Int)) hv
          simp only [show ((48 : UInt8).toNat : Int) = 48 from rfl, show ((49 : UInt8).toNat : Int) = 49 from rfl] at hv2
          have Hnx := Lib.hid hnx
          have Hsb := Lib.hid hsb
          clear hv hnx hp hsb hb
          go_wp2_with fail
          go_quiet (fail)
          go_wp2_with fail
          first
            | (go_ret; exact ⟨below_drewN (below_drewN (Below.refl _ _) _) _, by rw [Hsb.out rfl]; rfl⟩)
            | (go_roundw
               case rel => exact ⟨⟨k + 1, by omega, by go_num, by rw [Hnx.out]; rfl⟩, _, rfl⟩
               case measure => simp [intOf] <;> omega)
            | exact ⟨⟨⟨k + 1, by omega, by go_num, by rw [Hnx.out]; rfl⟩, _, rfl⟩, by simp [intOf] <;> omega⟩
    · obtain rfl : k = n := by omega
      go_wp2_with fail
      go_ret
      exact ⟨below_drewN (Below.refl _ _) _, by rw [Hr.out, Hto.out]; rfl⟩

/-- numbers as Go's -/
def natI (l : List Nat) : List Int := l.map Int.ofNat
theorem natI_length (l : List Nat) : (natI l).length = l.length := by simp [natI]
theorem natI_snoc (l : List Nat) (s : Nat) : natI (l ++ [s]) = natI l ++ [(s : Int)] := by simp [natI]
theorem natI_get (l : List Nat) (j : Nat) (h : j < l.length) : (natI l)[j]'(by rw [natI_length]; exact h) = ((l[j] : Nat) : Int) := by simp [natI]

theorem statesOf_any (n : Nat) (p : Trm) (hn : n ≤ 5) (w : World) :
    Calls Tryz.prog 114 #[.string (termT n p)] w fun e w' => Below w.heap.size w w' ∧ ∃ a, e = .returned (.slice a (statesP n p).length (statesP n p).length) ∧ IntsAt w' w.heap.size a (natI (statesP n p)) := by
  have hp := pw_le hn
  have h2 := pow2_le n hn
  have hpc := pw_cast n
  have hsz : (termT n p).size = n := termT_size n p
  have c := Lib.hid (fun s (hs : s < 32) wx => hasState_any n s p hn hs wx)
  have hr : statesP n p = statesTo n p (pw n) := rfl
  have Hr := Lib.hid hr
  clear hr
  go_enter Tryz.func114, Tryz.ntmps114
  go_wp2_with fail
  go_loopw [3, 4, 8] (fun out _ j wr => ∃ k : Nat, k ≤ pw n ∧ j = .int .i64 k ∧ wr.ownsRow w.heap.size 3 1 out (natI (statesTo n p k)).length (ints (natI (statesTo n p k))) ∧ Below w.heap.size w wr) (fun _ _ j _ => pw n - (intOf j).toNat)
  case atStart => exact ⟨0, Nat.zero_le _, rfl, World.ownsRow_nil _ _ _ _, Below.refl _ _⟩
  case round =>
    obtain ⟨k, hk, rfl, hown, hW⟩ := hrel
    have Hown := Lib.hid hown
    have hlen := statesTo_length n p k
    have hlen2 : (natI (statesTo n p k)).length ≤ 32 := by rw [natI_length]; omega
    have hWs := hW.size
    clear hown
    by_cases hlt : k < pw n
    · have c1 := c.out k (by omega) wr
      have hnx : statesTo n p (k + 1) = if hasP n p k then statesTo n p k ++ [k] else statesTo n p k := rfl
      cases hh : hasP n p k <;> rw [hh] at c1 hnx
      · rw [if_neg (by decide)] at hnx
        have C1 := Lib.hid c1
        have Hnx := Lib.hid hnx
        clear c1 hnx hh
        go_wp2_with fail
        refine C1.out.mono ?_
        rintro e w2 ⟨hW2, rfl⟩
        go_wp2_with fail
        go_roundw
        case rel => exact ⟨k + 1, by omega, by go_num, by rw [Hnx.out]; exact own_below Hown.out hW2, hW.trans (hW2.mono hWs)⟩
        case measure => simp [intOf] <;> omega
      · rw [if_pos rfl] at hnx
        have C1 := Lib.hid c1
        have hnx2 : natI (statesTo n p (k + 1)) = natI (statesTo n p k) ++ [(k : Int)] := by rw [hnx, natI_snoc]
        have Hnx := Lib.hid hnx2
        clear c1 hnx hnx2 hh
        go_wp2_with fail
        refine C1.out.mono ?_
        rintro e w2 ⟨hW2, rfl⟩
        have hB2 := hW.trans (hW2.mono hWs)
        have hB2s := hB2.size
        go_wp2_with (first | ((with_reducible show wpList _ _ _ (⟨_, .buildSlice 27 1 _, _, _, _, _⟩ :: _) _ _); refine wpList_buildSlice' rfl _ _ _ rfl rfl (int_one (k : Int) _) ?_) | (at_builtin; refine wpList_int_append rfl _ _ rfl w.heap.size _ (natI (statesTo n p k)) rfl (((own_below Hown.out hW2).alloc _)) _ _ rfl (cell_new ?_) (by omega) (hB2.alloc (by omega) _) ?_ ?_ ?_))
        · rfl
        · exact Nat.le_refl _
        · first | omega | (simp; omega)
        · intro v' w3 hown3 hB3
          have hown4 : w3.ownsRow w.heap.size 3 1 v' (natI (statesTo n p (k + 1))).length (ints (natI (statesTo n p (k + 1)))) := by rw [Hnx.out, List.length_append]; exact hown3
          have Hown3 := Lib.hid hown4
          have HB3 := Lib.hid hB3
          clear hown3 hown4 hB3
          go_wp2_with fail
          go_roundw
          case rel => exact ⟨k + 1, by omega, by go_num, Hown3.out, HB3.out⟩
          case measure => simp [intOf] <;> omega
    · obtain rfl : k = pw n := by omega
      obtain ⟨a, cp, rfl, hcp, hI⟩ := intsAt_of_own Hown.out
      have ha : 0 < (natI (statesTo n p (pw n))).length → ∃ g, a = some ⟨g, 0, none⟩ := fun h0 => by
        obtain ⟨g, _, _, h1, _⟩ := hI.at' h0
        exact ⟨g, h1⟩
      have C := Lib.hid (fun wx => clip_any a (natI (statesTo n p (pw n))).length cp ha hcp (by omega) wx)
      have HI := Lib.hid hI
      have hl2 := natI_length (statesTo n p (pw n))
      have Hl2 := Lib.hid hl2
      clear hI ha hl2
      go_wp2_with fail
      refine (C.out _).mono ?_
      rintro e w' ⟨rfl, rfl⟩
      go_wp2_with fail
      go_ret
      exact ⟨hW, a, by rw [Hr.out, ← Hl2.out]; rfl, by rw [Hr.out]; exact HI.out⟩
end Go.Proofs.YtkfagolmpbbckaaGreatDoor
