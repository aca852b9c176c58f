/- The statement's questions about circuits: all as texts; is there one of a sign? -/
import Derived.Test.YtkfagolmpbbckaaGreatDoorSpecH
import Derived.Test.YtkfagolmpbbckaaGreatDoorImplK
import Derived.Test.YtkfagolmpbbckaaGreatDoorP2
import Derived.Test.YtkfagolmpbbckaaGreatDoorSy
namespace Go.Proofs.YtkfagolmpbbckaaGreatDoor
open Go Go.RowKit Go.Sw
set_option maxRecDepth 100000
set_option linter.unusedVariables false

theorem circuitsOf_spec (t : ByteArray) (w : World) (hs : t.size ≤ 1048576) :
    Calls Tryz.prog 40 #[.string t] w fun e w' => Below w.heap.size w w' ∧ ∃ v, e = .returned v ∧ v ≠ .slice none 0 0 ∧ w'.ownsRow w.heap.size 9 1 v (circsL t).length (texts (circsL t)) := by
  have cO := Lib.hid (l3Open_any t w hs)
  cases hok0 : netOk t
  · have hr : circsL t = [] := by rw [circsL, hok0]; rfl
    rw [hr]
    have Hok := Lib.hid hok0
    clear hr hok0
    go_enter Tryz.func40, Tryz.ntmps40
    go_wp2_with fail
    refine cO.out.mono ?_
    rintro e w1 ⟨hW1, ⟨hbad, v, rfl⟩ | ⟨hok, b, cap, rfl, hb1, hb2, hat⟩⟩
    · clear hbad
      have hmade := Lib.hid (World.ownsRow_made (e := 9) (size := 1) (base := w.heap.size) w1 #[] 0 hW1.size (by unfold maxLen; omega) rfl)
      go_wp2_with ((with_reducible show wpList _ _ _ (⟨_, .buildSlice 31 0 _, _, _, _, _⟩ :: _) _ _); refine wpList_buildSlice' rfl _ _ _ rfl rfl (str_none _) ?_)
      go_ret
      exact ⟨hW1.alloc hW1.size _, _, rfl, (fun e => by cases e), hmade.out⟩
    · rw [Hok.out] at hok; cases hok
  · have hn := netOf_ok hok0
    have hr : circsL t = txC (netOf t) (netOf t).n := by rw [circsL, hok0, txC, circP_all]; rfl
    rw [hr]
    obtain ⟨N, hN⟩ : ∃ N, netOf t = N := ⟨_, rfl⟩
    rw [hN] at hn cO ⊢
    have Hok := Lib.hid hok0
    clear hr hok0 hN
    go_enter Tryz.func40, Tryz.ntmps40
    go_wp2_with fail
    refine cO.out.mono ?_
    rintro e w1 ⟨hW1, ⟨hbad, v, rfl⟩ | ⟨hok, b, cap, rfl, hb1, hb2, hat⟩⟩
    · rw [Hok.out] at hbad; cases hbad
    · have cC := Lib.hid (l7Circuits_any b cap N hn.2 w1 hat hb2)
      clear hok hat
      go_wp2_with fail
      refine cC.out.mono ?_
      rintro e w2 ⟨hW2, v, rfl, hv, hC⟩
      have Hv := Lib.hid hv
      have HC := Lib.hid hC
      clear hv hC
      go_wp2_with fail
      go_ret
      refine ⟨hW1.trans (hW2.mono hW1.size), v, rfl, Hv.out, ?_⟩
      have ho := HC.out
      refine ⟨ho.1, ?_⟩
      rcases ho.2 with h | ⟨q, cp, cur, h1, h2, h3⟩
      · exact .inl h
      · exact .inr ⟨q, cp, cur, h1, by have := hW1.size; omega, h3⟩

/-- the sign that a circuit's text ends with -/
theorem circT_size (N : Net) (c : List Nat) : (circT N c).size = c.length + 1 := by
  rw [← digW_close]
  show (digW c ++ bs [signT (circC N c)]).size = _
  rw [ByteArray.size_append, digW_size]; rfl
theorem circT_end (N : Net) (c : List Nat) : (circT N c).extract ((circT N c).size - 1) (circT N c).size = bs [signT (circC N c)] := by
  rw [circT_size]
  apply ba_ext
  rw [ByteArray.data_extract, Array.toList_extract]
  show List.extract (bs (digT c ++ [signT (circC N c)])).data.toList _ _ = _
  rw [bs_data, bs_data, List.extract_eq_take_drop, Nat.add_sub_cancel]
  have : (digT c).length = c.length := by simp [digT]
  rw [← this, List.drop_left]; simp
theorem l7Is_any (N : Net) (c : List Nat) (hl : c.length ≤ 5) (sign : ByteArray) (w : World) :
    Calls Tryz.prog 42 #[.string (circT N c), .string sign] w fun e w' => e = .returned (.bool (isC (circC N c) sign)) ∧ w = w' := by
  have h1 := circT_size N c
  have h2 := circT_end N c
  have hc := circC_le N c
  obtain ⟨t, ht⟩ : ∃ t, circT N c = t := ⟨_, rfl⟩
  obtain ⟨k, hk⟩ : ∃ k, circC N c = k := ⟨_, rfl⟩
  rw [ht] at h1 h2 ⊢
  rw [hk] at h2 hc ⊢
  have e1 : ((t.size : Int) - 1) = ((t.size - 1 : Nat) : Int) := by omega
  have e2 : ((t.size - 1 : Nat) : Int) ≤ (t.size : Int) := by omega
  have hr : ((bs [signT k]).toList == sign.toList || (bs [signT k]).toList == [42]) = isC k sign := by
    rw [beq_texts]
    have hk3 : k = 1 ∨ k = 2 ∨ k = 3 := by omega
    unfold isC
    rcases hk3 with rfl | rfl | rfl <;> rw [ByteArray.toList_eq, bs_data] <;> cases (sign == bs [signT _]) <;> rfl
  rw [← h2, h1, Nat.add_sub_cancel] at hr
  have Hr := Lib.hid hr
  clear ht hk hr h2 hc
  go_enter Tryz.func42, Tryz.ntmps42
  go_wp2_with fail
  all_goals
    go_ret
    refine ⟨?_, rfl⟩
    have hr := Hr.out
    first
      | exact congrArg (fun b => Ending.returned (Value.bool b)) hr
      | (have hb : isC k sign = true := by rw [← hr]; simp_all
         rw [hb]; rfl)
theorem l7Plus_any (sign : ByteArray) (w : World) :
    Calls Tryz.prog 41 #[.string sign] w fun e w' => e = .returned (.bool (plusB sign)) ∧ w = w' := by
  rw [plusB_eq]
  cases h43 : (sign.toList == [43])
  all_goals
    go_enter Tryz.func41, Tryz.ntmps41
    go_wp2_with fail
    go_ret
    exact ⟨rfl, rfl⟩

theorem circsL_yes {t : ByteArray} (h : netOk t = true) : circsL t = (circL (netOf t)).map (circT (netOf t)) := by rw [circsL, h]; rfl
theorem hasB_texts (t sign : ByteArray) : hasB t sign = (plusB sign && (netOk t && (circL (netOf t)).any fun c => isC (circC (netOf t) c) sign)) := by
  unfold hasB
  cases netOk t <;> cases plusB sign <;> rfl
theorem hasCircuit_spec (t sign : ByteArray) (w : World) (hs : t.size ≤ 1048576) (hs2 : sign.size ≤ 1048576) :
    Calls Tryz.prog 9 #[.string t, .string sign] w fun e w' => Below w.heap.size w w' ∧ e = .returned (.bool (hasB t sign)) := by
  have cC := Lib.hid (circuitsOf_spec t w hs)
  have cP := Lib.hid (fun wx => l7Plus_any sign wx)
  have hlen := circsL_length t
  have hres : ∀ m, m ≤ (circsL t).length → (∀ j, j < m → isC (circC (netOf t) ((circL (netOf t)).getD j [])) sign = false) → m = (circsL t).length → hasB t sign = false := by
    intro m _ hall e
    rw [hasB_texts]
    cases hok : netOk t
    · rw [Bool.false_and, Bool.and_false]
    · have : ((circL (netOf t)).any fun c => isC (circC (netOf t) c) sign) = false := by
        rw [List.any_eq_false]
        intro c hc
        obtain ⟨j, hj, rfl⟩ := List.getElem_of_mem hc
        have := hall j (by rw [e, circsL_yes hok, List.length_map]; exact hj)
        rw [List.getD_eq_getElem?_getD, List.getElem?_eq_getElem hj, Option.getD_some] at this
        rw [this]; decide
      rw [this, Bool.and_false, Bool.and_false]
  have hyes : ∀ m (hm : m < (circsL t).length), plusB sign = true → ∃ c, (circsL t)[m] = circT (netOf t) c ∧ (circL (netOf t)).getD m [] = c ∧ c.length ≤ 5 ∧ (isC (circC (netOf t) c) sign = true → hasB t sign = true) := by
    intro m hm hp
    cases hok : netOk t
    · rw [circsL, hok] at hm; exact absurd hm (by simp)
    · have hm2 : m < (circL (netOf t)).length := by rw [circsL_yes hok, List.length_map] at hm; exact hm
      have hmem := List.getElem_mem hm2
      refine ⟨(circL (netOf t))[m], ?_, ?_, ?_, fun h => ?_⟩
      · simp only [circsL_yes hok, List.getElem_map]
      · rw [List.getD_eq_getElem?_getD, List.getElem?_eq_getElem hm2, Option.getD_some]
      · have := (circ_sound hmem).1.length
        have := (netOf_ok hok).2
        omega
      · rw [hasB_texts, hp, hok, Bool.true_and, Bool.true_and]
        exact List.any_eq_true.2 ⟨_, hmem, h⟩
  have Hres := Lib.hid hres
  have Hyes := Lib.hid hyes
  obtain ⟨xs, hxs⟩ : ∃ xs, circsL t = xs := ⟨_, rfl⟩
  rw [hxs] at cC hlen Hres Hyes
  clear hres hyes hxs
  have Hno := Lib.hid (fun hp : plusB sign = false => show hasB t sign = false by rw [hasB_texts, hp, Bool.false_and])
  obtain ⟨p, hpp⟩ : ∃ p, plusB sign = p := ⟨_, rfl⟩
  rw [hpp] at cP Hyes Hno
  clear hpp
  go_enter Tryz.func9, Tryz.ntmps9
  go_wp2_with fail
  refine cC.out.mono ?_
  rintro e w1 ⟨hW1, v, rfl, hv, hO⟩
  obtain ⟨a, cp, rfl, hcp, hT⟩ := textsAt_of_own hO
  have HT := Lib.hid hT
  clear hv hO hT
  go_wp2_with fail
  go_loopw [6] (fun i wr => ∃ m : Nat, m ≤ xs.length ∧ i = .int .i64 m ∧ (∀ j, j < m → isC (circC (netOf t) ((circL (netOf t)).getD j [])) sign = false) ∧ wr = w1) (fun i _ => xs.length - (intOf i).toNat)
  case atStart => exact ⟨0, Nat.zero_le _, rfl, fun _ h => absurd h (Nat.not_lt_zero _), rfl⟩
  case round =>
    obtain ⟨m, hm, rfl, hall, rfl⟩ := hrel
    have Hall := Lib.hid hall
    clear hall
    by_cases hlt : m < xs.length
    · cases p
      · have Hr := Lib.hid (Hno.out rfl)
        go_wp2_with fail
        refine (cP.out _).mono ?_
        rintro e w2 ⟨rfl, rfl⟩
        go_wp2_with fail
        go_ret
        exact ⟨hW1, by rw [Hr.out]; rfl⟩
      · obtain ⟨g, rfl, hcell⟩ := HT.out.cell hlt
        obtain ⟨c, hx, hg, hcl, hyes⟩ := Hyes.out m hlt rfl
        rw [hx] at hcell
        have c5 := Lib.hid (fun wx => l7Is_any (netOf t) c hcl sign wx)
        cases hb : isC (circC (netOf t) c) sign
        · rw [hb] at c5
          have Hall2 := Lib.hid (show ∀ j, j < m + 1 → isC (circC (netOf t) ((circL (netOf t)).getD j [])) sign = false from fun j hj => by
            by_cases e : j = m
            · subst e; rw [hg]; exact hb
            · exact Hall.out j (by omega))
          clear hb hyes hx hg
          go_wp2_with fail
          refine (cP.out _).mono ?_
          rintro e w2 ⟨rfl, rfl⟩
          go_wp2_with fail
          refine (c5.out _).mono ?_
          rintro e w2 ⟨rfl, rfl⟩
          go_wp2_with fail
          go_roundw
          case rel => exact ⟨m + 1, by omega, by go_num, Hall2.out, by trivial⟩
          case measure => simp [intOf] <;> omega
        · rw [hb] at c5
          have Hr := Lib.hid (hyes hb)
          clear hb hyes hx hg
          go_wp2_with fail
          refine (cP.out _).mono ?_
          rintro e w2 ⟨rfl, rfl⟩
          go_wp2_with fail
          refine (c5.out _).mono ?_
          rintro e w2 ⟨rfl, rfl⟩
          go_wp2_with fail
          go_ret
          exact ⟨hW1, by rw [Hr.out]; rfl⟩
    · have Hr := Lib.hid (Hres.out m hm Hall.out (by omega))
      go_wp2_with fail
      go_ret
      exact ⟨hW1, by rw [Hr.out]; rfl⟩
end Go.Proofs.YtkfagolmpbbckaaGreatDoor
