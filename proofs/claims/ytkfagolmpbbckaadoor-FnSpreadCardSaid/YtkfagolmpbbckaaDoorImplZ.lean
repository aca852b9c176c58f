/- The program's questions about terms: traps, states, what lies within, what two have in common, the least term of states. -/
import Derived.Test.YtkfagolmpbbckaaDoorImplG
import Derived.Test.YtkfagolmpbbckaaDoorImplO
import Derived.Test.YtkfagolmpbbckaaDoorImplB
import Derived.Test.YtkfagolmpbbckaaDoorMk
namespace Go.Proofs.YtkfagolmpbbckaaDoor
open Go Go.RowKit Go.Sw
set_option maxRecDepth 100000
set_option linter.unusedVariables false

theorem letterT_ok (o : Option Bool) : isLetter (letterT o) = true := by
  cases o with
  | none => rfl
  | some b => cases b <;> rfl
theorem termB_term (n : Nat) (p : Trm) : termB (termT n p) n = true := by
  unfold termB
  rw [Bool.and_eq_true, decide_eq_true_eq]
  refine ⟨termT_size n p, ?_⟩
  rw [List.all_eq_true]
  intro b hb
  obtain ⟨i, _, rfl⟩ : ∃ a, a < n ∧ letterT (p a) = b := by simpa [termT, bs] using hb
  exact letterT_ok _
def trapB (t u : ByteArray) : Bool := termOk t u && trapP (netOf t) (ofT u)
theorem isTrap_impl (t u : ByteArray) (w : World) (hs : t.size ≤ 1048576) (hu : u.size ≤ 1048576) :
    Calls Tryd.prog 50 #[.string t, .string u] w fun e w' => Below w.heap.size w w' ∧ e = .returned (.bool (trapB t u)) := by
  unfold trapB
  cases hok : termOk t u
  · have c := Lib.hid (termOf_no t u w hs hu hok)
    rw [Bool.false_and]
    clear hok
    go_enter Tryd.func50, Tryd.ntmps50
    go_wp2_with fail
    refine c.out.mono ?_
    rintro e w1 ⟨hW1, v, rfl⟩
    go_wp2_with fail
    go_ret
    exact ⟨hW1, rfl⟩
  · rw [Bool.true_and]
    have hok2 := hok
    unfold termOk at hok2
    rw [Bool.and_eq_true] at hok2
    have hn := netOf_ok hok2.1
    have hut : termT (netOf t).n (ofT u) = u := termT_of hok2.2
    have c := termOf_yes t u w hs hu hok
    obtain ⟨p, hp0⟩ : ∃ p0, ofT u = p0 := ⟨_, rfl⟩
    rw [hp0] at hut ⊢
    rw [← hut]
    rw [← hut] at c
    obtain ⟨N, hN⟩ : ∃ N, netOf t = N := ⟨_, rfl⟩
    rw [hN] at hn c ⊢
    have C := Lib.hid c
    clear hok hok2 hut c hN hp0 hu
    go_enter Tryd.func50, Tryd.ntmps50
    go_wp2_with fail
    refine C.out.mono ?_
    rintro e w1 ⟨hW1, b, cap, rfl, hb1, hb2, hat⟩
    have C1 := Lib.hid (trap_any b cap N hn.2 p w1 hat hb2)
    have hw1 := hW1.size
    clear hat
    go_wp2_with fail
    refine C1.out.mono ?_
    rintro e w2 ⟨hW2, rfl⟩
    go_wp2_with fail
    go_ret
    exact ⟨hW1.trans (hW2.mono hw1), rfl⟩
theorem isInside_impl (n : Nat) (p q : Trm) (h1 : 1 ≤ n) (hn : n ≤ 5) (w : World) :
    Calls Tryd.prog 52 #[.string (termT n p), .string (termT n q)] w fun e w' => Below w.heap.size w w' ∧ e = .returned (.bool (insTo p q n)) := by
  have hsz := termT_size n p
  have hsz2 := termT_size n q
  have c0 := termValid_any (termT n p) n h1 hn (by omega) w
  have c2 := termValid_any (termT n q) n h1 hn (by omega) w
  rw [termB_term] at c0 c2
  have c1 := Lib.hid (fun wx => inside_any n p q hn wx)
  have C0 := Lib.hid c0
  have C2 := Lib.hid c2
  obtain ⟨t, ht⟩ : ∃ t, termT n p = t := ⟨_, rfl⟩
  obtain ⟨u, hu⟩ : ∃ t, termT n q = t := ⟨_, rfl⟩
  rw [ht] at hsz C0 c1 ⊢
  rw [hu] at hsz2 C2 c1 ⊢
  clear c0 c2 ht hu
  go_enter Tryd.func52, Tryd.ntmps52
  go_wp2_with fail
  refine C0.out.mono ?_
  rintro e w' ⟨rfl, rfl⟩
  go_wp2_with fail
  refine C2.out.mono ?_
  rintro e w' ⟨rfl, rfl⟩
  go_wp2_with fail
  refine (c1.out _).mono ?_
  rintro e w1 ⟨hW1, rfl⟩
  go_wp2_with fail
  go_ret
  exact ⟨hW1, rfl⟩
theorem meetTo_next (p q : Trm) (k : Nat) (o : Option Bool) (h : meetT p q k = o) (j : Nat) : (fun j => if j = k then o else meetTo p q k j) j = meetTo p q (k + 1) j := by
  show (if j = k then o else meetTo p q k j) = meetTo p q (k + 1) j
  unfold meetTo
  by_cases e : j = k
  · subst e; rw [if_pos rfl, if_pos (by omega)]; exact h.symm
  · rw [if_neg e]
    by_cases hj : j < k
    · rw [if_pos hj, if_pos (by omega)]
    · rw [if_neg hj, if_neg (by omega)]
theorem meetTo_skip (p q : Trm) (k : Nat) (h : meetT p q k = p k) (j : Nat) : meetTo p q k j = meetTo p q (k + 1) j := by
  unfold meetTo
  by_cases e : j = k
  · subst e; rw [if_neg (by omega), if_pos (by omega)]; exact h.symm
  · by_cases hj : j < k
    · rw [if_pos hj, if_pos (by omega)]
    · rw [if_neg hj, if_neg (by omega)]
end Go.Proofs.YtkfagolmpbbckaaDoor
