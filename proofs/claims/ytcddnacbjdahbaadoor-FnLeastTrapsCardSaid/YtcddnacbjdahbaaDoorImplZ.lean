/- The program's questions about terms: traps, states, what lies within, what two have in common, the least term of states. -/
import Derived.Test.YtcddnacbjdahbaaDoorImplG
import Derived.Test.YtcddnacbjdahbaaDoorImplO
import Derived.Test.YtcddnacbjdahbaaDoorImplB
import Derived.Test.YtcddnacbjdahbaaDoorMk
namespace Go.Proofs.YtcddnacbjdahbaaDoor
open Go Go.RowKit Go.Sw
set_option maxRecDepth 100000
set_option linter.unusedVariables false

theorem letterT_ok (o : Option Bool) : isLetter (letterT o) = true := by
  cases o with
  | none => rfl
  | some b => cases b <;> rfl
theorem termB_term (n : Nat) (p : Trm) : termB (termT n p) n = true := by
  unfold termB
  rw [Bool.and_eq_true, decide_eq_true_eq]
  refine ⟨termT_size n p, ?_⟩
  rw [List.all_eq_true]
  intro b hb
  obtain ⟨i, _, rfl⟩ : ∃ a, a < n ∧ letterT (p a) = b := by simpa [termT, bs] using hb
  exact letterT_ok _
def trapB (t u : ByteArray) : Bool := termOk t u && trapP (netOf t) (ofT u)
theorem isTrap_impl (t u : ByteArray) (w : World) (hs : t.size ≤ 1048576) (hu : u.size ≤ 1048576) :
    Calls Tryd.prog 22 #[.string t, .string u] w fun e w' => Below w.heap.size w w' ∧ e = .returned (.bool (trapB t u)) := by
  unfold trapB
  cases hok : termOk t u
  · have c := Lib.hid (termOf_no t u w hs hu hok)
    rw [Bool.false_and]
    clear hok
    go_enter Tryd.func22, Tryd.ntmps22
    go_wp2_with fail
    refine c.out.mono ?_
    rintro e w1 ⟨hW1, v, rfl⟩
    go_wp2_with fail
    go_ret
    exact ⟨hW1, rfl⟩
  · rw [Bool.true_and]
    have hok2 := hok
    unfold termOk at hok2
    rw [Bool.and_eq_true] at hok2
    have hn := netOf_ok hok2.1
    have hut : termT (netOf t).n (ofT u) = u := termT_of hok2.2
    have c := termOf_yes t u w hs hu hok
    obtain ⟨p, hp0⟩ : ∃ p0, ofT u = p0 := ⟨_, rfl⟩
    rw [hp0] at hut ⊢
    rw [← hut]
    rw [← hut] at c
    obtain ⟨N, hN⟩ : ∃ N, netOf t = N := ⟨_, rfl⟩
    rw [hN] at hn c ⊢
    have C := Lib.hid c
    clear hok hok2 hut c hN hp0 hu
    go_enter Tryd.func22, Tryd.ntmps22
    go_wp2_with fail
    refine C.out.mono ?_
    rintro e w1 ⟨hW1, b, cap, rfl, hb1, hb2, hat⟩
    have C1 := Lib.hid (trap_any b cap N hn.2 p w1 hat hb2)
    have hw1 := hW1.size
    clear hat
    go_wp2_with fail
    refine C1.out.mono ?_
    rintro e w2 ⟨hW2, rfl⟩
    go_wp2_with fail
    go_ret
    exact ⟨hW1.trans (hW2.mono hw1), rfl⟩
theorem statesOf_impl (n : Nat) (p : Trm) (h1 : 1 ≤ n) (hn : n ≤ 5) (w : World) :
    Calls Tryd.prog 23 #[.string (termT n p)] w fun e w' => Below w.heap.size w w' ∧ ∃ a c, e = .returned (.slice a (statesP n p).length c) ∧ IntsAt w' w.heap.size a (nats (statesP n p)) := by
  have hsz := termT_size n p
  have c0 := termValid_any (termT n p) n h1 hn (by omega) w
  rw [termB_term] at c0
  have c1 := Lib.hid (fun wx => statesOf_any n p hn wx)
  have C0 := Lib.hid c0
  obtain ⟨t, ht⟩ : ∃ t, termT n p = t := ⟨_, rfl⟩
  rw [ht] at hsz C0 c1 ⊢
  clear c0 ht
  go_enter Tryd.func23, Tryd.ntmps23
  go_wp2_with fail
  refine C0.out.mono ?_
  rintro e w' ⟨rfl, rfl⟩
  go_wp2_with fail
  refine (c1.out _).mono ?_
  rintro e w1 ⟨hW1, a, rfl, hI⟩
  have HI := Lib.hid hI
  clear hI
  go_wp2_with fail
  go_ret
  exact ⟨hW1, a, _, rfl, HI.out⟩
theorem isInside_impl (n : Nat) (p q : Trm) (h1 : 1 ≤ n) (hn : n ≤ 5) (w : World) :
    Calls Tryd.prog 44 #[.string (termT n p), .string (termT n q)] w fun e w' => Below w.heap.size w w' ∧ e = .returned (.bool (insTo p q n)) := by
  have hsz := termT_size n p
  have hsz2 := termT_size n q
  have c0 := termValid_any (termT n p) n h1 hn (by omega) w
  have c2 := termValid_any (termT n q) n h1 hn (by omega) w
  rw [termB_term] at c0 c2
  have c1 := Lib.hid (fun wx => inside_any n p q hn wx)
  have C0 := Lib.hid c0
  have C2 := Lib.hid c2
  obtain ⟨t, ht⟩ : ∃ t, termT n p = t := ⟨_, rfl⟩
  obtain ⟨u, hu⟩ : ∃ t, termT n q = t := ⟨_, rfl⟩
  rw [ht] at hsz C0 c1 ⊢
  rw [hu] at hsz2 C2 c1 ⊢
  clear c0 c2 ht hu
  go_enter Tryd.func44, Tryd.ntmps44
  go_wp2_with fail
  refine C0.out.mono ?_
  rintro e w' ⟨rfl, rfl⟩
  go_wp2_with fail
  refine C2.out.mono ?_
  rintro e w' ⟨rfl, rfl⟩
  go_wp2_with fail
  refine (c1.out _).mono ?_
  rintro e w1 ⟨hW1, rfl⟩
  go_wp2_with fail
  go_ret
  exact ⟨hW1, rfl⟩
theorem meetTo_next (p q : Trm) (k : Nat) (o : Option Bool) (h : meetT p q k = o) (j : Nat) : (fun j => if j = k then o else meetTo p q k j) j = meetTo p q (k + 1) j := by
  show (if j = k then o else meetTo p q k j) = meetTo p q (k + 1) j
  unfold meetTo
  by_cases e : j = k
  · subst e; rw [if_pos rfl, if_pos (by omega)]; exact h.symm
  · rw [if_neg e]
    by_cases hj : j < k
    · rw [if_pos hj, if_pos (by omega)]
    · rw [if_neg hj, if_neg (by omega)]
theorem meetTo_skip (p q : Trm) (k : Nat) (h : meetT p q k = p k) (j : Nat) : meetTo p q k j = meetTo p q (k + 1) j := by
  unfold meetTo
  by_cases e : j = k
  · subst e; rw [if_neg (by omega), if_pos (by omega)]; exact h.symm
  · by_cases hj : j < k
    · rw [if_pos hj, if_pos (by omega)]
    · rw [if_neg hj, if_neg (by omega)]
def meetR (n : Nat) (p q : Trm) : ByteArray := if okT p q n then termT n (meetT p q) else ByteArray.empty
set_option maxHeartbeats 2000000 in
theorem meet_impl (n : Nat) (p q : Trm) (h1 : 1 ≤ n) (hn : n ≤ 5) (w : World) :
    Calls Tryd.prog 24 #[.string (termT n p), .string (termT n q)] w fun e w' => Below w.heap.size w w' ∧ e = .returned (.tuple #[.string (meetR n p q), .bool (okT p q n)]) := by
  have hsz := termT_size n p
  have hsz2 := termT_size n q
  have c0 := termValid_any (termT n p) n h1 hn (by omega) w
  have c2 := termValid_any (termT n q) n h1 hn (by omega) w
  rw [termB_term] at c0 c2
  have C0 := Lib.hid c0
  have C2 := Lib.hid c2
  have hno := Lib.hid (fun (h : okT p q n = false) => show meetR n p q = ByteArray.empty by rw [meetR, h]; rfl)
  have hyes := Lib.hid (fun (h : okT p q n = true) => show meetR n p q = termT n (meetT p q) by rw [meetR, h]; rfl)
  have hbad := Lib.hid (fun k (hk : k < n) (h : ((p k).isNone || ((q k).isNone || p k == q k)) = false) => show okT p q n = false from by
    cases e : okT p q n with
    | false => rfl
    | true =>
      have := (okT_iff p q n).1 e k hk
      rw [Bool.or_eq_false_iff, Bool.or_eq_false_iff] at h
      rcases this with h2 | h2 | h2
      · rw [h2] at h; exact absurd h.1 (by decide)
      · rw [h2] at h; exact absurd h.2.1 (by decide)
      · rw [h2] at h; simp at h)
  obtain ⟨cp, w2, hcv, hT, hW2, hsz3⟩ := termAt_new w n p
  obtain ⟨t, ht⟩ : ∃ t, termT n p = t := ⟨_, rfl⟩
  obtain ⟨u, hu⟩ : ∃ t, termT n q = t := ⟨_, rfl⟩
  have hget2 : ∀ k (h : k < u.size), u[k] = letterT (q k) := fun k h => by subst hu; exact termT_get n q k (by omega)
  have Hget2 := Lib.hid hget2
  rw [ht] at hsz C0 hcv ⊢
  rw [hu] at hsz2 C2 ⊢
  have HT := Lib.hid (hT.congr (q := meetTo p q 0) fun i hi => by unfold meetTo; rw [if_neg (by omega)])
  have hs3 : u.size ≤ n := by omega
  have hs4 : n ≤ u.size := by omega
  clear c0 c2 ht hu hget2 hT hsz2
  go_enter Tryd.func24, Tryd.ntmps24
  go_wp2_with fail
  refine C0.out.mono ?_
  rintro e w' ⟨rfl, rfl⟩
  go_wp2_with fail
  refine C2.out.mono ?_
  rintro e w' ⟨rfl, rfl⟩
  go_wp2_with fail
  clear hcv
  go_loopw [7, 24, 27, 39] (fun _ j _ _ wr => ∃ k : Nat, k ≤ n ∧ j = .int .i64 k ∧ okT p q k = true ∧ TermAt wr w.heap.size n (meetTo p q k) ∧ Below w.heap.size w wr) (fun _ j _ _ _ => n - (intOf j).toNat)
  case atStart => exact ⟨0, Nat.zero_le _, rfl, rfl, HT.out, hW2⟩
  case round =>
    obtain ⟨k, hk, rfl, hto, hT3, hW3⟩ := hrel
    have Hto := Lib.hid hto
    have HT3 := Lib.hid hT3
    clear hto
    by_cases hlt : k < n
    · obtain ⟨hcl, hfr⟩ := hT3.cell hlt
      have hlt3 : k < u.size := by omega
      have hv' := Hget2.out k hlt3
      have hPi : meetTo p q k k = p k := by unfold meetTo; rw [if_neg (Nat.lt_irrefl _)]
      rw [hPi] at hcl
      have hnx : okT p q (k + 1) = (okT p q k && ((p k).isNone || ((q k).isNone || p k == q k))) := rfl
      rw [Hto.out, Bool.true_and] at hnx
      have hb := hbad.out k hlt
      have hst := hT3.set hlt (q k)
      have hm : meetT p q k = match p k with | none => q k | some b => some b := rfl
      have hlv0 : (lv (some false) : Int) = 48 := rfl
      have hlv1 : (lv (some true) : Int) = 49 := rfl
      have hlv2 : (lv none : Int) = 42 := rfl
      clear hT3
      rcases hp : p k with _ | _ | _ <;> rcases hq : q k with _ | _ | _ <;> rw [hp] at hcl hm <;> rw [hq] at hv' hst <;> rw [hp, hq] at hnx hb <;> simp only [hq] at hm
      all_goals
        simp only [letterT] at hv'
        simp only [hlv0, hlv1, hlv2] at hcl hst
        have hv3 : (u[k].toNat : Int) = _ := congrArg (fun x : UInt8 => (x.toNat : Int)) hv'
        simp only [show ((42 : UInt8).toNat : Int) = 42 from rfl, show ((48 : UInt8).toNat : Int) = 48 from rfl, show ((49 : UInt8).toNat : Int) = 49 from rfl] at hv3
        have HT4 := Lib.hid (fun (h : meetT p q k = p k) => HT3.out.congr (fun j _ => meetTo_skip p q k h j))
        have hT5 := fun h => TermAt.congr hst (fun j _ => meetTo_next p q k _ h j)
        have HT5 := Lib.hid hT5
        have Hnx := Lib.hid hnx
        have Hb := Lib.hid hb
        have Hst := Lib.hid hst
        have Hm := Lib.hid hm
        have Hp := Lib.hid hp
        clear hv' hnx hp hq hb hst hm hPi hlv0 hlv1 hlv2 hT5
        go_wp2_with fail
        first
          | (go_roundw
             case rel => exact ⟨k + 1, by omega, by go_num, Hnx.out, HT5.out Hm.out, hW3.setCell (Nat.le_refl _) _⟩
             case measure => simp [intOf] <;> omega)
          | ((refine wp_region_quiet_lit (by kernel_rfl) (by kernel_rfl) ?_; (repeat ((with_reducible refine wpQuiet_step ?_); intro K hK; go_simp; first | ((with_reducible refine hK _ ?_); clear hK K) | (rw [if_neg (by decide)]; (with_reducible refine hK _ ?_); clear hK K) | (apply Exists.intro; refine ⟨fun _ => ?_, hK _ ?_⟩; (fail); clear hK K))); (with_reducible refine wpQuiet_nil ?_); intro _ hw'; obtain ⟨nq, hw''⟩ := hw'; subst hw'')
             go_wp2_with fail
             first
               | (go_roundw
                  case rel => exact ⟨k + 1, by omega, by go_num, Hnx.out, (HT4.out (by rw [Hm.out, Hp.out])).same rfl, below_drewN hW3 _⟩
                  case measure => simp [intOf] <;> omega)
               | exact ⟨⟨k + 1, by omega, by go_num, Hnx.out, (HT4.out (by rw [Hm.out, Hp.out])).same rfl, below_drewN hW3 _⟩, by simp [intOf] <;> omega⟩
               | (go_ret2; exact ⟨below_drewN hW3 _, by rw [hno.out (Hb.out rfl), Hb.out rfl]; rfl⟩))
    · obtain rfl : k = n := by omega
      have hT4 := hT3.congr (q := meetT p q) fun i hi => by unfold meetTo; rw [if_pos hi]
      have hcv2 := hT4.text cp
      have Hy := Lib.hid (hyes.out Hto.out)
      clear hT3 hT4
      go_wp2_with fail
      go_ret2
      exact ⟨hW3, by rw [Hy.out, Hto.out]; rfl⟩
end Go.Proofs.YtcddnacbjdahbaaDoor
