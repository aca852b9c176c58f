/- The program's steady states and attractors. -/
import Derived.Test.YtcddnacbjdahbaaDoorImplV
namespace Go.Proofs.YtcddnacbjdahbaaDoor
open Go Go.RowKit Go.Sw
set_option maxRecDepth 100000
set_option linter.unusedVariables false

set_option maxHeartbeats 1000000 in
theorem steady_any (b cap s : Nat) (N : Net) (hn : N.n ≤ 5) (hs : s < pw N.n) (w : World) (hat : NetAt w b N.n N.f) (hb : b < w.heap.size) :
    Calls Tryd.prog 145 #[.slice (some ⟨b, 0, none⟩) N.n cap, .int .i64 s] w fun e w' => Below w.heap.size w w' ∧ e = .returned (.bool (steadyB N s)) := by
  have Hat := Lib.hid hat
  have hpw := pw_le hn
  have cR := Lib.hid (reach_any b cap s N hn hs w hat hb)
  have hno := Lib.hid (fun t (h1 : arB N s t = true) (h2 : arB N t s = false) => show steadyB N s = false from by
    cases e : steadyB N s with
    | false => rfl
    | true =>
      have := arB_iff.2 ((steadyB_iff hs).1 e t (arB_iff.1 h1))
      rw [h2] at this; cases this)
  have hyes := Lib.hid (fun (h : ∀ t, t < 32 → arB N s t = true → arB N t s = true) => show steadyB N s = true from (steadyB_iff hs).2 fun t ht => arB_iff.1 (h t (by have := ht.lt hs; omega) (arB_iff.2 ht)))
  have hlt32 := Lib.hid (fun t (h : arB N s t = true) => (arB_iff.1 h).lt hs)
  obtain ⟨S, hS⟩ : ∃ S : Nat → Bool, arB N s = S := ⟨_, rfl⟩
  rw [hS] at cR
  simp only [hS] at hno hyes hlt32
  clear hat hS
  go_enter Tryd.func145, Tryd.ntmps145
  go_wp2_with fail
  refine cR.out.mono ?_
  rintro e w1 ⟨hW1, n, rfl, hM⟩
  have HM := Lib.hid hM
  have hlt1 := hM.lt
  clear hM
  go_wp2_with (at_range; refine wpList_range_setM _ rfl _ rfl w.heap.size n S rfl HM.out ?_; intro w2 hR2 hg2 hs2)
  have hB2 : Below w.heap.size w w2 := hW1.grown hg2 (by omega) (fun q hq => by cases hq)
  have HR2 := Lib.hid hR2
  clear hR2 hg2
  go_frame
  go_loopw [5] (fun _ wr => ∃ left : Nat → Bool, RngM wr w.heap.size w1.heap.size n S left ∧ Below w.heap.size w wr ∧ ∀ t, t < 32 → S t = true → left t = false → arB N t s = true) (fun _ wr => wr.rangeLeft w.heap.size w1.heap.size)
  case atStart => exact ⟨S, HR2.out, hB2, fun t _ h1 h2 => by rw [h1] at h2; cases h2⟩
  case round =>
    obtain ⟨left, hR, hW, hinv⟩ := hrel
    have HR := Lib.hid hR
    have Hinv := Lib.hid hinv
    have hWs := hW.size
    clear hR hinv
    go_wp2_with (at_next; refine wpList_next_setM _ rfl _ rfl w.heap.size w1.heap.size n S left rfl HR.out ?_ ?_)
    · intro hdone
      have Hr := Lib.hid (hyes.out fun t ht hSt => Hinv.out t ht hSt (hdone t ht))
      clear hdone
      go_wp2_with fail
      go_ret
      exact ⟨hW, by rw [Hr.out]; rfl⟩
    · intro i w3 hi hleft hSi hR3 hlt3 hg3 hs3 hen
      have hip := hlt32.out i hSi
      have hrr := HR.out.lt
      have hB3 : Below w.heap.size w w3 := hW.grown hg3 (by omega) (fun q hq => by cases hq; have := hW1.size; omega)
      have cR3 := Lib.hid (reach_any b cap i N hn hip w3 (Hat.out.below hB3 hb) (Nat.lt_of_lt_of_le hb hB3.size))
      have HR3 := Lib.hid hR3
      have Hen := Lib.hid hen
      have hlo := Lib.hid hlt3
      clear hR3 hlt3 hg3
      go_wp2_with fail
      refine cR3.out.mono ?_
      rintro e w4 ⟨hW4, n4, rfl, hM4⟩
      rw [hs3] at hM4
      have HM4 := Lib.hid hM4
      obtain ⟨hR4, hl4⟩ := HR3.out.below hW4
      have HR4 := Lib.hid hR4
      have hB4 := hB3.trans (hW4.mono hB3.size)
      have hml : w4.rangeLeft w.heap.size w1.heap.size < wr.rangeLeft w.heap.size w1.heap.size := by rw [hl4]; exact hlo.out
      have Hml := Lib.hid hml
      clear hM4 hR4 hl4 hml
      cases hv : arB N i s
      · have Hno := Lib.hid (hno.out i hSi hv)
        have Hv := Lib.hid hv
        clear hv
        go_wp2_with (at_lookup; refine wpList_lookup_setM _ rfl _ _ rfl wr.heap.size n4 (arB N i) rfl HM4.out s (by omega) rfl ?_; rw [Hv.out])
        go_ret
        exact ⟨hB4, by rw [Hno.out]; rfl⟩
      · have Hv := Lib.hid hv
        clear hv
        go_wp2_with (at_lookup; refine wpList_lookup_setM _ rfl _ _ rfl wr.heap.size n4 (arB N i) rfl HM4.out s (by omega) rfl ?_; rw [Hv.out])
        go_roundw
        case rel => exact ⟨_, HR4.out, hB4, fun t ht h1 h2 => by
          by_cases e : t = i
          · subst e; exact Hv.out
          · exact Hinv.out t ht h1 (by simpa [e] using h2)⟩
        case measure => exact Hml.out
theorem which_any (b cap : Nat) (N : Net) (hn : N.n ≤ 5) (k : Nat) (cap2 : Array Value) (p : Nat → Bool) (w : World)
    (hk : ∀ args w, (callFunc k args).run Tryd.prog w = .ok (.enter k args) w)
    (hcl : ∀ (s : Nat) (wx : World), s < pw N.n → Below w.heap.size w wx → Calls Tryd.prog k (#[.int .i64 s] ++ cap2) wx fun e w' => Below wx.heap.size wx w' ∧ e = .returned (.bool (p s))) :
    Calls Tryd.prog 125 #[.slice (some ⟨b, 0, none⟩) N.n cap, .func (.func k) #[] cap2] w fun e w' => Below w.heap.size w w' ∧ ∃ a c, e = .returned (.slice a (pickL p (pw N.n)).length c) ∧ IntsAt w' w.heap.size a (nats (pickL p (pw N.n))) := by
  have Hcl := Lib.hid hcl
  have hpw := pw_le hn
  clear hcl
  go_enter Tryd.func125, Tryd.ntmps125
  go_wp2_with (go_at_call 94; refine (states_any _ _ _ hn _).mono ?_; rintro e w' ⟨rfl, rfl⟩)
  go_loopw [5, 6, 9] (fun out _ i wr => ∃ m : Nat, m ≤ pw N.n ∧ i = .int .i64 m ∧ wr.ownsRow w.heap.size 3 1 out (nats (pickL p m)).length (ints (nats (pickL p m))) ∧ Below w.heap.size w wr) (fun _ _ i _ => pw N.n - (intOf i).toNat)
  case atStart => exact ⟨0, Nat.zero_le _, rfl, World.ownsRow_nil _ _ _ _, Below.refl _ _⟩
  case round =>
    obtain ⟨m, hm, rfl, hown, hW⟩ := hrel
    have Hown := Lib.hid hown
    have hlk := pickL_length p m
    have hWs := hW.size
    clear hown
    by_cases hlt : m < pw N.n
    · have c5 := Hcl.out m wr hlt hW
      have hsuc : pickL p (m + 1) = if p m then pickL p m ++ [m] else pickL p m := rfl
      obtain ⟨ps, hps⟩ : ∃ ps, pickL p m = ps := ⟨_, rfl⟩
      rw [hps] at hsuc Hown hlk
      have hpl : (nats ps).length ≤ 32 := by rw [nats_length]; omega
      clear hps
      cases hp : p m <;> rw [hp] at c5 hsuc
      · have C5 := Lib.hid c5
        have Hs := Lib.hid (show pickL p (m + 1) = ps from hsuc)
        clear c5 hsuc hp
        go_wp2_with fail
        refine C5.out.mono ?_
        rintro e w2 ⟨hW2, rfl⟩
        have Hown2 := Lib.hid (own_below Hown.out hW2)
        have hW3 := hW.trans (hW2.mono hWs)
        go_wp2_with fail
        go_roundw
        case rel => exact ⟨m + 1, by omega, by go_num, by rw [Hs.out]; exact Hown2.out, hW3⟩
        case measure => simp [intOf] <;> omega
      · have C5 := Lib.hid c5
        have Hs := Lib.hid (show pickL p (m + 1) = ps ++ [m] from hsuc)
        clear c5 hsuc hp
        go_wp2_with fail
        refine C5.out.mono ?_
        rintro e w2 ⟨hW2, rfl⟩
        have Hown2 := Lib.hid (own_below Hown.out hW2)
        have hW3 := hW.trans (hW2.mono hWs)
        have hs3 := hW3.size
        go_wp2_with (first | ((with_reducible show wpList _ _ _ (⟨_, .buildSlice 30 1 _, _, _, _, _⟩ :: _) _ _); refine wpList_buildSlice' rfl _ _ _ rfl rfl (int_one (m : Int) _) ?_) | (at_builtin; refine wpList_int_append rfl _ _ rfl w.heap.size _ (nats ps) rfl ((Hown2.out.alloc _)) _ _ rfl (cell_new ?_) (by omega) (hW3.alloc (by omega) _) ?_ ?_ ?_))
        · rfl
        · exact Nat.le_refl _
        · first | omega | (simp; omega)
        · intro v' w4 hown4 hB4
          have hown5 : w4.ownsRow w.heap.size 3 1 v' (nats (pickL p (m + 1))).length (ints (nats (pickL p (m + 1)))) := by
            rw [Hs.out, nats_snoc, List.length_append]; exact hown4
          have Hown4 := Lib.hid hown5
          have HB4 := Lib.hid hB4
          clear hown4 hown5 hB4
          go_wp2_with fail
          go_roundw
          case rel => exact ⟨m + 1, by omega, by go_num, Hown4.out, HB4.out⟩
          case measure => simp [intOf] <;> omega
    · obtain rfl : m = pw N.n := by omega
      obtain ⟨a, cp, rfl, hcp, hI⟩ := intsAt_of_own Hown.out
      have HI := Lib.hid hI
      have ha : 0 < (nats (pickL p (pw N.n))).length → ∃ g, a = some ⟨g, 0, none⟩ := fun h0 => by
        obtain ⟨g, _, _, h1, _⟩ := hI.at' h0
        exact ⟨g, h1⟩
      have C := Lib.hid (fun wx => clip_any a (nats (pickL p (pw N.n))).length cp ha hcp (by rw [nats_length]; omega) wx)
      clear hI ha
      rw [nats_length] at C ⊢
      go_wp2_with fail
      refine (C.out _).mono ?_
      rintro e w' ⟨rfl, rfl⟩
      go_wp2_with fail
      go_ret
      exact ⟨hW, a, _, rfl, HI.out⟩
theorem attractors1_any (bv bm n s : Nat) (S : Nat → Bool) (hs : s < 32) (w : World) (hbv : bv < w.heap.size) (hc : w.cell? ⟨bv, 0, none⟩ = some (.map (some bm))) (hM : SetM w bm n S) :
    Calls Tryd.prog 146 #[.int .i64 s, .pointer (some ⟨bv, 0, none⟩)] w fun e w' => Below w.heap.size w w' ∧ e = .returned (.bool (S s)) := by
  have HM := Lib.hid hM
  clear hM
  go_enter Tryd.func146, Tryd.ntmps146
  go_wp2_with (at_lookup; refine wpList_lookup_setM _ rfl _ _ rfl bm n S rfl HM.out s hs rfl ?_)
  go_ret
  exact ⟨Below.refl _ _, rfl⟩
end Go.Proofs.YtcddnacbjdahbaaDoor
