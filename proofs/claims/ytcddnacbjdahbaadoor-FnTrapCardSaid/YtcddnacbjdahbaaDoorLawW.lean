/- Walk of the law on what a trap is. -/
import Derived.Test.YtcddnacbjdahbaaDoorDi
import Derived.Test.YtcddnacbjdahbaaDoorImplZ
import Derived.Test.YtcddnacbjdahbaaDoorSp
import Derived.Test.YtcddnacbjdahbaaDoorHu
import Derived.Test.YtcddnacbjdahbaaDoorMk
namespace Go.Proofs.YtcddnacbjdahbaaDoor
open Go Go.RowKit Go.Sw
set_option maxRecDepth 100000
set_option linter.unusedVariables false

theorem stepI_of {t : ByteArray} (h : netOk t = true) {s : Nat} (hs : s < pw (netOf t).n) : stepI t s = ((stepN (netOf t) s : Nat) : Int) := by
  have : stB t s = true := by
    unfold stB
    rw [h, Bool.true_and, decide_eq_true (by omega), decide_eq_true (by omega)]; rfl
  rw [stepI, this]; rfl
theorem close_trap {N : Net} (f : Nat) : ∀ p, N.n + 1 ≤ f + starN N.n p → trapP N (closeP f N p) = true := by
  induction f with
  | zero => intro p h; have := starN_le N.n p; omega
  | succ f ih =>
    intro p h
    cases ht : trapP N p
    · rw [closeP_step ht]
      exact ih _ (by have := starN_grows ht; omega)
    · rw [closeP_done ht]; exact ht
theorem ins_point (n x : Nat) (p : Trm) : insTo (hullP [x]) p n = hasP n p x := by
  rw [Bool.eq_iff_iff, insTo_iff, hasP_iff]
  have hh : ∀ i, hullP [x] i = some (x.testBit i) := fun i => by rw [hullP_cons]; rfl
  constructor
  · intro h i hi
    rcases h i hi with h | h
    · rw [h]; rfl
    · rw [← h, hh]; simp [fitB]
  · intro h i hi
    have := h i hi
    cases hp : p i with
    | none => exact .inl rfl
    | some c =>
      rw [hp] at this
      refine .inr ?_
      rw [hh]
      simp only [fitB, beq_iff_eq] at this
      rw [this]
theorem pickL_le {p q : Nat → Bool} (h : ∀ i, q i = true → p i = true) (k : Nat) : (pickL q k).length ≤ (pickL p k).length := by
  induction k with
  | zero => exact Nat.le_refl _
  | succ k ih =>
    rw [pickL, pickL]
    cases hq : q k
    · rw [if_neg (by decide)]
      split
      · rw [List.length_append]; omega
      · exact ih
    · rw [if_pos rfl, h k hq, if_pos rfl, List.length_append, List.length_append]
      simpa using ih
theorem pickL_lt {p q : Nat → Bool} (h : ∀ i, q i = true → p i = true) {m : Nat} (h1 : p m = true) (h2 : q m = false) (k : Nat) (hm : m < k) : (pickL q k).length < (pickL p k).length := by
  induction k with
  | zero => omega
  | succ k ih =>
    rw [pickL, pickL]
    by_cases e : m = k
    · subst e
      rw [h2, if_neg (by decide), h1, if_pos rfl, List.length_append]
      have := pickL_le h m
      simp; omega
    · have := ih (by omega)
      cases hq : q k
      · rw [if_neg (by decide)]
        split
        · rw [List.length_append]; omega
        · exact this
      · rw [if_pos rfl, h k hq, if_pos rfl, List.length_append, List.length_append]
        simpa using this
theorem to_steady {N : Net} (m : Nat) : ∀ s, s < pw N.n → (stR N s).length ≤ m → ∃ t, AR N s t ∧ t < pw N.n ∧ steadyB N t = true := by
  induction m with
  | zero =>
    intro s hs h
    have := pickL_mem.2 ⟨hs, arB_refl N s⟩
    have := List.length_pos_of_mem this
    unfold stR at h
    omega
  | succ m ih =>
    intro s hs h
    by_cases hst : steadyB N s = true
    · exact ⟨s, .refl s, hs, hst⟩
    · have : ∃ t, AR N s t ∧ ¬ AR N t s := by
        apply Classical.byContradiction
        intro hc
        apply hst
        rw [steadyB_iff hs]
        intro t ht
        apply Classical.byContradiction
        intro hn
        exact hc ⟨t, ht, hn⟩
      obtain ⟨t, h1, h2⟩ := this
      have hlt := pickL_lt (p := arB N s) (q := arB N t) (fun i hi => arB_iff.2 (h1.trans (arB_iff.1 hi))) (m := s) (arB_refl N s) (by
        cases e : arB N t s with
        | false => rfl
        | true => exact absurd (arB_iff.1 e) h2) (pw N.n) hs
      obtain ⟨u, k1, k2, k3⟩ := ih t (h1.lt hs) (by unfold stR at h ⊢; omega)
      exact ⟨u, h1.trans k1, k2, k3⟩
theorem att_pos {N : Net} {p : Trm} (ht : trapP N p = true) : 1 ≤ attIn N p := by
  have hs := ofBits_lt N.n fun i => p i == some true
  obtain ⟨t, h1, h2, h3⟩ := to_steady (N := N) _ (someS N.n p) hs (Nat.le_refl _)
  have hpt := trap_AR ht h1 hs (someS_has N.n p)
  have : ∃ s, s < pw N.n ∧ leastB N s = true ∧ hasP N.n p s = true := by
    cases hl : leastB N t with
    | true => exact ⟨t, h2, hl, hpt⟩
    | false =>
      obtain ⟨s, k1, k2, k3⟩ := (done_iff h2 h3).2 hl
      have hsl : s < pw N.n := by omega
      exact ⟨s, hsl, k2, trap_AR ht ((steadyB_iff hsl).1 (leastB_iff.1 k2).1 t k3) h2 hpt⟩
  obtain ⟨s, k1, k2, k3⟩ := this
  unfold attIn
  exact List.length_pos_of_mem (List.mem_filter.2 ⟨pickL_mem.2 ⟨k1, k2⟩, k3⟩)
theorem getD_mem {L : List Nat} {j : Nat} (h : j < L.length) : L.getD j 0 ∈ L := by
  rw [List.getD_eq_getElem?_getD, List.getElem?_eq_getElem h]; exact List.getElem_mem h
theorem mem_getD {L : List Nat} {s : Nat} (h : s ∈ L) : ∃ j, j < L.length ∧ L.getD j 0 = s := by
  obtain ⟨j, hj, rfl⟩ := List.getElem_of_mem h
  exact ⟨j, hj, by rw [List.getD_eq_getElem?_getD, List.getElem?_eq_getElem hj]; rfl⟩
def allP1 (N : Net) (p : Trm) (L : List Nat) (k : Nat) : Bool := allB (fun j => hasP N.n p (stepN N (L.getD j 0))) k
def oneP1 (N : Net) (p : Trm) (s : Nat) (i : Nat) : Bool := allB (fun i => hasP N.n p (setN s i (N.f i s))) i
def sglP1 (N : Net) (p : Trm) (L : List Nat) (k : Nat) : Bool := allB (fun j => oneP1 N p (L.getD j 0) N.n) k
theorem allP1_trap (N : Net) (p : Trm) : allP1 N p (statesP N.n p) (statesP N.n p).length = trapP N p := by
  rw [Bool.eq_iff_iff, allP1, allB_iff, trapP_iff]
  constructor
  · intro h s hs hp
    obtain ⟨j, hj, e⟩ := mem_getD ((statesP_mem N.n p s).2 ⟨hs, hp⟩)
    have := h j hj
    rwa [e] at this
  · intro h j hj
    obtain ⟨h1, h2⟩ := (statesP_mem N.n p _).1 (getD_mem hj)
    exact h _ h1 h2
theorem sglP1_trap (N : Net) (p : Trm) : sglP1 N p (statesP N.n p) (statesP N.n p).length = trapP N p := by
  rw [Bool.eq_iff_iff, sglP1, allB_iff]
  constructor
  · intro h
    rw [trapP_iff]
    intro s hs hp
    obtain ⟨j, hj, e⟩ := mem_getD ((statesP_mem N.n p s).2 ⟨hs, hp⟩)
    have := h j hj
    rw [e, oneP1, allB_iff] at this
    rw [hasP_iff]
    intro i hi
    have h2 := (hasP_iff _ _ _).1 (this i hi) i hi
    rw [setN_testBit, if_pos rfl] at h2
    rw [stepN_testBit, decide_eq_true hi, Bool.true_and]
    exact h2
  · intro ht j hj
    obtain ⟨h1, h2⟩ := (statesP_mem N.n p _).1 (getD_mem hj)
    rw [oneP1, allB_iff]
    intro i hi
    exact trap_AR ht (AR.one hi) h1 h2
theorem least_same {t u : ByteArray} (h : termOk t u = true) : ((trapT t u).toList == u.toList) = trapP (netOf t) (ofT u) := by
  have hu : termB u (netOf t).n = true := by unfold termOk at h; simp at h; exact h.2
  rw [trapT, h, if_pos rfl]
  have hc := close_trap ((netOf t).n + 1) (N := netOf t) (ofT u) (by omega)
  cases ht : trapP (netOf t) (ofT u)
  · rw [beq_eq_false_iff_ne]
    intro e
    rw [ByteArray.toList_eq, ByteArray.toList_eq] at e
    have e2 : termT (netOf t).n (closeP ((netOf t).n + 1) (netOf t) (ofT u)) = termT (netOf t).n (ofT u) := by rw [termT_of hu]; exact ba_ext e
    have := trapP_congr (N := netOf t) (termT_inj e2)
    rw [hc, ht] at this
    exact absurd this (by decide)
  · rw [closeP_done ht, termT_of hu]; simp
set_option maxHeartbeats 4000000 in
theorem law_Trap (w : World) (a : Option Addr) (n c : Nat) (hc : c ≤ maxLen) (h : CodeAt w a n c) :
    Calls Tryd.prog 14 #[.slice a n c] w fun e w' => Below w.heap.size w w' ∧ e = .returned (.bool true) := by
  have hle := h.1
  have m0 : n ≤ 9223372036854775807 := by unfold maxLen at hc; omega
  have cD := Lib.hid (drawIsTrap_any a n c hc w h)
  clear h
  by_cases s0 : n ≤ 1048576
  case' neg =>
    go_enter Tryd.func14, Tryd.ntmps14
    go_wp2_with fail
    go_ret
    exact ⟨Below.refl _ _, rfl⟩
  go_enter Tryd.func14, Tryd.ntmps14
  go_wp2_with fail
  refine cD.out.mono ?_
  rintro e w1 ⟨hW1, t, u, ht, hu, rfl⟩
  have hW1s := hW1.size
  cases hok : termOk t u
  · have hb : trapB t u = false := by unfold trapB; rw [hok]; rfl
    have hb2 : (termOk t u && trapP (netOf t) (ofT u)) = false := hb
    have c1 := Lib.hid (fun wx => hb ▸ isTrap_impl t u wx (by omega) (by omega))
    have c2 := Lib.hid (fun wx => hb2 ▸ isTrap_spec t u wx (by omega) (by omega))
    cases hnk : netOk t
    · have cV := Lib.hid (fun wx => hnk ▸ networkValid_impl t wx (by omega))
      clear hb hb2 hok hnk
      go_wp2_with fail
      refine (c1.out _).mono ?_
      rintro e w2 ⟨hW2, rfl⟩
      have hB2 := hW1.trans (hW2.mono hW1s)
      go_wp2_with fail
      refine (c2.out _).mono ?_
      rintro e w3 ⟨hW3, rfl⟩
      have hB3 := hB2.trans (hW3.mono hB2.size)
      go_wp2_with fail
      refine (cV.out _).mono ?_
      rintro e w4 ⟨hW4, rfl⟩
      have hB4 := hB3.trans (hW4.mono hB3.size)
      go_wp2_with fail
      refine (c2.out _).mono ?_
      rintro e w5 ⟨hW5, rfl⟩
      go_wp2_with fail
      go_ret
      exact ⟨hB4.trans (hW5.mono hB4.size), rfl⟩
    · have cV := Lib.hid (fun wx => hnk ▸ networkValid_impl t wx (by omega))
      have hn := netOf_ok hnk
      have hub : termB u (netOf t).n = false := by unfold termOk at hok; rw [hnk, Bool.true_and] at hok; exact hok
      have cz := Lib.hid (fun wx => (sizI_yes hnk) ▸ sizeOf_impl t wx (by omega))
      have cT := Lib.hid (fun wx => hub ▸ termValid_any u (netOf t).n hn.1 hn.2 (by omega) wx)
      clear hb hb2 hok hnk hub
      go_wp2_with fail
      refine (c1.out _).mono ?_
      rintro e w2 ⟨hW2, rfl⟩
      have hB2 := hW1.trans (hW2.mono hW1s)
      go_wp2_with fail
      refine (c2.out _).mono ?_
      rintro e w3 ⟨hW3, rfl⟩
      have hB3 := hB2.trans (hW3.mono hB2.size)
      go_wp2_with fail
      refine (cV.out _).mono ?_
      rintro e w4 ⟨hW4, rfl⟩
      have hB4 := hB3.trans (hW4.mono hB3.size)
      go_wp2_with fail
      refine (cz.out _).mono ?_
      rintro e w5 ⟨hW5, rfl⟩
      have hB5 := hB4.trans (hW5.mono hB4.size)
      go_wp2_with fail
      refine (cT.out _).mono ?_
      rintro e w6 ⟨rfl, rfl⟩
      go_wp2_with fail
      refine (c2.out _).mono ?_
      rintro e w7 ⟨hW7, rfl⟩
      go_wp2_with fail
      go_ret
      exact ⟨hB5.trans (hW7.mono hB5.size), rfl⟩
  · have hnk : netOk t = true := by unfold termOk at hok; simp at hok; exact hok.1
    have hub : termB u (netOf t).n = true := by unfold termOk at hok; simp at hok; exact hok.2
    have hn := netOf_ok hnk
    have hut := termT_of hub
    have hus : u.size = (netOf t).n := by rw [← hut, termT_size]
    have hb : trapB t u = trapP (netOf t) (ofT u) := by unfold trapB; rw [hok]; rfl
    have hb2 : (termOk t u && trapP (netOf t) (ofT u)) = trapP (netOf t) (ofT u) := hb
    have c1 := Lib.hid (fun wx => hb ▸ isTrap_impl t u wx (by omega) (by omega))
    have c2 := Lib.hid (fun wx => hb2 ▸ isTrap_spec t u wx (by omega) (by omega))
    have cV := Lib.hid (fun wx => hnk ▸ networkValid_impl t wx (by omega))
    have cz := Lib.hid (fun wx => (sizI_yes hnk) ▸ sizeOf_impl t wx (by omega))
    have cT := Lib.hid (fun wx => hub ▸ termValid_any u (netOf t).n hn.1 hn.2 (by omega) wx)
    have cSt := Lib.hid (fun wx => hut ▸ statesOf_impl (netOf t).n (ofT u) hn.1 hn.2 wx)
    have cs := Lib.hid (fun (s : Nat) (hs : s < pw (netOf t).n) wx => (stepI_of hnk (s := s) hs) ▸ stepAll_impl t s wx (by omega))
    have cs1 := Lib.hid (fun (s i : Nat) (hs : s < pw (netOf t).n) (hi : i < (netOf t).n) wx => stepOne_impl t s i wx (by omega) hnk hs hi)
    have cH := Lib.hid (fun (x : Nat) (hx : x < pw (netOf t).n) wx => hull1_impl (netOf t).n x hn.1 hn.2 hx wx)
    have cIn := Lib.hid (fun (x : Nat) wx => (ins_point (netOf t).n x (ofT u)) ▸ hut ▸ isInside_impl (netOf t).n (hullP [x]) (ofT u) hn.1 hn.2 wx)
    have cA := Lib.hid (fun wx => attractorsIn_impl t u wx (by omega) (by omega))
    have cA2 := Lib.hid (fun wx => attractorsIn_spec t u wx (by omega) (by omega))
    have cL := Lib.hid (fun wx => hok ▸ trapOf_impl t u wx (by omega) (by omega))
    have hls := least_same hok
    have hap := allP1_trap (netOf t) (ofT u)
    have hsp := sglP1_trap (netOf t) (ofT u)
    have hat : attI t u = if trapP (netOf t) (ofT u) then ((attIn (netOf t) (ofT u) : Nat) : Int) else -1 := by unfold attI; rw [hb2]
    have hpos := fun h => att_pos (N := netOf t) (p := ofT u) h
    have hsm := fun s (h : s ∈ statesP (netOf t).n (ofT u)) => ((statesP_mem _ _ s).1 h).1
    have hsl := Lib.hid (fun s => stepN_lt (netOf t) s)
    have hs1 := Lib.hid (fun s i b (hs : s < pw (netOf t).n) (hi : i < (netOf t).n) => setN_lt s i (netOf t).n b hs hi)
    have hlen := statesP_length (netOf t).n (ofT u)
    have hpw := pw_le hn.2
    obtain ⟨N, hN⟩ : ∃ N, netOf t = N := ⟨_, rfl⟩
    obtain ⟨p, hp⟩ : ∃ p, ofT u = p := ⟨_, rfl⟩
    rw [hN] at c1 c2 cz cT cSt cs cs1 cH cIn hls hap hsp hat hpos hsm hsl hs1 hlen hpw hn hus
    rw [hp] at c1 c2 cSt cIn hls hap hsp hat hpos hsm hlen
    obtain ⟨L, hL⟩ : ∃ L, statesP N.n p = L := ⟨_, rfl⟩
    rw [hL] at cSt hap hsp hsm hlen
    obtain ⟨tb, htb⟩ : ∃ b, trapP N p = b := ⟨_, rfl⟩
    rw [htb] at c1 c2 hls hap hsp hat hpos
    obtain ⟨ai, hai⟩ : ∃ x, attI t u = x := ⟨_, rfl⟩
    rw [hai] at cA cA2 hat
    obtain ⟨lt', hlt'⟩ : ∃ x, trapT t u = x := ⟨_, rfl⟩
    rw [hlt'] at cL hls
    have Hap := Lib.hid hap
    have Hsp := Lib.hid hsp
    have Hls := Lib.hid hls
    have Hat := Lib.hid hat
    have Hpos := Lib.hid hpos
    have Hsm := Lib.hid hsm
    have hhu : ((u.size : Nat) : Int) = (N.n : Int) := by omega
    have hee : (tb != tb) = false := by simp
    clear hb hb2 hok hnk hub hut hN hp hL htb hai hlt' hls hap hsp hat hpos hsm
    go_wp2_with fail
    refine (c1.out _).mono ?_
    rintro e w2 ⟨hW2, rfl⟩
    have hB2 := hW1.trans (hW2.mono hW1s)
    go_wp2_with fail
    refine (c2.out _).mono ?_
    rintro e w3 ⟨hW3, rfl⟩
    have hB3 := hB2.trans (hW3.mono hB2.size)
    go_wp2_with fail
    refine (cV.out _).mono ?_
    rintro e w4 ⟨hW4, rfl⟩
    have hB4 := hB3.trans (hW4.mono hB3.size)
    go_wp2_with fail
    refine (cz.out _).mono ?_
    rintro e w5 ⟨hW5, rfl⟩
    have hB5 := hB4.trans (hW5.mono hB4.size)
    go_wp2_with fail
    refine (cT.out _).mono ?_
    rintro e w6 ⟨rfl, rfl⟩
    clear c1 c2 cV cz cT
    go_wp2_with fail
    refine (cSt.out _).mono ?_
    rintro e w7 ⟨hW7, a7, p7, rfl, hI7⟩
    have hB7 := hB5.trans (hW7.mono hB5.size)
    have HI7 := Lib.hid (show IntsAt w7 _ a7 (natI L) from hI7)
    clear hI7 cSt
    go_wp2_with fail
    go_loopw [7, 8, 9, 10, 11, 12, 13, 14] (fun al sg k _ _ _ _ _ wr => ∃ m : Nat, m ≤ L.length ∧ k = .int .i64 m ∧ al = .bool (allP1 N p L m) ∧ sg = .bool (sglP1 N p L m) ∧ Below w7.heap.size w7 wr) (fun _ _ k _ _ _ _ _ _ => L.length - (intOf k).toNat)
    case atStart => exact ⟨0, Nat.zero_le _, rfl, rfl, rfl, Below.refl _ _⟩
    case round =>
      obtain ⟨m, hm, rfl, rfl, rfl, hV⟩ := hrel
      have hVs := hV.size
      by_cases hlt : m < L.length
      · obtain ⟨g, rfl, hgl, hcell⟩ := ints_cell (HI7.out.below hV) hlt
        have hx := Hsm.out _ (List.getElem_mem hlt)
        have hgd : L.getD m 0 = L[m] := by rw [List.getD_eq_getElem?_getD, List.getElem?_eq_getElem hlt]; rfl
        have e1 : allP1 N p L (m + 1) = (allP1 N p L m && hasP N.n p (stepN N (L.getD m 0))) := rfl
        have e2 : sglP1 N p L (m + 1) = (sglP1 N p L m && oneP1 N p (L.getD m 0) N.n) := rfl
        rw [hgd] at e1 e2
        have hx2 := hsl.out L[m]
        obtain ⟨x, hx0⟩ : ∃ x, L[m] = x := ⟨_, rfl⟩
        rw [hx0] at hcell hx e1 e2 hx2
        have D1 := cs.out x hx
        have D2 := cH.out _ hx2
        have D3 := cIn.out (stepN N x)
        obtain ⟨y, hy⟩ : ∃ y, stepN N x = y := ⟨_, rfl⟩
        rw [hy] at D1 D2 D3 e1 hx2
        obtain ⟨hv, hhv⟩ : ∃ b, hasP N.n p y = b := ⟨_, rfl⟩
        rw [hhv] at D3 e1
        obtain ⟨ht1, hht1⟩ : ∃ z, termT N.n (hullP [y]) = z := ⟨_, rfl⟩
        rw [hht1] at D2 D3
        obtain ⟨am, ham⟩ : ∃ b, allP1 N p L m = b := ⟨_, rfl⟩
        obtain ⟨sm, hsm⟩ : ∃ b, sglP1 N p L m = b := ⟨_, rfl⟩
        rw [ham] at e1
        rw [hsm] at e2
        rw [ham, hsm]
        have E1 := Lib.hid D1
        have E2 := Lib.hid D2
        have E3 := Lib.hid D3
        have F1 := Lib.hid e1
        have F2 := Lib.hid e2
        have hmi : (m : Int) < (L.length : Int) := by omega
        clear hgd hx0 D1 D2 D3 e1 e2 hy hhv hht1 ham hsm
        go_wp2_with fail
        refine (E1.out _).mono ?_
        rintro e v1 ⟨hV1, rfl⟩
        have hU1 := hV.trans (hV1.mono hVs)
        have hcell1 := (hV1.cell hgl).trans hcell
        go_wp2_with ((with_reducible show wpList _ _ _ (⟨_, .buildSlice 30 1 _, _, _, _, _⟩ :: _) _ _); refine wpList_buildSlice' rfl _ _ _ rfl rfl (int_one (y : Int) _) ?_)
        refine (E2.out _).mono ?_
        rintro e v2 ⟨hV2, rfl⟩
        have hU2 := hU1.trans (hV2.mono hU1.size)
        have hgl1 : g < v1.heap.size := by have := hV1.size; omega
        have hcell2 := (hV2.cell hgl1).trans hcell1
        have hgl2 : g < v2.heap.size := by have := hV2.size; omega
        clear hcell hcell1
        have hcon : ∀ (vx : World) (hB : Below w7.heap.size w7 vx) (hcx : vx.cell? ⟨g, m, none⟩ = some (.int .i64 (x : Nat))) (hgx : g < vx.heap.size), True := fun _ _ _ _ => trivial
        clear hcon
        cases am
        case' true =>
          go_wp2_with fail
          refine (E3.out _).mono ?_
          rintro e v3 ⟨hV3, rfl⟩
          have hU3 := hU2.trans (hV3.mono hU2.size)
          have hcell3 := (hV3.cell hgl2).trans hcell2
          have hgl3 : g < v3.heap.size := by have := hV3.size; omega
        case' false =>
          obtain ⟨v3, rfl⟩ : ∃ v : World, v = v2 := ⟨_, rfl⟩
          have hU3 := hU2
          have hcell3 := hcell2
          have hgl3 := hgl2
        all_goals
          go_wp2_with fail
          go_loopw [8, 12, 13, 14] (fun sg j _ _ wr => ∃ i : Nat, i ≤ N.n ∧ j = .int .i64 i ∧ sg = .bool (sm && oneP1 N p x i) ∧ Below v3.heap.size v3 wr) (fun _ j _ _ _ => N.n - (intOf j).toNat)
          case atStart => exact ⟨0, Nat.zero_le _, rfl, by simp [oneP1, allB], Below.refl _ _⟩
          case round =>
            obtain ⟨i, hi, rfl, rfl, hY⟩ := hrel
            have hYs := hY.size
            by_cases hlti : i < N.n
            · have hz := hs1.out x i (N.f i x) hx hlti
              have C1 := cs1.out x i hx hlti
              have C2 := cH.out _ hz
              have C3 := cIn.out (setN x i (N.f i x))
              have f1 : oneP1 N p x (i + 1) = (oneP1 N p x i && hasP N.n p (setN x i (N.f i x))) := rfl
              obtain ⟨z, hz0⟩ : ∃ z, setN x i (N.f i x) = z := ⟨_, rfl⟩
              rw [hz0] at hz C1 C2 C3 f1
              obtain ⟨hq, hhq⟩ : ∃ b, hasP N.n p z = b := ⟨_, rfl⟩
              rw [hhq] at C3 f1
              obtain ⟨ht2, hht2⟩ : ∃ q, termT N.n (hullP [z]) = q := ⟨_, rfl⟩
              rw [hht2] at C2 C3
              have hcl := (hY.cell hgl3).trans hcell3
              obtain ⟨ob, hob⟩ : ∃ b, (sm && oneP1 N p x i) = b := ⟨_, rfl⟩
              have Hf := Lib.hid (show (sm && oneP1 N p x (i + 1)) = (ob && hq) by rw [f1, ← Bool.and_assoc, hob])
              rw [hob]
              have G1 := Lib.hid C1
              have G2 := Lib.hid C2
              have G3 := Lib.hid C3
              clear C1 C2 C3 f1 hz0 hhq hht2 hob hz
              go_wp2_with fail
              refine (G1.out _).mono ?_
              rintro e y1 ⟨hY1, rfl⟩
              go_wp2_with ((with_reducible show wpList _ _ _ (⟨_, .buildSlice 30 1 _, _, _, _, _⟩ :: _) _ _); refine wpList_buildSlice' rfl _ _ _ rfl rfl (int_one (z : Int) _) ?_)
              refine (G2.out _).mono ?_
              rintro e y2 ⟨hY2, rfl⟩
              have hZ1 := hY.trans (hY1.mono hYs)
              have hZ2 := hZ1.trans (hY2.mono hZ1.size)
              clear hcl
              cases ob
              · go_wp2_with fail
                go_roundw
                case rel => exact ⟨i + 1, by omega, by go_num, by rw [Hf.out]; rfl, hZ2⟩
                case measure => simp [intOf] <;> omega
              · go_wp2_with fail
                refine (G3.out _).mono ?_
                rintro e y3 ⟨hY3, rfl⟩
                go_wp2_with fail
                go_roundw
                case rel => exact ⟨i + 1, by omega, by go_num, by rw [Hf.out]; rfl, hZ2.trans (hY3.mono hZ2.size)⟩
                case measure => simp [intOf] <;> omega
            · obtain rfl : i = N.n := by omega
              go_wp2_with fail
              go_roundw
              case rel => exact ⟨m + 1, by omega, by go_num, by rw [F1.out]; rfl, by rw [F2.out], hU3.trans (hY.mono hU3.size)⟩
              case measure => simp [intOf] <;> omega
      · obtain rfl : m = L.length := by omega
        have hB8 := hB7.trans (hV.mono hB7.size)
        rw [Hap.out, Hsp.out]
        have Hai : (tb = true → (1 : Int) ≤ ai) ∧ (tb = false → ai = -1) := by
          constructor
          · intro h
            rw [Hat.out, h, if_pos rfl]
            have := Hpos.out h
            omega
          · intro h
            rw [Hat.out, h]; rfl
        have hL2 := Hls.out
        have haa : (ai == ai) = true := by simp
        cases tb
        · have hai := Hai.2 rfl
          subst hai
          clear Hai
          go_wp2_with fail
          refine (cA.out _).mono ?_
          rintro e u1 ⟨hU1, rfl⟩
          have hB9 := hB8.trans (hU1.mono hB8.size)
          go_wp2_with fail
          refine (cL.out _).mono ?_
          rintro e u2 ⟨hU2, rfl⟩
          have hB10 := hB9.trans (hU2.mono hB9.size)
          go_wp2_with fail
          refine (cA2.out _).mono ?_
          rintro e u3 ⟨hU3, rfl⟩
          go_wp2_with fail
          go_ret
          exact ⟨hB10.trans (hU3.mono hB10.size), by first | rfl | simp⟩
        · have hai := Hai.1 rfl
          clear Hai
          go_wp2_with fail
          refine (cA.out _).mono ?_
          rintro e u1 ⟨hU1, rfl⟩
          have hB9 := hB8.trans (hU1.mono hB8.size)
          go_wp2_with fail
          refine (cL.out _).mono ?_
          rintro e u2 ⟨hU2, rfl⟩
          have hB10 := hB9.trans (hU2.mono hB9.size)
          go_wp2_with fail
          refine (cA2.out _).mono ?_
          rintro e u3 ⟨hU3, rfl⟩
          go_wp2_with fail
          go_ret
          exact ⟨hB10.trans (hU3.mono hB10.size), by first | rfl | simp⟩
end Go.Proofs.YtcddnacbjdahbaaDoor
