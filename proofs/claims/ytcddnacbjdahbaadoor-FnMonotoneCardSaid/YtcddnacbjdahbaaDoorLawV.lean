/- Walk of the law on monotone networks. -/
import Derived.Test.YtcddnacbjdahbaaDoorDh
import Derived.Test.YtcddnacbjdahbaaDoorLawQ
import Derived.Test.YtcddnacbjdahbaaDoorImplK
import Derived.Test.YtcddnacbjdahbaaDoorWl
namespace Go.Proofs.YtcddnacbjdahbaaDoor
open Go Go.RowKit Go.Sw
set_option maxRecDepth 100000
set_option linter.unusedVariables false

/-- does the step keep the order when switch i is raised in s? -/
def chkN (N : Net) (s i : Nat) : Bool := leB (stepN N s) (stepN N (s ||| 2 ^ i))
def rowC (N : Net) (s : Nat) : Nat → Bool
  | 0 => true
  | k + 1 => rowC N s k && chkN N s k
def allC (N : Net) : Nat → Bool
  | 0 => true
  | m + 1 => allC N m && rowC N m N.n
theorem rowC_iff (N : Net) (s k : Nat) : rowC N s k = true ↔ ∀ i, i < k → chkN N s i = true := by
  induction k with
  | zero => exact ⟨fun _ i h => absurd h (Nat.not_lt_zero _), fun _ => rfl⟩
  | succ k ih =>
    rw [rowC, Bool.and_eq_true, ih]
    constructor
    · rintro ⟨h1, h2⟩ i hi
      by_cases e : i = k
      · subst e; exact h2
      · exact h1 i (by omega)
    · exact fun h => ⟨fun i hi => h i (by omega), h k (by omega)⟩
theorem allC_iff (N : Net) (m : Nat) : allC N m = true ↔ ∀ s, s < m → ∀ i, i < N.n → chkN N s i = true := by
  induction m with
  | zero => exact ⟨fun _ i h => absurd h (Nat.not_lt_zero _), fun _ => rfl⟩
  | succ k ih =>
    rw [allC, Bool.and_eq_true, ih, rowC_iff]
    constructor
    · rintro ⟨h1, h2⟩ i hi
      by_cases e : i = k
      · subst e; exact h2
      · exact h1 i (by omega)
    · exact fun h => ⟨fun i hi => h i (by omega), h k (by omega)⟩
theorem all_mono (N : Net) : allC N (pw N.n) = monoN N := by
  rw [Bool.eq_iff_iff, allC_iff]
  constructor
  · intro h
    rw [monoN_iff]
    intro j i hj hi
    cases e : sgD N.n (N.f i) j
    · rfl
    · obtain ⟨s, hs, hd⟩ := (anyB_iff _ _).1 e
      unfold downB at hd
      simp only [Bool.and_eq_true, Bool.not_eq_true'] at hd
      have hc := (leB_iff _ _).1 (h s hs j hj) i (by rw [stepN_testBit, decide_eq_true hi, hd.2.1]; rfl)
      rw [stepN_testBit, hd.2.2, Bool.and_false] at hc
      exact absurd hc (by decide)
  · intro h s hs i hi
    exact step_mono h (Nat.or_lt_two_pow hs (Nat.pow_lt_pow_right (by decide) hi)) ((leB_iff _ _).2 fun j hj => by rw [or_testBit_two]; split <;> first | rfl | exact hj)
theorem mono_wk {N : Net} (h : monoN N = true) {a b : Nat} {s : Bool} {l : List Nat} (hw : Wk (arcB N) a b s l) : s = true := by
  induction hw with
  | nil => rfl
  | @cons a b c s t l r _ ih =>
    subst ih
    cases s
    · have := (monoN_iff N).1 h a b r.1.1 r.1.2
      have hr := r.2
      rw [if_neg (by decide), this] at hr
      exact absurd hr (by decide)
    · rfl
theorem mono_minus {t : ByteArray} (h : netOk t = true) (hm : monoN (netOf t) = true) : hasB t ⟨#[45]⟩ = false := by
  unfold hasB
  rw [h, Bool.true_and]
  have : ((circL (netOf t)).any fun c => isC (circC (netOf t) c) ⟨#[45]⟩) = false := by
    rw [List.any_eq_false]
    intro c hc he
    have ha := (isC_minus (circC_le _ c)).1 he
    have := mono_wk hm (circ_wk hc ha).1
    exact absurd this (by decide)
  rw [this, Bool.and_false]
theorem mono_point {N : Net} (h : monoN N = true) (h5 : N.n ≤ 5) : 1 ≤ (fixL N).length := by
  have hr := rise_rest h h5 (s := 0) ⟨Nat.two_pow_pos _, (leB_iff _ _).2 fun i hi => by rw [Nat.zero_testBit] at hi; exact absurd hi (by decide)⟩
  have := fixL_mem.2 ⟨iterN_lt N 32 0 hr.1, hr.2⟩
  exact List.length_pos_of_mem this
set_option maxHeartbeats 2000000 in
theorem law_Monotone (w : World) (a : Option Addr) (n c : Nat) (hc : c ≤ maxLen) (h : CodeAt w a n c) :
    Calls Tryd.prog 8 #[.slice a n c] w fun e w' => Below w.heap.size w w' ∧ e = .returned (.bool true) := by
  have hle := h.1
  have m0 : n ≤ 9223372036854775807 := by unfold maxLen at hc; omega
  have cD := Lib.hid (drawMono_any a n c hc w h)
  clear h
  by_cases s0 : n ≤ 1048576
  case' neg =>
    go_enter Tryd.func8, Tryd.ntmps8
    go_wp2_with fail
    go_ret
    exact ⟨Below.refl _ _, rfl⟩
  go_enter Tryd.func8, Tryd.ntmps8
  go_wp2_with fail
  refine cD.out.mono ?_
  rintro e w1 ⟨hW1, t, ht, rfl⟩
  have hW1s := hW1.size
  have c1 := Lib.hid (fun wx => isMonotone_impl t wx (by omega))
  have c2 := Lib.hid (fun wx => isMonotone_spec t wx (by omega))
  have c3 := Lib.hid (fun wx => networkValid_impl t wx (by omega))
  have hmb := Lib.hid (show monoB t = (netOk t && monoN (netOf t)) from rfl)
  have hyes := Lib.hid (fun h : netOk t = true => (⟨h, netOf_ok h⟩ : netOk t = true ∧ 1 ≤ (netOf t).n ∧ (netOf t).n ≤ 5))
  obtain ⟨mb, hmb0⟩ : ∃ x, monoB t = x := ⟨_, rfl⟩
  obtain ⟨ok, hok0⟩ : ∃ x, netOk t = x := ⟨_, rfl⟩
  rw [hmb0] at c1 c2 hmb
  rw [hok0] at c3 hmb
  have e2 : (mb != mb) = false := by simp
  have e3 : (mb == mb) = true := by simp
  go_wp2_with fail
  refine (c1.out _).mono ?_
  rintro e w2 ⟨hW2, rfl⟩
  go_wp2_with fail
  refine (c2.out _).mono ?_
  rintro e w3 ⟨hW3, rfl⟩
  go_wp2_with fail
  refine (c3.out _).mono ?_
  rintro e w4 ⟨hW4, rfl⟩
  have k2 := hW2.size
  have k3 := hW3.size
  have k4 := hW4.size
  have hB4 : Below w.heap.size w w4 := ((hW1.trans (hW2.mono hW1s)).trans (hW3.mono (by omega))).trans (hW4.mono (by omega))
  cases ok
  · have hm : mb = false := by rw [hmb.out]; rfl
    subst hm
    clear hok0 hmb0
    go_wp2_with fail
    refine (c2.out _).mono ?_
    rintro e w5 ⟨hW5, rfl⟩
    go_wp2_with fail
    go_ret
    exact ⟨hB4.trans (hW5.mono hB4.size), rfl⟩
  · obtain ⟨hnok, hn1, hn5⟩ := hyes.out hok0
    have hm : mb = monoN (netOf t) := by rw [hmb.out]; rfl
    have cz := Lib.hid (fun wx => (sizI_yes hnok) ▸ sizeOf_impl t wx (by omega))
    have cs := Lib.hid (fun (s : Nat) (hs : s < pw (netOf t).n) wx => (stepI_nat hnok (s := s) hs) ▸ stepAll_impl t s wx (by omega))
    have ch := Lib.hid (fun wx => hasCircuit_impl t ⟨#[45]⟩ wx (by omega) (by decide))
    have hpt : pointsL t = fixL (netOf t) := by rw [pointsL, hnok]; rfl
    have cp := Lib.hid (fun wx => hpt ▸ fixedPoints_impl t wx (by omega))
    have hpl : (fixL (netOf t)).length ≤ 32 := by rw [← hpt]; exact pointsL_length t
    have hend := Lib.hid (fun h : mb = true => (⟨mono_minus hnok (hm ▸ h), mono_point (hm ▸ h) hn5⟩ : hasB t ⟨#[45]⟩ = false ∧ 1 ≤ (fixL (netOf t)).length))
    have hall := Lib.hid (show allC (netOf t) (pw (netOf t).n) = mb by rw [all_mono, hm])
    have hpw := pw_le hn5
    have hpc := pw_cast (netOf t).n
    have hp2 := pow2_le (netOf t).n hn5
    have hsl := Lib.hid (fun s => stepN_lt (netOf t) s)
    obtain ⟨N, hN⟩ : ∃ N, netOf t = N := ⟨_, rfl⟩
    obtain ⟨hb, hhb⟩ : ∃ x, hasB t ⟨#[45]⟩ = x := ⟨_, rfl⟩
    rw [hN] at cz cs cp hpl hend hall hpw hpc hp2 hsl hn1 hn5
    rw [hhb] at ch hend
    obtain ⟨fl, hfl⟩ : ∃ x, fixL N = x := ⟨_, rfl⟩
    rw [hfl] at cp hpl hend
    clear hok0 hmb0 hnok hm hmb hyes hpt hN hhb hfl c1 c3
    clear c2
    have hB5 := hB4
    go_wp2_with fail
    go_loopw [5, 6, 7, 8] (fun al s _ _ wr => ∃ m : Nat, m ≤ pw N.n ∧ s = .int .i64 m ∧ al = .bool (allC N m) ∧ Below w4.heap.size w4 wr) (fun _ s _ _ _ => pw N.n - (intOf s).toNat)
    case atStart => exact ⟨0, Nat.zero_le _, rfl, rfl, Below.refl _ _⟩
    case round =>
      obtain ⟨m, hm, rfl, rfl, hV⟩ := hrel
      have hVs := hV.size
      have hsuc := Lib.hid (show allC N (m + 1) = (allC N m && rowC N m N.n) from rfl)
      obtain ⟨am, ham⟩ : ∃ x, allC N m = x := ⟨_, rfl⟩
      rw [ham] at hsuc
      rw [ham]
      have Ham := Lib.hid ham
      clear ham
      go_wp2_with fail
      refine (cz.out _).mono ?_
      rintro e v1 ⟨hV1, rfl⟩
      have hB1 := hV.trans (hV1.mono hVs)
      by_cases hlt : m < pw N.n
      · go_wp2_with fail
        go_loopw [5, 7, 8] (fun al i _ wr => ∃ k : Nat, k ≤ N.n ∧ i = .int .i64 k ∧ al = .bool (am && rowC N m k) ∧ Below v1.heap.size v1 wr) (fun _ i _ _ => N.n - (intOf i).toNat)
        case atStart => exact ⟨0, Nat.zero_le _, rfl, by simp [rowC], Below.refl _ _⟩
        case round =>
          obtain ⟨k, hk, rfl, rfl, hU⟩ := hrel
          have hUs := hU.size
          by_cases hlk : k < N.n
          · have hor := or_pow m k (by omega) (by omega)
            have hpk := pow2_le k (by omega)
            have hnx : m ||| 2 ^ k < pw N.n := Nat.or_lt_two_pow hlt (Nat.pow_lt_pow_right (by decide) hlk)
            have hck : chkN N m k = leB (stepN N m) (stepN N (m ||| 2 ^ k)) := rfl
            have hrs : rowC N m (k + 1) = (rowC N m k && chkN N m k) := rfl
            have C1 := cs.out m hlt
            have C2 := cs.out _ hnx
            have hl1 := hsl.out m
            have hl2 := hsl.out (m ||| 2 ^ k)
            obtain ⟨nx, hnx0⟩ : ∃ x, m ||| 2 ^ k = x := ⟨_, rfl⟩
            rw [hnx0] at hor hnx hck C2 hl2
            obtain ⟨f1, hf1⟩ : ∃ x, stepN N m = x := ⟨_, rfl⟩
            obtain ⟨f2, hf2⟩ : ∃ x, stepN N nx = x := ⟨_, rfl⟩
            rw [hf1] at C1 hck hl1
            rw [hf2] at C2 hck hl2
            have hx := i64_andNot f1 f2 (by omega) (by omega)
            have hz := andNot_zero f1 f2
            rw [hck] at hrs
            obtain ⟨cb, hcb⟩ : ∃ x, leB f1 f2 = x := ⟨_, rfl⟩
            rw [hcb] at hz hrs
            obtain ⟨rb, hrb⟩ : ∃ x, rowC N m k = x := ⟨_, rfl⟩
            rw [hrb] at hrs
            rw [hrb]
            obtain ⟨g, hg⟩ : ∃ x, f1 ^^^ (f1 &&& f2) = x := ⟨_, rfl⟩
            rw [hg] at hx hz
            have Hrs := Lib.hid hrs
            have D1 := Lib.hid C1
            have D2 := Lib.hid C2
            clear C1 C2 hck hrs hnx0 hf1 hf2 hcb hrb hg
            go_wp2_with fail
            refine (cz.out _).mono ?_
            rintro e u1 ⟨hU1, rfl⟩
            have hB2 := hU.trans (hU1.mono hUs)
            have g1 := hB2.size
            cases hab : am && rb
            · go_wp2_with fail
              go_roundw
              case rel => exact ⟨k + 1, by omega, by go_num, by rw [Hrs.out, ← Bool.and_assoc, hab]; rfl, hB2⟩
              case measure => simp [intOf] <;> omega
            · go_wp2_with fail
              refine (D1.out _).mono ?_
              rintro e u2 ⟨hU2, rfl⟩
              go_wp2_with fail
              refine (D2.out _).mono ?_
              rintro e u3 ⟨hU3, rfl⟩
              have g2 := hU2.size
              have hB3 := (hB2.trans (hU2.mono g1)).trans (hU3.mono (by omega))
              go_wp2_with fail
              go_roundw
              case rel => exact ⟨k + 1, by omega, by go_num, by rw [Hrs.out, ← Bool.and_assoc, hab, Bool.true_and], hB3⟩
              case measure => simp [intOf] <;> omega
          · obtain rfl : k = N.n := by omega
            go_wp2_with fail
            refine (cz.out _).mono ?_
            rintro e u1 ⟨hU1, rfl⟩
            go_wp2_with fail
            go_roundw
            case rel => exact ⟨m + 1, by omega, by go_num, by rw [hsuc.out], (hB1.trans (hU.mono hB1.size)).trans (hU1.mono (by have := hB1.size; omega))⟩
            case measure => simp [intOf] <;> omega
      · obtain rfl : m = pw N.n := by omega
        have ham : am = mb := by rw [← Ham.out, hall.out]
        subst ham
        have hB6 := hB5.trans (hB1.mono hB5.size)
        cases am
        · go_wp2_with fail
          go_ret
          exact ⟨hB6, rfl⟩
        · obtain ⟨rfl, hf⟩ := hend.out rfl
          have hfi : (1 : Int) ≤ (fl.length : Int) := by omega
          go_wp2_with fail
          refine (ch.out _).mono ?_
          rintro e u1 ⟨hU1, rfl⟩
          go_wp2_with fail
          refine (cp.out _).mono ?_
          rintro e u2 ⟨hU2, a2, cp2, rfl, hI2⟩
          have g1 := hU1.size
          have g2 := hB6.size
          clear hI2
          go_wp2_with fail
          go_ret
          exact ⟨(hB6.trans (hU1.mono g2)).trans (hU2.mono (by omega)), by simp⟩
end Go.Proofs.YtcddnacbjdahbaaDoor
