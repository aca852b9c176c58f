/- Plain facts: a switch that does not act on itself is removed and put in again. Plain facts: the fixed points of a network without a switch are those of the network. Plain facts: reducing a network; a network without circuits is reduced to one switch. -/
import Derived.Test.YtkfagolmpbbckaaGreatDoorP2
import Derived.Test.YtkfagolmpbbckaaGreatDoorP1
namespace Go.Sw
open Go

theorem free_inf {N : Net} {i : Nat} (h : freeB N i = true) : 2 ≤ N.n ∧ infB N i i = false := by
  unfold freeB at h
  rw [Bool.and_eq_true, decide_eq_true_eq] at h
  refine ⟨h.1, ?_⟩
  cases e : infB N i i with
  | false => rfl
  | true => rw [e] at h; exact absurd h.2 (by decide)
theorem self_free {N : Net} {i s : Nat} (h : infB N i i = false) (hi : i < N.n) (hs : s < pw N.n) (b : Bool) : N.f i (setN s i b) = N.f i s := by
  apply Classical.byContradiction
  intro hne
  obtain ⟨j, hj, hb, ha⟩ := flip_arc hi (setN_lt s i N.n b hs hi) hs hne
  have hji : j = i := by
    apply Classical.byContradiction
    intro e
    rw [setN_testBit, if_neg e] at hb
    exact hb rfl
  subst hji
  rw [arc_inf ha] at h; cases h
theorem skip_ne (i j : Nat) : skip i j ≠ i := by unfold skip; split <;> omega
theorem putN_skip (s i j : Nat) : (putN s i).testBit (skip i j) = s.testBit j := by
  rw [putN_testBit]
  unfold skip
  by_cases h : j < i
  · rw [if_pos h, if_pos h]
  · rw [if_neg h, if_neg (by omega), if_neg (by omega)]; simp
theorem liftN_skip (N : Net) (i s j : Nat) : (liftN N i s).testBit (skip i j) = s.testBit j := by
  unfold liftN
  rw [setN_testBit, if_neg (skip_ne i j), putN_skip]
theorem drop_lift (N : Net) (i s : Nat) : dropN (liftN N i s) i = s := by
  apply Nat.eq_of_testBit_eq
  intro j
  rw [dropN_testBit, liftN_skip]
theorem lift_bit (N : Net) (i s : Nat) : (liftN N i s).testBit i = N.f i (putN s i) := by unfold liftN; exact setN_bit _ _ _
theorem putN_lt' {n s i : Nat} (h1 : 1 ≤ n) (hs : s < pw (n - 1)) : putN s i < pw n := by
  have := putN_lt s i (n - 1) hs
  rwa [show n - 1 + 1 = n by omega] at this
theorem lift_self {N : Net} {i s : Nat} (h : freeB N i = true) (hi : i < N.n) (hs : s < pw (N.n - 1)) : N.f i (liftN N i s) = (liftN N i s).testBit i := by
  obtain ⟨h2, hf⟩ := free_inf h
  rw [lift_bit]
  unfold liftN
  exact self_free hf hi (putN_lt' (by omega) hs) _
theorem lift_rest {N : Net} {i s : Nat} (h : freeB N i = true) (hi : i < N.n) (hs : s < pw (N.n - 1)) : (stepN N (liftN N i s) ^^^ liftN N i s).testBit i = false := by
  rw [Nat.testBit_xor, stepN_testBit, decide_eq_true hi, Bool.true_and, lift_self h hi hs]
  cases (liftN N i s).testBit i <;> rfl
theorem unskip {i j : Nat} (h : j ≠ i) : ∃ k, j = skip i k := by
  by_cases e : j < i
  · exact ⟨j, by unfold skip; rw [if_pos e]⟩
  · exact ⟨j - 1, by unfold skip; rw [if_neg (by omega)]; omega⟩
theorem put_drop (s i : Nat) : putN (dropN s i) i = setN s i false := by
  apply Nat.eq_of_testBit_eq
  intro j
  by_cases e : j = i
  · subst e
    rw [putN_testBit, if_neg (by omega), if_pos rfl, setN_bit]
  · obtain ⟨k, rfl⟩ := unskip e
    rw [putN_skip, dropN_testBit, setN_testBit, if_neg e]
theorem lift_drop {N : Net} {i s : Nat} (h : freeB N i = true) (hi : i < N.n) (hs : s < pw N.n) (hf : N.f i s = s.testBit i) : liftN N i (dropN s i) = s := by
  unfold liftN
  rw [put_drop, self_free (free_inf h).2 hi hs, hf, setN_setN]
  exact setN_eq_self rfl
theorem dropN_lt {s i n : Nat} (hi : i < n) (hs : s < pw n) : dropN s i < pw (n - 1) := by
  apply Nat.lt_pow_two_of_testBit
  intro j hj
  rw [dropN_testBit]
  exact testBit_high hs (by unfold skip; split <;> omega)
theorem remN_step {N : Net} {i s : Nat} (hi : i < N.n) (hs : s < pw (N.n - 1)) : stepN (remN N i) s = dropN (stepN N (liftN N i s)) i := by
  apply Nat.eq_of_testBit_eq
  intro j
  rw [stepN_testBit, dropN_testBit, stepN_testBit]
  show (decide (j < N.n - 1) && N.f (skip i j) (liftN N i s)) = _
  by_cases hj : j < N.n - 1
  · rw [decide_eq_true hj, decide_eq_true (skip_lt hj)]
  · rw [decide_eq_false hj, Bool.false_and]
    by_cases h2 : skip i j < N.n
    · exfalso; revert h2; unfold skip; split <;> omega
    · rw [decide_eq_false h2, Bool.false_and]
end Go.Sw
namespace Go.Sw
open Go

theorem lift_point {N : Net} {i s : Nat} (hf : freeB N i = true) (hi : i < N.n) (hs : s < pw (N.n - 1)) (h : stepN (remN N i) s = s) : stepN N (liftN N i s) = liftN N i s := by
  have hl := liftN_lt N i s hi hs
  apply Nat.eq_of_testBit_eq
  intro j
  by_cases e : j = i
  · subst e
    have := lift_rest hf hi hs
    rw [Nat.testBit_xor] at this
    revert this
    cases (stepN N (liftN N j s)).testBit j <;> cases (liftN N j s).testBit j <;> simp
  · obtain ⟨k, rfl⟩ := unskip e
    rw [← dropN_testBit, ← remN_step hi hs, h, liftN_skip]
theorem drop_point {N : Net} {i s : Nat} (hf : freeB N i = true) (hi : i < N.n) (hs : s < pw N.n) (h : stepN N s = s) : stepN (remN N i) (dropN s i) = dropN s i ∧ liftN N i (dropN s i) = s := by
  have hb : N.f i s = s.testBit i := fix_bit h hi
  have hl := lift_drop hf hi hs hb
  exact ⟨by rw [remN_step hi (dropN_lt hi hs), hl, h], hl⟩
theorem len_le {l m : List Nat} (hn : l.Nodup) (hs : ∀ x ∈ l, x ∈ m) : l.length ≤ m.length := by
  induction l generalizing m with
  | nil => exact Nat.zero_le _
  | cons a l ih =>
    obtain ⟨ha, hn⟩ := List.nodup_cons.1 hn
    have ham := hs a (by simp)
    have := ih (m := m.erase a) hn fun x hx => by
      have hne : x ≠ a := fun e => ha (e ▸ hx)
      exact (List.mem_erase_of_ne hne).2 (hs x (by simp [hx]))
    rw [List.length_erase_of_mem ham] at this
    have h0 : 0 < m.length := List.length_pos_of_mem ham
    rw [List.length_cons]; omega
theorem nodup_map {l : List Nat} {g : Nat → Nat} (hn : l.Nodup) (hg : ∀ x ∈ l, ∀ y ∈ l, g x = g y → x = y) : (l.map g).Nodup := by
  induction l with
  | nil => simp
  | cons a l ih =>
    obtain ⟨ha, hn⟩ := List.nodup_cons.1 hn
    rw [List.map_cons, List.nodup_cons]
    refine ⟨fun h => ?_, ih hn fun x hx y hy => hg x (by simp [hx]) y (by simp [hy])⟩
    obtain ⟨b, hb, e⟩ := List.mem_map.1 h
    have := hg b (by simp [hb]) a (by simp) e
    subst this
    exact ha hb
theorem pickL_sorted (p : Nat → Bool) (k : Nat) : (pickL p k).Pairwise (· < ·) := by
  induction k with
  | zero => exact List.Pairwise.nil
  | succ k ih =>
    rw [pickL]
    split
    · rw [List.pairwise_append]
      refine ⟨ih, List.pairwise_singleton _ _, fun a ha b hb => ?_⟩
      have h1 := (pickL_mem.1 ha).1
      have h2 : b = k := by simpa using hb
      omega
    · exact ih
theorem pickL_nodup (p : Nat → Bool) (k : Nat) : (pickL p k).Nodup := (pickL_sorted p k).imp fun h => by omega
end Go.Sw
namespace Go.Sw
open Go

theorem join_cuts (l : List UInt8) : joinL (cuts 44 l) = l := by
  induction l with
  | nil => rfl
  | cons b l ih =>
    rw [cuts]
    by_cases e : b = 44
    · rw [if_pos e, joinL_cons _ _ (cuts_ne _ _), ih, e]; rfl
    · rw [if_neg e]
      have hc := cuts_cons_head 44 l
      rw [hc] at ih
      cases ht : (cuts 44 l).tail with
      | nil => rw [ht] at ih; simp only [joinL] at ih ⊢; rw [ih]
      | cons q r => rw [ht] at ih; simp only [joinL, List.cons_append] at ih ⊢; rw [ih]
theorem netText_of {t : ByteArray} (h : netOk t = true) : netText (netOf t) = t := by
  unfold netText
  rw [netTexts_of h]
  unfold partsOf
  rw [List.map_map]
  have : (fun x : List UInt8 => x) = ((fun p : ByteArray => p.data.toList) ∘ bs) := by funext x; simp [bs]
  have e : List.map ((fun p : ByteArray => p.data.toList) ∘ bs) (cuts 44 t.data.toList) = cuts 44 t.data.toList := by rw [← this]; exact List.map_id' _
  rw [e, join_cuts, bs_of]
theorem freeL_none {N : Net} {m : Nat} (h : ∀ j, j < m → freeB N j = false) : freeL N m = [] := by
  induction m with
  | zero => rfl
  | succ m ih => rw [freeL, if_neg (by rw [h m (by omega)]; decide), ih fun j hj => h j (by omega)]
theorem freeL_first {N : Net} {k m : Nat} (hk : k < m) (hf : freeB N k = true) (h : ∀ j, j < k → freeB N j = false) : ∃ r, freeL N m = (k : Int) :: r := by
  induction m with
  | zero => omega
  | succ m ih =>
    rw [freeL]
    by_cases e : k = m
    · subst e
      rw [if_pos hf, freeL_none h]; exact ⟨[], rfl⟩
    · obtain ⟨r, hr⟩ := ih (by omega)
      split
      · exact ⟨r ++ [(m : Int)], by rw [hr]; rfl⟩
      · exact ⟨r, hr⟩
theorem freeL_eqv {N M : Net} (h : N.eqv M) (k : Nat) (hk : k ≤ N.n) : freeL N k = freeL M k := by
  induction k with
  | zero => rfl
  | succ k ih => rw [freeL, freeL, ih (by omega), h.free (by omega)]
theorem remL_text {M : Net} (h1 : 1 ≤ M.n) (h5 : M.n ≤ 5) : remL (netText M) = freeL M M.n := by
  have he := netOf_text h1
  rw [remL, netOk_text h1 h5, if_pos rfl, freeL_eqv he _ (Nat.le_refl _), he.1]
/-- what the loop over the removed switches holds -/
structure RdSt (N : Net) (gone : List Int) (tx : ByteArray) (M : Net) (f k : Nat) : Prop where
  text : tx = netText M
  n1 : 1 ≤ M.n
  n5 : M.n ≤ 5
  nf : M.n ≤ f
  g : redG f M = gone.drop k
  r : redN f M = redN N.n N
theorem RdSt.start {N : Net} {t : ByteArray} (hok : netOk t = true) (hN : netOf t = N) : RdSt N (redG N.n N) t N N.n 0 := by
  subst hN
  have := netOf_ok hok
  exact ⟨(netText_of hok).symm, this.1, this.2, Nat.le_refl _, by rw [List.drop_zero], rfl⟩
theorem RdSt.next {N M : Net} {gone : List Int} {tx : ByteArray} {f k : Nat} (h : RdSt N gone tx M f k) (hk : k < gone.length) :
    ∃ i : Nat, gone[k] = (i : Int) ∧ (∃ r, remL tx = (i : Int) :: r) ∧ remB tx i = true ∧ ∃ f', RdSt N gone (remT tx i) (remN M i) f' (k + 1) := by
  have hd : gone.drop k = gone[k] :: gone.drop (k + 1) := List.drop_eq_getElem_cons hk
  obtain ⟨f', rfl⟩ : ∃ f', f = f' + 1 := ⟨f - 1, by have := h.n1; have := h.nf; omega⟩
  rcases ffI_cases M with ⟨hm, _⟩ | ⟨i, hi, hfi, hfb, hlow⟩
  · have := h.g
    rw [redG_none hm, hd] at this; cases this
  · have hg := h.g
    rw [redG_some hfi, hd] at hg
    obtain ⟨hg1, hg2⟩ := List.cons.inj hg
    obtain ⟨h2, _⟩ := free_inf hfb
    have he := netOf_text h.n1
    have hok := netOk_text h.n1 h.n5
    have hrb : remB tx i = true := by
      rw [h.text]
      unfold remB swB
      rw [hok, Bool.true_and, he.1]
      simp only [Bool.and_eq_true, decide_eq_true_eq, Int.toNat_natCast]
      exact ⟨⟨by omega, by omega⟩, by rw [he.free (by rw [he.1]; exact hi)]; exact hfb⟩
    refine ⟨i, hg1.symm, ?_, hrb, f', ?_, by show 1 ≤ M.n - 1; omega, by show M.n - 1 ≤ 5; have := h.n5; omega, by show M.n - 1 ≤ f'; have := h.nf; omega, hg2, ?_⟩
    · rw [h.text, remL_text h.n1 h.n5]
      exact freeL_first hi hfb hlow
    · rw [remT, hrb, if_pos rfl, Int.toNat_natCast, h.text]
      exact (he.rem (by rw [he.1]; exact hi)).text
    · have := h.r
      rw [redN_some hfi] at this
      exact this
theorem RdSt.done {N M : Net} {gone : List Int} {tx : ByteArray} {f k : Nat} (h : RdSt N gone tx M f k) (hk : gone.length ≤ k) : redN N.n N = M ∧ ffI M = -1 := by
  have hg := h.g
  rw [List.drop_eq_nil_of_le hk] at hg
  obtain ⟨f', rfl⟩ : ∃ f', f = f' + 1 := ⟨f - 1, by have := h.n1; have := h.nf; omega⟩
  rcases ffI_cases M with ⟨hm, _⟩ | ⟨i, hi, hfi, hfb, hlow⟩
  · exact ⟨by rw [← h.r, redN_none hm], hm⟩
  · rw [redG_some hfi] at hg; cases hg
theorem red_count (f : Nat) (N : Net) : (redN f N).n + (redG f N).length = N.n := by
  induction f generalizing N with
  | zero => simp [redN, redG]
  | succ f ih =>
    rcases ffI_cases N with ⟨hm, _⟩ | ⟨i, hi, hfi, hfb, hlow⟩
    · rw [redN_none hm, redG_none hm]; simp
    · rw [redN_some hfi, redG_some hfi, List.length_cons]
      have := ih (remN N i)
      have h2 := (free_inf hfb).1
      have hr : (remN N i).n = N.n - 1 := rfl
      omega
/-- an influence in the network without a switch comes of one or two in the network -/
theorem arc_back {N : Net} {i a b : Nat} {s : Bool} (hf : freeB N i = true) (hi : i < N.n) (h : arcB (remN N i) a b s) : ∃ u l, l ≠ [] ∧ Wk (arcB N) (skip i a) (skip i b) u l := by
  have hrn : (remN N i).n = N.n - 1 := rfl
  have ha : a < N.n - 1 := h.1.1
  have hb : b < N.n - 1 := h.1.2
  have h2 := (free_inf hf).1
  have hinf := arc_inf h
  obtain ⟨x, y, hx, hy, hxy, hne⟩ : ∃ x y, x < pw (N.n - 1) ∧ y < pw (N.n - 1) ∧ (∀ j, j ≠ a → x.testBit j = y.testBit j) ∧ (remN N i).f b x ≠ (remN N i).f b y := by
    unfold infB at hinf
    rw [Bool.or_eq_true] at hinf
    have key : ∀ x, x < pw (N.n - 1) → x < pw (N.n - 1) ∧ x ||| 2 ^ a < pw (N.n - 1) ∧ ∀ j, j ≠ a → x.testBit j = (x ||| 2 ^ a).testBit j := fun x hx =>
      ⟨hx, or_two_lt hx ha, fun j hj => by rw [or_testBit_two, if_neg hj]⟩
    rcases hinf with h1 | h1
    · unfold sgU at h1
      obtain ⟨x, hx, hp⟩ := (anyB_iff _ _).1 h1
      obtain ⟨k1, k2, k3⟩ := key x hx
      refine ⟨x, x ||| 2 ^ a, k1, k2, k3, ?_⟩
      unfold upB at hp
      simp only [Bool.and_eq_true, Bool.not_eq_true'] at hp
      rw [hp.2.1, hp.2.2]; decide
    · unfold sgD at h1
      obtain ⟨x, hx, hp⟩ := (anyB_iff _ _).1 h1
      obtain ⟨k1, k2, k3⟩ := key x hx
      refine ⟨x, x ||| 2 ^ a, k1, k2, k3, ?_⟩
      unfold downB at hp
      simp only [Bool.and_eq_true, Bool.not_eq_true'] at hp
      rw [hp.2.1, hp.2.2]; decide
  obtain ⟨j, hj, hjb, harc⟩ := flip_arc (skip_lt hb) (liftN_lt N i x hi hx) (liftN_lt N i y hi hy) hne
  by_cases e : j = i
  · subst e
    rw [lift_bit, lift_bit] at hjb
    obtain ⟨k, hk, hkb, harc2⟩ := flip_arc hi (putN_lt' (by omega) hx) (putN_lt' (by omega) hy) hjb
    have hka : k = skip j a := by
      apply Classical.byContradiction
      intro hka
      by_cases e2 : k = j
      · subst e2
        apply hkb
        rw [putN_testBit, putN_testBit]; simp
      · obtain ⟨k', rfl⟩ := unskip e2
        rw [putN_skip, putN_skip] at hkb
        exact hkb (hxy k' fun e3 => hka (by rw [e3]))
    subst hka
    exact ⟨_, _, by simp, (Wk.one harc2).append (Wk.one harc)⟩
  · obtain ⟨k, rfl⟩ := unskip e
    rw [liftN_skip, liftN_skip] at hjb
    have hka : k = a := Classical.byContradiction fun h3 => hjb (hxy k h3)
    subst hka
    exact ⟨_, _, by simp, Wk.one harc⟩
theorem way_back {N : Net} {i a b : Nat} {s : Bool} {l : List Nat} (hf : freeB N i = true) (hi : i < N.n) (h : Wk (arcB (remN N i)) a b s l) : ∃ u m, Wk (arcB N) (skip i a) (skip i b) u m ∧ (l ≠ [] → m ≠ []) := by
  induction h with
  | nil a => exact ⟨_, _, .nil _, fun h => absurd rfl h⟩
  | cons r _ ih =>
    obtain ⟨u, m, h1, h2⟩ := arc_back hf hi r
    obtain ⟨u', m', h3, _⟩ := ih
    exact ⟨_, _, h2.append h3, fun _ => by simp [h1]⟩
theorem flow_rem {N : Net} {i : Nat} (hc : circL N = []) (hf : freeB N i = true) (hi : i < N.n) : circL (remN N i) = [] := by
  rw [List.eq_nil_iff_forall_not_mem]
  intro c hm
  have hk : (∃ s, adm (circC (remN N i) c) s) := by
    rcases circ_some (circC_le (remN N i) c) with h | h
    · exact ⟨_, h⟩
    · exact ⟨_, h⟩
  obtain ⟨s, hs⟩ := hk
  obtain ⟨hw, _, hne⟩ := circ_wk hm hs
  obtain ⟨u, m, h1, h2⟩ := way_back hf hi hw
  obtain ⟨b, v, m', h3, h4, h5, _⟩ := simple_some m.length _ _ _ (Nat.le_refl _) (h2 hne) h1
  obtain ⟨c', hc', _⟩ := circ_of h3 h4 h5
  rw [hc] at hc'; cases hc'
theorem flow_free {N : Net} (hc : circL N = []) (h2 : 2 ≤ N.n) (k : Nat) (hk : k < N.n) : freeB N k = true := by
  unfold freeB
  rw [decide_eq_true (by omega), Bool.true_and]
  cases e : infB N k k with
  | false => rfl
  | true =>
    obtain ⟨s, hs⟩ := inf_arc hk hk e
    obtain ⟨c', hc', _⟩ := circ_of (Wk.one hs) (by simp) (by simp)
    rw [hc] at hc'; cases hc'
theorem flow_one (f : Nat) (N : Net) (h1 : 1 ≤ N.n) (hf : N.n ≤ f) (hc : circL N = []) : (redN f N).n = 1 := by
  have key : ∀ (f : Nat) (N : Net), circL N = [] → circL (redN f N) = [] := by
    intro f
    induction f with
    | zero => intro N h; exact h
    | succ f ih =>
      intro N h
      rcases ffI_cases N with ⟨hm, _⟩ | ⟨i, hi, hfi, hfb, hlow⟩
      · rw [redN_none hm]; exact h
      · rw [redN_some hfi]; exact ih _ (flow_rem h hfb hi)
  have hd := redN_done f N hf
  have hp := (redN_pos f N h1).1
  have hcc := key f N hc
  rcases ffI_cases (redN f N) with ⟨_, hno⟩ | ⟨i, hi, hfi, _, _⟩
  · apply Classical.byContradiction
    intro hn
    have := flow_free hcc (by omega) 0 (by omega)
    rw [hno 0 (by omega)] at this; cases this
  · rw [hd] at hfi; omega
end Go.Sw
