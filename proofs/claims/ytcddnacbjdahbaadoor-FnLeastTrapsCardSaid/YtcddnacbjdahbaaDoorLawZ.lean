/- Plain lemmas: least traps lie apart, each trap has one within it, each but the whole lies in a greatest one; attractors in least traps. Plain facts for the law on least traps. Walk of the law on least and greatest traps. -/
import Derived.Test.YtcddnacbjdahbaaDoorMk
import Derived.Test.YtcddnacbjdahbaaDoorDi
import Derived.Test.YtcddnacbjdahbaaDoorImplZ
import Derived.Test.YtcddnacbjdahbaaDoorIv
import Derived.Test.YtcddnacbjdahbaaDoorQo
import Derived.Test.YtcddnacbjdahbaaDoorBn
import Derived.Deep.RegionHeld3
namespace Go.Sw
open Go
set_option maxRecDepth 100000
set_option linter.unusedVariables false

theorem neqT_iffZ {u t : ByteArray} : neqT u t = true ↔ u ≠ t := by
  unfold neqT
  rw [ByteArray.toList_eq, ByteArray.toList_eq, Bool.not_eq_true', beq_eq_false_iff_ne]
  exact ⟨fun h e => h (by rw [e]), fun h e => h (ba_ext e)⟩
theorem lessB_iff {xs : List ByteArray} {t : ByteArray} : lessB xs t = true ↔ ∃ u ∈ xs, u ≠ t ∧ insB u t = true := by
  unfold lessB
  rw [List.any_eq_true]
  simp only [Bool.and_eq_true, neqT_iffZ]
theorem moreB_iff {xs : List ByteArray} {t : ByteArray} : moreB xs t = true ↔ ∃ u ∈ xs, u ≠ t ∧ insB t u = true := by
  unfold moreB
  rw [List.any_eq_true]
  simp only [Bool.and_eq_true, neqT_iffZ]
def leastP (N : Net) : List Trm := (trapsP N).filter fun p => !lessB (trapsT N) (termT N.n p)
theorem leastP_trap {N : Net} {p : Trm} (h : p ∈ leastP N) : trapP N p = true := trapsP_mem (List.mem_filter.1 h).1
theorem mem_trapsT {N : Net} {p : Trm} (h : trapP N p = true) : termT N.n p ∈ trapsT N := by
  obtain ⟨q, hq, e⟩ := trapsP_has h
  unfold trapsT
  rw [← termT_congr e]
  exact List.mem_map.2 ⟨q, hq, rfl⟩
theorem meet_ins (p q : Trm) (n : Nat) : insTo (meetT p q) p n = true := by
  rw [insTo_iff]
  intro i hi
  cases h : p i with
  | none => exact .inl rfl
  | some b => exact .inr (by unfold meetT; rw [h])
theorem meet_ins2 {p q : Trm} {n : Nat} (hok : okT p q n = true) : insTo (meetT p q) q n = true := by
  rw [insTo_iff]
  rw [okT_iff] at hok
  intro i hi
  unfold meetT
  rcases hok i hi with h | h | h
  · rw [h]; exact .inr rfl
  · exact .inl h
  · cases hp : p i with
    | none => exact .inr rfl
    | some b => exact .inr (by rw [← h, hp])
theorem least_only {N : Net} {p q : Trm} (hp : p ∈ leastP N) (hq : trapP N q = true) (h : insTo q p N.n = true) : termT N.n q = termT N.n p := by
  have hl := (List.mem_filter.1 hp).2
  apply Classical.byContradiction
  intro hne
  have : lessB (trapsT N) (termT N.n p) = true := lessB_iff.2 ⟨_, mem_trapsT hq, hne, by rw [insB_term]; exact h⟩
  rw [this] at hl
  exact absurd hl (by decide)
theorem least_apart {N : Net} {p q : Trm} (hp : p ∈ leastP N) (hq : q ∈ leastP N) (hne : termT N.n p ≠ termT N.n q) : okT p q N.n = false := by
  cases h : okT p q N.n
  · rfl
  · have hm := meet_trap h (leastP_trap hp) (leastP_trap hq)
    exact absurd ((least_only hp hm (meet_ins p q _)).symm.trans (least_only hq hm (meet_ins2 h))) hne
theorem star_lt {n : Nat} {p q : Trm} (h : insTo p q n = true) (hne : termT n p ≠ termT n q) : starN n p < starN n q := by
  rw [insTo_iff] at h
  have : ∃ i, i < n ∧ p i ≠ q i := by
    apply Classical.byContradiction
    intro hc
    exact hne (termT_congr fun i hi => Classical.byContradiction fun e => hc ⟨i, hi, e⟩)
  obtain ⟨i, hi, he⟩ := this
  have hqi : q i = none := (h i hi).resolve_right he
  unfold starN
  refine filter_lt (i := i) (fun j hj hp => ?_) (List.mem_range.2 hi) ?_ (by rw [hqi]; rfl)
  · rcases h j (List.mem_range.1 hj) with e | e
    · rw [e]; rfl
    · rw [← e]; exact hp
  · cases hp : p i with
    | none => exact absurd (hp.trans hqi.symm) he
    | some b => rfl
theorem ins_self (p : Trm) (n : Nat) : insTo p p n = true := (insTo_iff _ _ _).2 fun _ _ => .inr rfl
theorem ins_tr {n : Nat} {p q r : Trm} (h : insTo p q n = true) (k : insTo q r n = true) : insTo p r n = true := by
  rw [insTo_iff] at *
  intro i hi
  rcases k i hi with e | e
  · exact .inl e
  · rcases h i hi with e2 | e2
    · exact .inl (by rw [← e]; exact e2)
    · exact .inr (e2.trans e)
theorem least_within {N : Net} (m : Nat) : ∀ p, p ∈ trapsP N → starN N.n p ≤ m → ∃ q ∈ leastP N, insTo q p N.n = true := by
  induction m with
  | zero =>
    intro p hp hm
    refine ⟨p, List.mem_filter.2 ⟨hp, ?_⟩, ins_self p _⟩
    cases hl : lessB (trapsT N) (termT N.n p)
    · rfl
    · obtain ⟨u, hu, hne, hi⟩ := lessB_iff.1 hl
      obtain ⟨q, hq, rfl⟩ := List.mem_map.1 hu
      rw [insB_term] at hi
      have := star_lt hi hne
      omega
  | succ m ih =>
    intro p hp hm
    cases hl : lessB (trapsT N) (termT N.n p)
    · exact ⟨p, List.mem_filter.2 ⟨hp, by rw [hl]; rfl⟩, ins_self p _⟩
    · obtain ⟨u, hu, hne, hi⟩ := lessB_iff.1 hl
      obtain ⟨q, hq, rfl⟩ := List.mem_map.1 hu
      rw [insB_term] at hi
      have := star_lt hi hne
      obtain ⟨r, hr, h2⟩ := ih q hq (by omega)
      exact ⟨r, hr, ins_tr h2 hi⟩
def greatP (N : Net) : List Trm := (trapsP N).tail.filter fun p => !moreB (trapsT N).tail (termT N.n p)
theorem great_around {N : Net} (m : Nat) : ∀ p, p ∈ (trapsP N).tail → N.n ≤ starN N.n p + m → ∃ q ∈ greatP N, insTo p q N.n = true := by
  have ht : (trapsT N).tail = (trapsP N).tail.map (termT N.n) := by unfold trapsT; rw [List.map_tail]
  induction m with
  | zero =>
    intro p hp hm
    refine ⟨p, List.mem_filter.2 ⟨hp, ?_⟩, ins_self p _⟩
    cases hl : moreB (trapsT N).tail (termT N.n p)
    · rfl
    · obtain ⟨u, hu, hne, hi⟩ := moreB_iff.1 hl
      rw [ht] at hu
      obtain ⟨q, hq, rfl⟩ := List.mem_map.1 hu
      rw [insB_term] at hi
      have := star_lt hi (fun e => hne e.symm)
      have := starN_le N.n q
      omega
  | succ m ih =>
    intro p hp hm
    cases hl : moreB (trapsT N).tail (termT N.n p)
    · exact ⟨p, List.mem_filter.2 ⟨hp, by rw [hl]; rfl⟩, ins_self p _⟩
    · obtain ⟨u, hu, hne, hi⟩ := moreB_iff.1 hl
      rw [ht] at hu
      obtain ⟨q, hq, rfl⟩ := List.mem_map.1 hu
      rw [insB_term] at hi
      have := star_lt hi (fun e => hne e.symm)
      obtain ⟨r, hr, h2⟩ := ih q hq (by omega)
      exact ⟨r, hr, ins_tr hi h2⟩
theorem filter_map_texts {f : Trm → ByteArray} {g : ByteArray → Bool} (l : List Trm) : (l.map f).filter g = (l.filter fun p => g (f p)).map f := by
  induction l with
  | nil => rfl
  | cons a r ih =>
    rw [List.map_cons]
    cases h : g (f a)
    · rw [List.filter_cons_of_neg (by rw [h]; decide), List.filter_cons_of_neg (by rw [h]; decide), ih]
    · rw [List.filter_cons_of_pos h, ih, show ((a :: r).filter fun p => g (f p)) = a :: r.filter fun p => g (f p) from List.filter_cons_of_pos h, List.map_cons]
theorem leastL_text {t : ByteArray} (h : netOk t = true) : leastL t = (leastP (netOf t)).map (termT (netOf t).n) := by
  have : trapsL t = trapsT (netOf t) := by unfold trapsL; rw [h]; rfl
  unfold leastL leastT leastP
  rw [this]
  have := filter_map_texts (f := termT (netOf t).n) (g := fun x => !lessB (trapsT (netOf t)) x) (trapsP (netOf t))
  exact this
theorem greatL_text {t : ByteArray} (h : netOk t = true) : greatL t = (greatP (netOf t)).map (termT (netOf t).n) := by
  have e : trapsL t = trapsT (netOf t) := by unfold trapsL; rw [h]; rfl
  have ht : (trapsT (netOf t)).tail = (trapsP (netOf t)).tail.map (termT (netOf t).n) := by unfold trapsT; rw [List.map_tail]
  unfold greatL greatT greatP
  rw [e]
  have := filter_map_texts (f := termT (netOf t).n) (g := fun x => !moreB (trapsT (netOf t)).tail x) (trapsP (netOf t)).tail
  rw [← ht] at this
  exact this
theorem leastL_nodup (t : ByteArray) : (leastL t).Nodup := (trapsL_nodup t).filter _
/-! ### attractors in least traps -/
theorem both_ok {n : Nat} {p q : Trm} {s : Nat} (hp : hasP n p s = true) (hq : hasP n q s = true) : okT p q n = true := by
  rw [okT_iff]
  rw [hasP_iff] at hp hq
  intro i hi
  have h1 := hp i hi
  have h2 := hq i hi
  cases ep : p i with
  | none => exact .inl rfl
  | some b =>
    cases eq : q i with
    | none => exact .inr (.inl rfl)
    | some c =>
      rw [ep] at h1
      rw [eq] at h2
      simp only [fitB, beq_iff_eq] at h1 h2
      exact .inr (.inr (by rw [h1, h2]))
/-- the sum over the first k of a list of terms -/
noncomputable def sumA (N : Net) (ps : List Trm) : Nat → Nat
  | 0 => 0
  | k + 1 => sumA N ps k + attIn N (ps.getD k fun _ => none)
theorem filter_or_len {α : Type} (l : List α) (f g : α → Bool) (h : ∀ x ∈ l, f x = true → g x = true → False) : (l.filter fun x => f x || g x).length = (l.filter f).length + (l.filter g).length := by
  induction l with
  | nil => rfl
  | cons a r ih =>
    have ih := ih fun x hx => h x (List.mem_cons_of_mem _ hx)
    have ha := h a (List.mem_cons_self ..)
    cases hf : f a <;> cases hg : g a <;> simp [List.filter_cons, hf, hg] at ha ⊢ <;> omega
theorem sumA_filter {N : Net} {ps : List Trm} (hd : ∀ i j (hi : i < ps.length) (hj : j < ps.length), i < j → okT ps[j] ps[i] N.n = false) (k : Nat) (hk : k ≤ ps.length) :
    sumA N ps k = ((attS N).filter fun s => (ps.take k).any fun p => hasP N.n p s).length := by
  induction k with
  | zero =>
    rw [sumA, List.take_zero]
    have : ((attS N).filter fun s => ([] : List Trm).any fun p => hasP N.n p s) = [] := List.filter_eq_nil_iff.2 fun x _ => by simp
    rw [this]; rfl
  | succ k ih =>
    have hlt : k < ps.length := by omega
    have hg : ps.getD k (fun _ => none) = ps[k] := by rw [List.getD_eq_getElem?_getD, List.getElem?_eq_getElem hlt]; rfl
    rw [sumA, ih (by omega), hg]
    have ht : ps.take (k + 1) = ps.take k ++ [ps[k]] := by rw [List.take_add_one, List.getElem?_eq_getElem hlt]; rfl
    have e : (fun s => (ps.take (k + 1)).any fun p => hasP N.n p s) = fun s => ((ps.take k).any fun p => hasP N.n p s) || hasP N.n ps[k] s := by
      funext s
      rw [ht, List.any_append]; simp
    rw [e, filter_or_len]
    · rfl
    · intro s _ h1 h2
      obtain ⟨p, hp, hps⟩ := List.any_eq_true.1 h1
      obtain ⟨i, hi, rfl⟩ := List.getElem_of_mem hp
      rw [List.length_take] at hi
      have hik : i < k := by omega
      rw [List.getElem_take] at hps
      have := hd i k (by omega) hlt hik
      rw [both_ok h2 hps] at this
      exact absurd this (by decide)
theorem sumA_le {N : Net} {ps : List Trm} (hd : ∀ i j (hi : i < ps.length) (hj : j < ps.length), i < j → okT ps[j] ps[i] N.n = false) : sumA N ps ps.length ≤ (attL N).length := by
  rw [sumA_filter hd _ (Nat.le_refl _)]
  unfold attL
  rw [List.length_map]
  exact List.length_filter_le _ _
theorem sumA_ge {N : Net} {ps : List Trm} (h : ∀ p ∈ ps, 1 ≤ attIn N p) (k : Nat) (hk : k ≤ ps.length) : k ≤ sumA N ps k := by
  induction k with
  | zero => exact Nat.zero_le _
  | succ k ih =>
    have hlt : k < ps.length := by omega
    have hg : ps.getD k (fun _ => none) = ps[k] := by rw [List.getD_eq_getElem?_getD, List.getElem?_eq_getElem hlt]; rfl
    rw [sumA, hg]
    have := h _ (List.getElem_mem hlt)
    have := ih (by omega)
    omega
end Go.Sw
namespace Go.Sw
open Go
set_option maxRecDepth 100000
set_option linter.unusedVariables false

def noneP : Trm := fun _ => none
theorem pickL_leO {p q : Nat → Bool} (h : ∀ i, q i = true → p i = true) (k : Nat) : (pickL q k).length ≤ (pickL p k).length := by
  induction k with
  | zero => exact Nat.le_refl _
  | succ k ih =>
    rw [pickL, pickL]
    cases hq : q k
    · rw [if_neg (by decide)]
      split
      · rw [List.length_append]; omega
      · exact ih
    · rw [if_pos rfl, h k hq, if_pos rfl, List.length_append, List.length_append]
      simpa using ih
theorem pickL_ltO {p q : Nat → Bool} (h : ∀ i, q i = true → p i = true) {m : Nat} (h1 : p m = true) (h2 : q m = false) (k : Nat) (hm : m < k) : (pickL q k).length < (pickL p k).length := by
  induction k with
  | zero => omega
  | succ k ih =>
    rw [pickL, pickL]
    by_cases e : m = k
    · subst e
      rw [h2, if_neg (by decide), h1, if_pos rfl, List.length_append]
      have := pickL_leO h m
      simp; omega
    · have := ih (by omega)
      cases hq : q k
      · rw [if_neg (by decide)]
        split
        · rw [List.length_append]; omega
        · exact this
      · rw [if_pos rfl, h k hq, if_pos rfl, List.length_append, List.length_append]
        simpa using this
theorem to_steadyO {N : Net} (m : Nat) : ∀ s, s < pw N.n → (stR N s).length ≤ m → ∃ t, AR N s t ∧ t < pw N.n ∧ steadyB N t = true := by
  induction m with
  | zero =>
    intro s hs h
    have := pickL_mem.2 ⟨hs, arB_refl N s⟩
    have := List.length_pos_of_mem this
    unfold stR at h
    omega
  | succ m ih =>
    intro s hs h
    by_cases hst : steadyB N s = true
    · exact ⟨s, .refl s, hs, hst⟩
    · have : ∃ t, AR N s t ∧ ¬ AR N t s := by
        apply Classical.byContradiction
        intro hc
        apply hst
        rw [steadyB_iff hs]
        intro t ht
        apply Classical.byContradiction
        intro hn
        exact hc ⟨t, ht, hn⟩
      obtain ⟨t, h1, h2⟩ := this
      have hlt := pickL_ltO (p := arB N s) (q := arB N t) (fun i hi => arB_iff.2 (h1.trans (arB_iff.1 hi))) (m := s) (arB_refl N s) (by
        cases e : arB N t s with
        | false => rfl
        | true => exact absurd (arB_iff.1 e) h2) (pw N.n) hs
      obtain ⟨u, k1, k2, k3⟩ := ih t (h1.lt hs) (by unfold stR at h ⊢; omega)
      exact ⟨u, h1.trans k1, k2, k3⟩
theorem att_posO {N : Net} {p : Trm} (ht : trapP N p = true) : 1 ≤ attIn N p := by
  have hs := ofBits_lt N.n fun i => p i == some true
  obtain ⟨t, h1, h2, h3⟩ := to_steadyO (N := N) _ (someS N.n p) hs (Nat.le_refl _)
  have hpt := trap_AR ht h1 hs (someS_has N.n p)
  have : ∃ s, s < pw N.n ∧ leastB N s = true ∧ hasP N.n p s = true := by
    cases hl : leastB N t with
    | true => exact ⟨t, h2, hl, hpt⟩
    | false =>
      obtain ⟨s, k1, k2, k3⟩ := (done_iff h2 h3).2 hl
      have hsl : s < pw N.n := by omega
      exact ⟨s, hsl, k2, trap_AR ht ((steadyB_iff hsl).1 (leastB_iff.1 k2).1 t k3) h2 hpt⟩
  obtain ⟨s, k1, k2, k3⟩ := this
  unfold attIn
  exact List.length_pos_of_mem (List.mem_filter.2 ⟨pickL_mem.2 ⟨k1, k2⟩, k3⟩)
theorem getD_elem {ps : List Trm} {j : Nat} (h : j < ps.length) : ps.getD j noneP = ps[j] := by
  rw [List.getD_eq_getElem?_getD, List.getElem?_eq_getElem h]; rfl
theorem attS_le (N : Net) : (attS N).length ≤ pw N.n := pickL_length _ _
theorem least_facts {t : ByteArray} (h : netOk t = true) : ∃ (L : List ByteArray) (ps : List Trm), leastL t = L ∧ L.length ≤ 243 ∧ 0 < L.length ∧
    (∀ j (hj : j < L.length), L[j] = termT (netOf t).n (ps.getD j noneP) ∧ trapP (netOf t) (ps.getD j noneP) = true) ∧
    (∀ i j, i < L.length → j < i → okT (ps.getD i noneP) (ps.getD j noneP) (netOf t).n = false) ∧
    (∀ k, k ≤ L.length → sumA (netOf t) ps k ≤ 32 ∧ k ≤ sumA (netOf t) ps k) ∧
    sumA (netOf t) ps L.length ≤ (attL (netOf t)).length ∧
    (∀ p ∈ trapsP (netOf t), anyB (fun j => insTo (ps.getD j noneP) p (netOf t).n) L.length = true) := by
  have hl := leastL_text h
  have hnd := leastL_nodup t
  have h243 := leastL_length t
  have hn := netOf_ok h
  rw [hl] at hnd h243
  have hlen : ((leastP (netOf t)).map (termT (netOf t).n)).length = (leastP (netOf t)).length := List.length_map ..
  have hap : ∀ i j (hi : i < (leastP (netOf t)).length) (hj : j < (leastP (netOf t)).length), i ≠ j → okT (leastP (netOf t))[i] (leastP (netOf t))[j] (netOf t).n = false := fun i j hi hj hne => by
    refine least_apart (List.getElem_mem hi) (List.getElem_mem hj) fun e => hne ?_
    have := (List.getElem_inj (i := i) (j := j) (h₀ := by rw [hlen]; exact hi) (h₁ := by rw [hlen]; exact hj) hnd).1 (by simpa using e)
    exact this
  have hd : ∀ i j (hi : i < (leastP (netOf t)).length) (hj : j < (leastP (netOf t)).length), i < j → okT (leastP (netOf t))[j] (leastP (netOf t))[i] (netOf t).n = false := fun i j hi hj hij => hap j i hj hi (by omega)
  have hw : ∀ p ∈ trapsP (netOf t), anyB (fun j => insTo ((leastP (netOf t)).getD j noneP) p (netOf t).n) (leastP (netOf t)).length = true := fun p hp => by
    obtain ⟨q, hq, hi⟩ := least_within _ p hp (Nat.le_refl _)
    obtain ⟨j, hj, rfl⟩ := List.getElem_of_mem hq
    exact (anyB_iff _ _).2 ⟨j, hj, by rw [getD_elem hj]; exact hi⟩
  refine ⟨_, leastP (netOf t), hl, h243, ?_, fun j hj => ?_, fun i j hi hj => ?_, fun k hk => ⟨?_, ?_⟩, ?_, ?_⟩
  · rw [hlen]
    obtain ⟨p0, rr, hhead, _⟩ := trapsP_head (netOf t)
    obtain ⟨q, hq, _⟩ := least_within _ p0 (by rw [hhead]; simp) (Nat.le_refl _)
    exact List.length_pos_of_mem hq
  · rw [hlen] at hj
    rw [getD_elem hj]
    exact ⟨by simp, leastP_trap (List.getElem_mem hj)⟩
  · rw [hlen] at hi
    rw [getD_elem hi, getD_elem (by omega)]
    exact hap i j hi (by omega) (by omega)
  · rw [hlen] at hk
    rw [sumA_filter hd k hk]
    exact Nat.le_trans (List.length_filter_le _ _) (Nat.le_trans (attS_le _) (pw_le hn.2).2)
  · rw [hlen] at hk
    exact sumA_ge (fun p hp => att_posO (leastP_trap hp)) k hk
  · rw [hlen]; exact sumA_le hd
  · rw [hlen]; exact hw
theorem great_facts {t : ByteArray} (h : netOk t = true) : ∃ (G : List ByteArray) (qs : List Trm), greatL t = G ∧ G.length ≤ 243 ∧
    (∀ j (hj : j < G.length), G[j] = termT (netOf t).n (qs.getD j noneP)) ∧
    (∀ p ∈ (trapsP (netOf t)).tail, anyB (fun j => insTo p (qs.getD j noneP) (netOf t).n) G.length = true) := by
  have hl := greatL_text h
  have h243 := greatL_length t
  rw [hl] at h243
  have hlen : ((greatP (netOf t)).map (termT (netOf t).n)).length = (greatP (netOf t)).length := List.length_map ..
  refine ⟨_, greatP (netOf t), hl, h243, fun j hj => ?_, fun p hp => ?_⟩
  · rw [hlen] at hj
    rw [getD_elem hj]; simp
  · rw [hlen]
    obtain ⟨q, hq, hi⟩ := great_around _ p hp (Nat.le_add_left _ _)
    obtain ⟨j, hj, rfl⟩ := List.getElem_of_mem hq
    exact (anyB_iff _ _).2 ⟨j, hj, by rw [getD_elem hj]; exact hi⟩
theorem traps_all {t : ByteArray} (h : netOk t = true) : ∃ (T : List ByteArray) (ts : List Trm), trapsL t = T ∧ T.length ≤ 243 ∧
    (∀ j (hj : j < T.length), T[j] = termT (netOf t).n (ts.getD j noneP) ∧ ts.getD j noneP ∈ trapsP (netOf t) ∧ (0 < j → ts.getD j noneP ∈ (trapsP (netOf t)).tail)) := by
  have hl : trapsL t = trapsT (netOf t) := by unfold trapsL; rw [h]; rfl
  have h243 := trapsL_length t
  rw [hl] at h243
  have hlen : (trapsT (netOf t)).length = (trapsP (netOf t)).length := by unfold trapsT; rw [List.length_map]
  refine ⟨_, trapsP (netOf t), hl, h243, fun j hj => ?_⟩
  rw [hlen] at hj
  rw [getD_elem hj]
  refine ⟨by simp [trapsT], List.getElem_mem hj, fun h0 => ?_⟩
  have h2 : j - 1 < (trapsP (netOf t)).tail.length := by rw [List.length_tail]; omega
  have : (trapsP (netOf t)).tail[j - 1] = (trapsP (netOf t))[j] := by
    rw [List.getElem_tail]
    congr 1
    omega
  rw [← this]
  exact List.getElem_mem h2
end Go.Sw
namespace Go.Proofs.YtcddnacbjdahbaaDoor
open Go Go.RowKit Go.Sw
set_option maxRecDepth 100000
set_option linter.unusedVariables false

theorem attI_termO {t : ByteArray} (h : netOk t = true) {p : Trm} (hp : trapP (netOf t) p = true) : attI t (termT (netOf t).n p) = ((attIn (netOf t) p : Nat) : Int) := by
  have h1 : termOk t (termT (netOf t).n p) = true := by unfold termOk; rw [h, termB_term]; rfl
  have h2 : trapP (netOf t) (ofT (termT (netOf t).n p)) = true := by rw [trapP_congr fun i hi => ofT_term hi]; exact hp
  unfold attI
  rw [h1, h2, Bool.true_and, if_pos rfl]
  unfold attIn
  have : (fun s => hasP (netOf t).n (ofT (termT (netOf t).n p)) s) = fun s => hasP (netOf t).n p s := by
    funext s
    exact hasP_congr (fun i hi => ofT_term hi) s
  rw [this]
theorem TextsAt.cellsY {w : World} {B : Nat} {a : Option Addr} {L : List ByteArray} (h : TextsAt w B a L) (h0 : 0 < L.length) : ∃ g, a = some ⟨g, 0, none⟩ ∧ B ≤ g ∧ g < w.heap.size ∧ ∀ wx : World, Below w.heap.size w wx → ∀ j (hj : j < L.length), wx.cell? ⟨g, j, none⟩ = some (.string (L[j]'hj)) := by
  obtain ⟨g, cur, tt, rfl, hBg, hcur, hcs, hcells⟩ := h.at' h0
  exact ⟨g, rfl, hBg, block_lt hcur, fun wx hb j hj => cell_row wx g j ((hb.block g (block_lt hcur)).trans hcur) (hcells j hj)⟩
theorem attractorsOf_impl (t : ByteArray) (w : World) (hs : t.size ≤ 1048576) (hok0 : netOk t = true) :
    Calls Tryd.prog 64 #[.string t] w fun e w' => Below w.heap.size w w' ∧ ∃ a c, e = .returned (.slice a (attL (netOf t)).length c) := by
  have c := Lib.hid (readNetwork_any t w hs)
  have hn := netOf_ok hok0
  have Hok0 := Lib.hid hok0
  clear hok0
  go_enter Tryd.func64, Tryd.ntmps64
  go_wp2_with fail
  refine c.out.mono ?_
  rintro e w1 ⟨hW1, ⟨hbad, rfl⟩ | ⟨hok, b, cap, rfl, hb1, hb2, hat⟩⟩
  · have := Hok0.out
    rw [hbad] at this
    cases this
  · have cF := Lib.hid (attractors_any b cap (netOf t) hn.2 w1 hat hb2)
    clear hok hat
    go_wp2_with fail
    refine cF.out.mono ?_
    rintro e w2 ⟨hW2, out, vs, rfl, hR⟩
    obtain ⟨a, c2, rfl, _⟩ := hR.get
    have hw1 := hW1.size
    clear hR
    go_wp2_with fail
    go_ret
    exact ⟨hW1.trans (hW2.mono hw1), a, c2, rfl⟩
set_option maxHeartbeats 4000000 in
theorem law_LeastTraps (w : World) (a : Option Addr) (n c : Nat) (hc : c ≤ maxLen) (h : CodeAt w a n c) :
    Calls Tryd.prog 12 #[.slice a n c] w fun e w' => Below w.heap.size w w' ∧ e = .returned (.bool true) := by
  have hle := h.1
  have m0 : n ≤ 9223372036854775807 := by unfold maxLen at hc; omega
  have cD := Lib.hid (drawLeast_any a n c hc w h)
  clear h
  by_cases s0 : n ≤ 1048576
  case' neg =>
    go_enter Tryd.func12, Tryd.ntmps12
    go_wp2_with fail
    go_ret
    exact ⟨Below.refl _ _, rfl⟩
  go_enter Tryd.func12, Tryd.ntmps12
  go_wp2_with fail
  refine cD.out.mono ?_
  rintro e w1 ⟨hW1, t, ht, rfl⟩
  have hW1s := hW1.size
  have c1 := Lib.hid (fun wx => leastTraps_impl t wx (by omega))
  have c2 := Lib.hid (fun wx => greatestTraps_impl t wx (by omega))
  have c3 := Lib.hid (fun wx => leastTraps_spec t wx (by omega))
  have c4 := Lib.hid (fun wx => greatestTraps_spec t wx (by omega))
  cases hok : netOk t
  · have cV := Lib.hid (fun wx => hok ▸ networkValid_impl t wx (by omega))
    have hg : trapsL t = [] := by unfold trapsL; rw [hok]; rfl
    have e1 : leastL t = [] := by unfold leastL; rw [hg]; rfl
    have e2 : greatL t = [] := by unfold greatL; rw [hg]; rfl
    rw [e1] at c1 c3
    rw [e2] at c2 c4
    have cS := Lib.hid (fun a4 a5 p4 p5 wx => bnTexts_any 0 0 a4 a5 p4 p5 [] wx (textsAt_nil _ _ _) (textsAt_nil _ _ _) (by simp))
    clear hg hok e1 e2
    go_wp2_with fail
    refine (c1.out _).mono ?_
    rintro e w2 ⟨hW2, a2, p2, rfl, _⟩
    have hB2 := hW1.trans (hW2.mono hW1s)
    go_wp2_with fail
    refine (c2.out _).mono ?_
    rintro e w3 ⟨hW3, a3, p3, rfl, _⟩
    have hB3 := hB2.trans (hW3.mono hB2.size)
    go_wp2_with fail
    refine (c3.out _).mono ?_
    rintro e w4 ⟨hW4, a4, p4, rfl, _⟩
    have hB4 := hB3.trans (hW4.mono hB3.size)
    go_wp2_with fail
    refine (cS.out _ _ _ _ _).mono ?_
    rintro e w5 ⟨hW5, rfl⟩
    have hB5 := hB4.trans (hW5.mono hB4.size)
    go_wp2_with fail
    refine (c4.out _).mono ?_
    rintro e w6 ⟨hW6, a6, p6, rfl, _⟩
    have hB6 := hB5.trans (hW6.mono hB5.size)
    go_wp2_with fail
    refine (cS.out _ _ _ _ _).mono ?_
    rintro e w7 ⟨hW7, rfl⟩
    have hB7 := hB6.trans (hW7.mono hB6.size)
    go_wp2_with fail
    refine (c3.out _).mono ?_
    rintro e w8 ⟨hW8, a8, p8, rfl, _⟩
    have hB8 := hB7.trans (hW8.mono hB7.size)
    go_wp2_with fail
    refine (cS.out _ _ _ _ _).mono ?_
    rintro e w9 ⟨hW9, rfl⟩
    have hB9 := hB8.trans (hW9.mono hB8.size)
    go_wp2_with fail
    refine (c4.out _).mono ?_
    rintro e wa ⟨hWa, aa, pa, rfl, _⟩
    have hBa := hB9.trans (hWa.mono hB9.size)
    go_wp2_with fail
    refine (cS.out _ _ _ _ _).mono ?_
    rintro e wb ⟨hWb, rfl⟩
    have hBb := hBa.trans (hWb.mono hBa.size)
    go_wp2_with fail
    refine (cV.out _).mono ?_
    rintro e wc ⟨hWc, rfl⟩
    go_wp2_with fail
    go_ret
    exact ⟨hBb.trans (hWc.mono hBb.size), by first | rfl | simp⟩
  · have hn := netOf_ok hok
    obtain ⟨L, ps, hL, hl243, hL0, hLp, hLo, hLs, hLa, hLw⟩ := least_facts hok
    obtain ⟨G, qs, hG, hg243, hGp, hGw⟩ := great_facts hok
    obtain ⟨T, ts, hT, ht243, hTp⟩ := traps_all hok
    have cL := Lib.hid (fun wx => trapsOf_impl t wx (by omega))
    have cO := Lib.hid (fun wx => attractorsOf_impl t wx (by omega) hok)
    have cA := Lib.hid (fun (p : Trm) (hp : trapP (netOf t) p = true) wx => attI_termO hok hp ▸ attractorsIn_impl t (termT (netOf t).n p) wx (by omega) (by rw [termT_size]; omega))
    rw [hL] at c1 c3
    rw [hG] at c2 c4
    rw [hT] at cL
    obtain ⟨N, hN⟩ : ∃ N, netOf t = N := ⟨_, rfl⟩
    rw [hN] at hn hLp hLo hLs hLa hLw hGp hGw hTp cO cA
    have cM := Lib.hid (fun (p q : Trm) wx => meet_impl N.n p q hn.1 hn.2 wx)
    have cI := Lib.hid (fun (p q : Trm) wx => isInside_impl N.n p q hn.1 hn.2 wx)
    have hpos := Lib.hid (fun (p : Trm) => show attIn N p ≤ 32 from Nat.le_trans (List.length_filter_le _ _) (Nat.le_trans (attS_le N) (pw_le hn.2).2))
    have HLp := Lib.hid hLp
    have HLo := Lib.hid hLo
    have HLs := Lib.hid hLs
    have HLa := Lib.hid hLa
    have HLw := Lib.hid hLw
    have HGp := Lib.hid hGp
    have HGw := Lib.hid hGw
    have HTp := Lib.hid hTp
    clear hok hN hL hG hT hLp hLo hLs hLa hLw hGp hGw hTp
    go_wp2_with fail
    refine (c1.out _).mono ?_
    rintro e w2 ⟨hW2, a2, p2, rfl, hT2⟩
    have hB2 := hW1.trans (hW2.mono hW1s)
    have HT2 := Lib.hid hT2
    clear hT2
    go_wp2_with fail
    refine (c2.out _).mono ?_
    rintro e w3 ⟨hW3, a3, p3, rfl, hT3⟩
    have hB3 := hB2.trans (hW3.mono hB2.size)
    have HT3 := Lib.hid hT3
    clear hT3
    go_wp2_with fail
    refine (c3.out _).mono ?_
    rintro e w4 ⟨hW4, a4, p4, rfl, hT4⟩
    have hB4 := hB3.trans (hW4.mono hB3.size)
    have cS := Lib.hid (bnTexts_any _ _ a2 a4 p2 p4 L w4 ((HT2.out.below hW3).below hW4) hT4 (by omega))
    clear hT4
    go_wp2_with fail
    refine cS.out.mono ?_
    rintro e w5 ⟨hW5, rfl⟩
    have hB5 := hB4.trans (hW5.mono hB4.size)
    clear cS
    go_wp2_with fail
    refine (c4.out _).mono ?_
    rintro e w6 ⟨hW6, a6, p6, rfl, hT6⟩
    have hB6 := hB5.trans (hW6.mono hB5.size)
    have cS := Lib.hid (bnTexts_any _ _ a3 a6 p3 p6 G w6 (((HT3.out.below hW4).below hW5).below hW6) hT6 (by omega))
    clear hT6
    go_wp2_with fail
    refine cS.out.mono ?_
    rintro e w7 ⟨hW7, rfl⟩
    have hB7 := hB6.trans (hW7.mono hB6.size)
    clear cS c1 c2 c3 c4
    obtain ⟨g, rfl, hBg, hgl, hcl0⟩ := (((((HT2.out.below hW3).below hW4).below hW5).below hW6).below hW7).cellsY hL0
    have Hcl := Lib.hid hcl0
    have HG7 := Lib.hid ((((HT3.out.below hW4).below hW5).below hW6).below hW7)
    have hLz : ((L.length : Int) == 0) = false := by rw [beq_eq_false_iff_ne]; omega
    clear hcl0 HT2 HT3
    go_wp2_with fail
    go_loopw [6, 7, 8, 9, 10] (fun sm i _ _ _ wr => ∃ k : Nat, k ≤ L.length ∧ i = .int .i64 k ∧ sm = .int .i64 ((sumA N ps k : Nat) : Int) ∧ Below w7.heap.size w7 wr) (fun _ i _ _ _ _ => L.length - (intOf i).toNat)
    case atStart => exact ⟨0, Nat.zero_le _, rfl, rfl, Below.refl _ _⟩
    case round =>
      obtain ⟨k, hk, rfl, rfl, hV⟩ := hrel
      have hVs := hV.size
      by_cases hlt : k < L.length
      · have hLk := HLp.out k hlt
        have D1 := cA.out _ hLk.2
        have hs1 : sumA N ps (k + 1) = sumA N ps k + attIn N (ps.getD k noneP) := rfl
        have hsk := (HLs.out k hk).1
        have hak := hpos.out (ps.getD k noneP)
        have hok := Lib.hid (fun j (hj : j < k) => HLo.out k j hlt hj)
        obtain ⟨P, hP⟩ : ∃ P, ps.getD k noneP = P := ⟨_, rfl⟩
        rw [hP] at D1 hs1 hak hLk hok
        obtain ⟨x, hx⟩ : ∃ x, termT N.n P = x := ⟨_, rfl⟩
        rw [hx] at D1 hLk
        obtain ⟨ai, hai⟩ : ∃ x, attIn N P = x := ⟨_, rfl⟩
        rw [hai] at D1 hs1 hak
        obtain ⟨sk, hskk⟩ : ∃ x, sumA N ps k = x := ⟨_, rfl⟩
        rw [hskk] at hs1 hsk
        rw [hskk]
        have E1 := Lib.hid D1
        have Hs1 := Lib.hid hs1
        have HLk := Lib.hid hLk.1
        have Hx := Lib.hid hx
        have hki : (k : Int) < (L.length : Int) := by omega
        have fk := wraps_i64 ((sk : Int) + (ai : Int)) (by omega) (by omega)
        clear hP hx hai hskk D1 hs1 hLk
        go_wp2_with fail
        go_loopw [8, 9, 10] (fun j _ _ wr2 => ∃ q : Nat, q ≤ k ∧ j = .int .i64 q ∧ Below w7.heap.size w7 wr2) (fun j _ _ _ => k - (intOf j).toNat)
        case atStart => exact ⟨0, Nat.zero_le _, rfl, hV⟩
        case round =>
          obtain ⟨q, hq, rfl, hY⟩ := hrel
          by_cases hltq : q < k
          · have hqL : q < L.length := by omega
            have hcq := Hcl.out _ hY q hqL
            have hck := Hcl.out _ hY k hlt
            rw [(HLp.out q hqL).1] at hcq
            rw [HLk.out] at hck
            have hno := hok.out q hltq
            have D3 := cM.out P (ps.getD q noneP)
            rw [hno, Hx.out] at D3
            obtain ⟨z, hz⟩ : ∃ z, termT N.n (ps.getD q noneP) = z := ⟨_, rfl⟩
            rw [hz] at hcq D3
            obtain ⟨mr, hmr⟩ : ∃ z, meetR N.n P (ps.getD q noneP) = z := ⟨_, rfl⟩
            rw [hmr] at D3
            have E3 := Lib.hid D3
            have hgrw := hY.size
            have hgr2 : g < wr.heap.size := by omega
            have hqi : (q : Int) < (L.length : Int) := by omega
            obtain ⟨wi, rfl⟩ : ∃ wi : World, wi = wr := ⟨_, rfl⟩
            clear hno D3 hz hmr
            go_wp2_with fail
            go_region_held3 (fun w' => w'.cell? ⟨g, k, none⟩ = some (.string x) ∧ w'.cell? ⟨g, q, none⟩ = some (.string z))
              (first | exact hkeep2 | go_keep)
              (first
                | (go_at_call 24; refine Calls.mono (E3.out _) ?_; rintro e v7 ⟨hV7, rfl⟩; have hkeep2 : v7.cell? ⟨g, k, none⟩ = some (.string x) ∧ v7.cell? ⟨g, q, none⟩ = some (.string z) := ⟨(hV7.cell (by simpa using hgr2)).trans hck, (hV7.cell (by simpa using hgr2)).trans hcq⟩))
            have hV8 : Below w7.heap.size w7 v7 := (hY.drew).trans (hV7.mono hY.size)
            go_wp2_with fail
            go_roundw
            case rel => exact ⟨q + 1, by omega, by go_num, hV8⟩
            case measure => simp [intOf] <;> omega
          · have hck := Hcl.out _ hY k hlt
            rw [HLk.out] at hck
            go_wp2_with fail
            refine (E1.out _).mono ?_
            rintro e v1 ⟨hV1, rfl⟩
            go_wp2_with fail
            go_roundw
            case rel => exact ⟨k + 1, by omega, by go_num, by rw [Hs1.out]; first | rfl | go_num, hY.trans (hV1.mono hY.size)⟩
            case measure => simp [intOf] <;> omega
      · obtain rfl : k = L.length := by omega
        have hB8 := hB7.trans (hV.mono hB7.size)
        go_wp2_with fail
        refine (cL.out _).mono ?_
        rintro e w8 ⟨hW8, a8, p8, rfl, _, _, hT8⟩
        have hB9 := hB8.trans (hW8.mono hB8.size)
        have hV8 : Below w7.heap.size w7 w8 := hV.trans (hW8.mono hVs)
        have hV8s := hV8.size
        have HT8 := Lib.hid hT8
        have hsl := HLs.out L.length (Nat.le_refl _)
        have hsa := HLa.out
        obtain ⟨sm, hsm⟩ : ∃ x, sumA N ps L.length = x := ⟨_, rfl⟩
        rw [hsm] at hsl hsa
        rw [hsm]
        obtain ⟨al, hal⟩ : ∃ x, (attL N).length = x := ⟨_, rfl⟩
        rw [hal] at hsa
        have CO := Lib.hid (hal ▸ cO.out)
        clear hT8 cL cO cA cM hsm hal
        go_wp2_with fail
        go_loopw [12, 13, 14, 15, 16] (fun i _ _ _ _ wr => ∃ m : Nat, m ≤ T.length ∧ i = .int .i64 m ∧ Below w8.heap.size w8 wr) (fun i _ _ _ _ _ => T.length - (intOf i).toNat)
        case atStart => exact ⟨0, Nat.zero_le _, rfl, Below.refl _ _⟩
        case round =>
          obtain ⟨m, hm, rfl, hX⟩ := hrel
          have hXs := hX.size
          by_cases hlm : m < T.length
          · obtain ⟨gT, rfl, hBT, hgTl, hclT⟩ := HT8.out.cellsY (by omega)
            have HclT := Lib.hid hclT
            obtain ⟨hTm, hT1, hT2⟩ := HTp.out m hlm
            have hlow := HLw.out _ hT1
            have hhigh := fun h => HGw.out _ (hT2 h)
            obtain ⟨p, hp⟩ : ∃ p, ts.getD m noneP = p := ⟨_, rfl⟩
            rw [hp] at hTm hlow hhigh
            have HTm := Lib.hid hTm
            have Hlow := Lib.hid hlow
            obtain ⟨b0, hb0⟩ : ∃ b, ((m : Int) == 0) = b := ⟨_, rfl⟩
            have Hhigh := Lib.hid (show (b0 || anyB (fun j => insTo p (qs.getD j noneP) N.n) G.length) = true by
              by_cases h0 : 0 < m
              · rw [hhigh h0, Bool.or_true]
              · have : m = 0 := by omega
                subst this
                rw [← hb0]; rfl)
            have hmi : (m : Int) < (T.length : Int) := by omega
            clear hclT hTm hT1 hT2 hlow hhigh hp
            go_wp2_with fail
            go_loopw [13, 15] (fun lo j wq => ∃ q : Nat, q ≤ L.length ∧ j = .int .i64 q ∧ lo = .bool (anyB (fun j => insTo (ps.getD j noneP) p N.n) q) ∧ Below w8.heap.size w8 wq) (fun _ j _ => L.length - (intOf j).toNat)
            case atStart => exact ⟨0, Nat.zero_le _, rfl, rfl, hX⟩
            case round =>
              obtain ⟨q, hq, rfl, rfl, hY⟩ := hrel
              have hYs := hY.size
              by_cases hqL : q < L.length
              · have hc1 := Hcl.out _ (hV8.trans (hY.mono hV8s)) q hqL
                have hc2 := HclT.out _ hY m hlm
                rw [(HLp.out q hqL).1] at hc1
                rw [HTm.out] at hc2
                have D := cI.out (ps.getD q noneP) p
                have hs : anyB (fun j => insTo (ps.getD j noneP) p N.n) (q + 1) = (anyB (fun j => insTo (ps.getD j noneP) p N.n) q || insTo (ps.getD q noneP) p N.n) := rfl
                obtain ⟨lv, hlv⟩ : ∃ b, anyB (fun j => insTo (ps.getD j noneP) p N.n) q = b := ⟨_, rfl⟩
                rw [hlv] at hs
                rw [hlv]
                obtain ⟨iv, hiv⟩ : ∃ b, insTo (ps.getD q noneP) p N.n = b := ⟨_, rfl⟩
                rw [hiv] at hs D
                obtain ⟨y, hy⟩ : ∃ z, termT N.n (ps.getD q noneP) = z := ⟨_, rfl⟩
                rw [hy] at hc1 D
                obtain ⟨tx, htx⟩ : ∃ z, termT N.n p = z := ⟨_, rfl⟩
                rw [htx] at hc2 D
                have E1 := Lib.hid D
                have Hs := Lib.hid hs
                have hqi : (q : Int) < (L.length : Int) := by omega
                obtain ⟨wi, rfl⟩ : ∃ wi : World, wi = wr := ⟨_, rfl⟩
                have hg1 : g < wi.heap.size := by omega
                have hg2 : gT < wi.heap.size := by omega
                clear D hs hlv hiv hy htx
                cases lv
                · go_wp2_with fail
                  go_region_held3 (fun w' => w'.cell? ⟨g, q, none⟩ = some (.string y) ∧ w'.cell? ⟨gT, m, none⟩ = some (.string tx))
                    (first | exact hkeep2 | go_keep)
                    (first
                      | (go_at_call 44; refine Calls.mono (E1.out _) ?_; rintro e v7 ⟨hV7, rfl⟩; have hkeep2 : v7.cell? ⟨g, q, none⟩ = some (.string y) ∧ v7.cell? ⟨gT, m, none⟩ = some (.string tx) := ⟨(hV7.cell (by simpa using hg1)).trans hc1, (hV7.cell (by simpa using hg2)).trans hc2⟩))
                  have hV9 : Below w8.heap.size w8 v7 := (hY.drew).trans (hV7.mono hYs)
                  go_wp2_with fail
                  go_roundw
                  case rel => exact ⟨q + 1, by omega, by go_num, by rw [Hs.out]; rfl, hV9⟩
                  case measure => simp [intOf] <;> omega
                · go_wp2_with fail
                  go_quiet (fail)
                  go_wp2_with fail
                  first
                    | (go_roundw
                       case rel => exact ⟨q + 1, by omega, by go_num, by rw [Hs.out]; rfl, below_drewN hY _⟩
                       case measure => simp [intOf] <;> omega)
                    | exact ⟨⟨q + 1, by omega, by go_num, by rw [Hs.out]; rfl, below_drewN hY _⟩, by simp [intOf] <;> omega⟩
              · obtain rfl : q = L.length := by omega
                rw [Hlow.out]
                go_wp2_with fail
                go_loopw [14, 16] (fun hi j wz => ∃ q : Nat, q ≤ G.length ∧ j = .int .i64 q ∧ hi = .bool (b0 || anyB (fun j => insTo p (qs.getD j noneP) N.n) q) ∧ Below w8.heap.size w8 wz) (fun _ j _ => G.length - (intOf j).toNat)
                case atStart => exact ⟨0, Nat.zero_le _, rfl, by simp [anyB], hY⟩
                case round =>
                  obtain ⟨q, hq, rfl, rfl, hZ⟩ := hrel
                  have hZs := hZ.size
                  by_cases hqG : q < G.length
                  · obtain ⟨gG, rfl, hBG, hgGl, hclG⟩ := HG7.out.cellsY (by omega)
                    have hc1 := hclG _ (hV8.trans (hZ.mono hV8s)) q hqG
                    have hc2 := HclT.out _ hZ m hlm
                    rw [HGp.out q hqG] at hc1
                    rw [HTm.out] at hc2
                    have D := cI.out p (qs.getD q noneP)
                    have hs : (b0 || anyB (fun j => insTo p (qs.getD j noneP) N.n) (q + 1)) = ((b0 || anyB (fun j => insTo p (qs.getD j noneP) N.n) q) || insTo p (qs.getD q noneP) N.n) := by rw [anyB, Bool.or_assoc]
                    obtain ⟨lv, hlv⟩ : ∃ b, (b0 || anyB (fun j => insTo p (qs.getD j noneP) N.n) q) = b := ⟨_, rfl⟩
                    rw [hlv] at hs
                    rw [hlv]
                    obtain ⟨iv, hiv⟩ : ∃ b, insTo p (qs.getD q noneP) N.n = b := ⟨_, rfl⟩
                    rw [hiv] at hs D
                    obtain ⟨y, hy⟩ : ∃ z, termT N.n (qs.getD q noneP) = z := ⟨_, rfl⟩
                    rw [hy] at hc1 D
                    obtain ⟨tx, htx⟩ : ∃ z, termT N.n p = z := ⟨_, rfl⟩
                    rw [htx] at hc2 D
                    have E1 := Lib.hid D
                    have Hs := Lib.hid hs
                    have hqi : (q : Int) < (G.length : Int) := by omega
                    obtain ⟨wi, rfl⟩ : ∃ wi : World, wi = wr := ⟨_, rfl⟩
                    have hg1 : gG < wi.heap.size := by omega
                    have hg2 : gT < wi.heap.size := by omega
                    clear D hs hlv hiv hy htx hclG
                    cases lv
                    · go_wp2_with fail
                      go_region_held3 (fun w' => w'.cell? ⟨gG, q, none⟩ = some (.string y) ∧ w'.cell? ⟨gT, m, none⟩ = some (.string tx))
                        (first | exact hkeep2 | go_keep)
                        (first
                          | (go_at_call 44; refine Calls.mono (E1.out _) ?_; rintro e v7 ⟨hV7, rfl⟩; have hkeep2 : v7.cell? ⟨gG, q, none⟩ = some (.string y) ∧ v7.cell? ⟨gT, m, none⟩ = some (.string tx) := ⟨(hV7.cell (by simpa using hg1)).trans hc1, (hV7.cell (by simpa using hg2)).trans hc2⟩))
                      have hV9 : Below w8.heap.size w8 v7 := (hZ.drew).trans (hV7.mono hZs)
                      go_wp2_with fail
                      go_roundw
                      case rel => exact ⟨q + 1, by omega, by go_num, by rw [Hs.out]; rfl, hV9⟩
                      case measure => simp [intOf] <;> omega
                    · go_wp2_with fail
                      go_quiet (fail)
                      go_wp2_with fail
                      first
                        | (go_roundw
                           case rel => exact ⟨q + 1, by omega, by go_num, by rw [Hs.out]; rfl, below_drewN hZ _⟩
                           case measure => simp [intOf] <;> omega)
                        | exact ⟨⟨q + 1, by omega, by go_num, by rw [Hs.out]; rfl, below_drewN hZ _⟩, by simp [intOf] <;> omega⟩
                  · obtain rfl : q = G.length := by omega
                    rw [Hhigh.out]
                    go_wp2_with fail
                    go_roundw
                    case rel => exact ⟨m + 1, by omega, by go_num, hZ⟩
                    case measure => simp [intOf] <;> omega
          · have hB10 := hB9.trans (hX.mono hB9.size)
            have hi1 : (sm : Int) ≤ (al : Int) := by omega
            have hi2 : (L.length : Int) ≤ (sm : Int) := by omega
            go_wp2_with fail
            refine (CO.out _).mono ?_
            rintro e w9 ⟨hW9, a9, p9, rfl⟩
            go_wp2_with fail
            go_ret
            exact ⟨hB10.trans (hW9.mono hB10.size), by first | rfl | simp⟩
end Go.Proofs.YtcddnacbjdahbaaDoor
