/- The program's least and greatest traps: what is struck from a list. -/
import Derived.Test.YtcddnacbjdahbaaDoorImplO
namespace Go.Proofs.YtcddnacbjdahbaaDoor
open Go Go.RowKit Go.Sw
set_option maxRecDepth 100000
set_option linter.unusedVariables false

theorem heap_setCells_row {b : Nat} {t : TypeId} : ∀ (vs : List Value) (o : Nat) (w : World) (cur : Array Value), w.heap[b]? = some (.cells cur t (0, 0)) →
    ∃ cur', (w.setCells b o vs).heap[b]? = some (.cells cur' t (0, 0)) ∧ cur'.size = cur.size ∧ ∀ j, j < o → cur'[j]? = cur[j]?
  | [], o, w, cur, h => ⟨cur, h, rfl, fun _ _ => rfl⟩
  | v :: r, o, w, cur, h => by
    obtain ⟨cur', h1, h2, h3⟩ := heap_setCells_row r (o + 1) (w.setCell ⟨b, o, none⟩ v) (cur.setIfInBounds o v) (heap_setCell_same _ _ _ _ _ _ h)
    refine ⟨cur', h1, by rw [h2, Array.size_setIfInBounds], fun j hj => ?_⟩
    rw [h3 j (by omega), Array.getElem?_setIfInBounds_ne (by omega)]
theorem below_setCells' {B b : Nat} (hb : B ≤ b) : ∀ (vs : List Value) (o : Nat) (a w : World), Below B a w → Below B a (w.setCells b o vs)
  | [], _, _, _, h => h
  | v :: r, o, a, w, h => below_setCells' hb r (o + 1) a _ (h.setCell hb v)
/-- what is kept of the first j texts lies at the front; the others are where they were -/
structure KeptS (w : World) (g : Nat) (t : TypeId) (p : ByteArray → Bool) (xs : List ByteArray) (i j : Nat) : Prop where
  len : i = ((xs.take j).filter fun x => !p x).length
  row : ∃ cur, w.heap[g]? = some (.cells cur t (0, 0)) ∧ xs.length ≤ cur.size ∧ (∀ k, k < i → cur[k]? = (((xs.take j).filter fun x => !p x)[k]?).map Value.string) ∧ ∀ k (h : k < xs.length), j ≤ k → cur[k]? = some (.string xs[k])
theorem kept_le {p : ByteArray → Bool} {xs : List ByteArray} {j : Nat} : ((xs.take j).filter fun x => !p x).length ≤ j := by
  have := List.length_filter_le (fun x => !p x) (xs.take j)
  rw [List.length_take] at this; omega
theorem kept_succ {p : ByteArray → Bool} {xs : List ByteArray} {j : Nat} (h : j < xs.length) : (xs.take (j + 1)).filter (fun x => !p x) = if p xs[j] then (xs.take j).filter (fun x => !p x) else (xs.take j).filter (fun x => !p x) ++ [xs[j]] := by
  rw [List.take_succ_eq_append_getElem h, List.filter_append]
  cases hp : p xs[j]
  · rw [List.filter_cons_of_pos (by rw [hp]; rfl)]; simp
  · rw [List.filter_cons_of_neg (by rw [hp]; decide)]; simp
theorem KeptS.skip {w : World} {g : Nat} {t : TypeId} {p : ByteArray → Bool} {xs : List ByteArray} {i j : Nat} (h : KeptS w g t p xs i j) (hj : j < xs.length) (hp : p xs[j] = true) : KeptS w g t p xs i (j + 1) := by
  have e : (xs.take (j + 1)).filter (fun x => !p x) = (xs.take j).filter (fun x => !p x) := by rw [kept_succ hj, hp, if_pos rfl]
  obtain ⟨h1, cur, h2, h3, h4, h5⟩ := h
  exact ⟨by rw [e]; exact h1, cur, h2, h3, fun k hk => by rw [h4 k hk, e], fun k hk hjk => h5 k hk (by omega)⟩
theorem KeptS.keep {w : World} {g : Nat} {t : TypeId} {p : ByteArray → Bool} {xs : List ByteArray} {i j : Nat} (h : KeptS w g t p xs i j) (hj : j < xs.length) (hp : p xs[j] = false) : KeptS (w.setCell ⟨g, i, none⟩ (.string xs[j])) g t p xs (i + 1) (j + 1) := by
  have e : (xs.take (j + 1)).filter (fun x => !p x) = (xs.take j).filter (fun x => !p x) ++ [xs[j]] := by rw [kept_succ hj, hp]; rfl
  obtain ⟨h1, cur, h2, h3, h4, h5⟩ := h
  have hij : i ≤ j := by rw [h1]; exact kept_le
  refine ⟨by rw [e, List.length_append, ← h1]; rfl, cur.setIfInBounds i (.string xs[j]), heap_setCell_same _ _ _ _ _ _ h2, by simpa using h3, fun k hk => ?_, fun k hk hjk => ?_⟩
  · by_cases e2 : k = i
    · subst e2
      rw [Array.getElem?_setIfInBounds_self_of_lt (by omega), e, List.getElem?_append_right (by omega)]
      simp [← h1]
    · rw [Array.getElem?_setIfInBounds_ne (by omega), h4 k (by omega), e, List.getElem?_append_left (by omega)]
  · rw [Array.getElem?_setIfInBounds_ne (by omega)]; exact h5 k hk (by omega)
theorem KeptS.same {w w' : World} {g : Nat} {t : TypeId} {p : ByteArray → Bool} {xs : List ByteArray} {i j : Nat} (h : KeptS w g t p xs i j) (hs : w'.heap[g]? = w.heap[g]?) : KeptS w' g t p xs i j := by
  obtain ⟨h1, cur, h2, h3⟩ := h
  exact ⟨h1, cur, hs.trans h2, h3⟩
theorem zero_str (w : World) : (zeroValue 9).run Tryd.prog w = .ok (.string ByteArray.empty) w := by kernel_rfl
set_option maxHeartbeats 1000000 in
theorem deleteS_any (B : Nat) (xs : List ByteArray) (a : Option Addr) (cp : Nat) (k : Nat) (cap : Array Value) (p : ByteArray → Bool) (w : World) (hT : TextsAt w B a xs) (hB : B ≤ w.heap.size) (hcp : xs.length ≤ cp) (hl : xs.length ≤ 1000000)
    (hk : ∀ args w, (callFunc k args).run Tryd.prog w = .ok (.enter k args) w)
    (hcl : ∀ (t : ByteArray) (wx : World), t ∈ xs → Below B w wx → Calls Tryd.prog k (#[.string t] ++ cap) wx fun e w' => Below wx.heap.size wx w' ∧ e = .returned (.bool (p t))) :
    Calls Tryd.prog 132 #[.slice a xs.length cp, .func (.func k) #[] cap] w fun e w' => Below B w w' ∧ ∃ n, e = .returned (.slice a n cp) ∧ n = (xs.filter fun x => !p x).length ∧ TextsAt w' B a (xs.filter fun x => !p x) := by
  have hI := indexS_any xs a cp k cap p w hT.txR hl hk (fun t wx ht hx => hcl t wx ht (hx.mono hB))
  have HT := Lib.hid hT
  have Hcl := Lib.hid hcl
  clear hcl
  rcases findS_cases p xs with ⟨hf, hall⟩ | ⟨m, hm, hf, hp, hbef⟩
  · rw [hf] at hI
    have HI := Lib.hid hI
    have hfil : xs.filter (fun x => !p x) = xs := by
      rw [List.filter_eq_self]
      intro x hx
      obtain ⟨j, hj, rfl⟩ := List.getElem_of_mem hx
      rw [hall j hj]; rfl
    rw [hfil]
    clear hI hf hall hT hfil
    go_enter Tryd.func132, Tryd.ntmps132
    go_wp2_with fail
    refine HI.out.mono ?_
    rintro e w1 ⟨hW1, rfl⟩
    go_wp2_with fail
    go_ret
    exact ⟨hW1.mono hB, xs.length, rfl, rfl, HT.out.below hW1⟩
  · rw [hf] at hI
    have HI := Lib.hid hI
    obtain ⟨g, cur, t, rfl, hBg, hc, hsz, hcells⟩ := hT.at' (by omega)
    have hgw := block_lt hc
    have hne1 : ((m : Int) == -1) = false := beq_eq_false_iff_ne.2 (by omega)
    have hstart : KeptS w g t p xs m (m + 1) := by
      have e0 : (xs.take m).filter (fun x => !p x) = xs.take m := by
        rw [List.filter_eq_self]
        intro x hx
        obtain ⟨j, hj, rfl⟩ := List.getElem_of_mem hx
        have hj2 : j < m := by rw [List.length_take] at hj; omega
        rw [List.getElem_take, hbef j hj2]; rfl
      have e1 : (xs.take (m + 1)).filter (fun x => !p x) = xs.take m := by rw [kept_succ hm, hp, if_pos rfl, e0]
      refine ⟨by rw [e1, List.length_take]; omega, cur, hc, hsz, fun j hj => ?_, fun j hj hmj => hcells j hj⟩
      rw [hcells j (by omega), e1, List.getElem?_take, if_pos hj, List.getElem?_eq_getElem (by omega)]; rfl
    have Hst := Lib.hid hstart
    clear hI hf hbef hp hstart hc hcells hT
    go_enter Tryd.func132, Tryd.ntmps132
    go_wp2_with fail
    refine HI.out.mono ?_
    rintro e w1 ⟨hW1, rfl⟩
    have Hst1 := Lib.hid (Hst.out.same (hW1.block g hgw))
    have hg1 := Nat.lt_of_lt_of_le hgw hW1.size
    have hB1 := hW1.mono hB
    go_wp2_with fail
    go_loopw [5, 6, 7] (fun si sj _ wr => ∃ i j : Nat, si = .int .i64 i ∧ sj = .int .i64 j ∧ j ≤ xs.length ∧ i < j ∧ KeptS wr g t p xs i j ∧ Below B w wr) (fun _ sj _ _ => xs.length - (intOf sj).toNat)
    case atStart => exact ⟨m, m + 1, rfl, by go_num, by omega, by omega, Hst1.out, hB1⟩
    case round =>
      obtain ⟨i, j, rfl, rfl, hj, hij, hK, hW⟩ := hrel
      have HK := Lib.hid hK
      obtain ⟨hlen0, cur2, hc2, hsz2, hfr, hhi⟩ := hK
      clear hlen0
      have hgr := block_lt hc2
      by_cases hlt : j < xs.length
      · have cj : wr.cell? ⟨g, j, none⟩ = some (.string xs[j]) := by rw [cell_of_row wr _ _ _ _ _ hc2]; exact hhi j hlt (Nat.le_refl _)
        have c5 := Hcl.out xs[j] wr (List.getElem_mem hlt) hW
        have Hsk := Lib.hid (fun h : p xs[j] = true => HK.out.skip hlt h)
        have Hkp := Lib.hid (fun (w2 : World) (hb : w2.heap[g]? = wr.heap[g]?) (h : p xs[j] = false) => (HK.out.same hb).keep hlt h)
        obtain ⟨x, hx⟩ : ∃ x, xs[j] = x := ⟨_, rfl⟩
        rw [hx] at cj c5 Hsk Hkp
        have hWs := hW.size
        clear hhi hfr hx
        cases hp : p x <;> rw [hp] at c5
        · have C5 := Lib.hid c5
          have Hkp2 := Lib.hid (fun w2 hb => Hkp.out w2 hb hp)
          have Hc2 := Lib.hid hc2
          clear c5 hp hc2
          go_wp2_with fail
          refine C5.out.mono ?_
          rintro e w2 ⟨hW2, rfl⟩
          have hblk := hW2.block g hgr
          have ci : ∃ u, w2.cell? ⟨g, i, none⟩ = some u := by
            rw [cell_of_row w2 _ _ _ _ _ (hblk.trans Hc2.out)]
            exact ⟨_, Array.getElem?_eq_getElem (show i < cur2.size by omega)⟩
          obtain ⟨u, hu⟩ := ci
          have hf2 : w2.frozen? ⟨g, i, none⟩ = false := frozen_of_row w2 _ _ _ _ (hblk.trans Hc2.out)
          have Hkp3 := Lib.hid (Hkp2.out w2 hblk)
          have hBn : Below B w w2 := hW.trans (hW2.mono (by omega))
          clear hblk
          go_wp2_with fail
          go_roundw
          case rel => exact ⟨i + 1, j + 1, by go_num, by go_num, by omega, by omega, Hkp3.out, hBn.setCell hBg _⟩
          case measure => simp [intOf] <;> omega
        · have C5 := Lib.hid c5
          have Hsk2 := Lib.hid (Hsk.out hp)
          clear c5 hp hc2
          go_wp2_with fail
          refine C5.out.mono ?_
          rintro e w2 ⟨hW2, rfl⟩
          have Hsk3 := Lib.hid (Hsk2.out.same (hW2.block g hgr))
          have hBn : Below B w w2 := hW.trans (hW2.mono (by omega))
          go_wp2_with fail
          go_roundw
          case rel => exact ⟨i, j + 1, rfl, by go_num, by omega, by omega, Hsk3.out, hBn⟩
          case measure => simp [intOf] <;> omega
      · obtain rfl : j = xs.length := by omega
        have hcl : ∀ ty, (Builtin.clear_ #[26] ty #[.slice (some ⟨g, i, none⟩) (xs.length - i) (cp - i)]).run Tryd.prog wr = .ok (.tuple #[]) (wr.setCells g i (List.replicate (xs.length - i) (.string ByteArray.empty))) :=
          fun ty => Lib.run_clear_slice wr 26 9 ty (.string ByteArray.empty) Tryd.underlying26 zero_str rfl rfl g i _ _ (by omega) (fun q hq => by rw [cell_of_row wr _ _ _ _ _ hc2, Array.getElem?_eq_getElem (show i + q < cur2.size by omega)]; rfl) (fun q hq => frozen_of_row wr _ _ _ _ hc2)
        have Hc2 := Lib.hid hc2
        have Hfr := Lib.hid hfr
        have Hlen := Lib.hid HK.out.len
        clear hc2 hhi hfr
        go_wp2_with fail
        go_ret
        have hlen := Hlen.out
        rw [List.take_length] at hlen
        obtain ⟨cur3, k1, k2, k3⟩ := heap_setCells_row (List.replicate (xs.length - i) (.string ByteArray.empty)) i wr cur2 Hc2.out
        refine ⟨below_setCells' hBg _ _ _ _ hW, i, rfl, hlen, ⟨fun _ => ⟨g, cur3, t, rfl, hBg, k1, by rw [k2, ← hlen]; omega, fun q hq => ?_⟩⟩⟩
        have hq2 : q < i := by rw [hlen]; exact hq
        rw [k3 q hq2, Hfr.out q hq2, List.take_length, List.getElem?_eq_getElem hq]; rfl
theorem cloneS_any (xs : List ByteArray) (a : Option Addr) (cp : Nat) (w : World) (hT : TxR w a xs) (hl : xs.length ≤ 1000000) :
    Calls Tryd.prog 133 #[.slice a xs.length cp] w fun e w' => Below w.heap.size w w' ∧ ∃ a' c', e = .returned (.slice a' xs.length c') ∧ xs.length ≤ c' ∧ TextsAt w' w.heap.size a' xs := by
  by_cases h0 : xs.length = 0
  · have hx : xs = [] := List.length_eq_zero_iff.1 h0
    subst hx
    rcases a with _ | a
    · refine (Tryd.slices_Clone_string_nil 0 cp w).mono ?_
      rintro e w' ⟨rfl, rfl⟩
      exact ⟨Below.refl _ _, none, 0, rfl, Nat.le_refl _, textsAt_nil _ _ _⟩
    · refine (Tryd.slices_Clone_string_zero a cp w).mono ?_
      rintro e w' ⟨v', rfl, ho, _, hb⟩
      obtain ⟨a2, c2, rfl, hc, hI⟩ := textsAt_of_own (xs := []) ho
      exact ⟨hb, a2, c2, rfl, hc, hI⟩
  · obtain ⟨g, o, rfl, hg, hcells⟩ := hT.at' (by omega)
    refine (Tryd.slices_Clone_string g o xs.length cp xs w (Nat.le_refl _) (by omega) (fun j hj => by rw [hcells j hj, List.getD_eq_getElem?_getD, List.getElem?_eq_getElem hj]; rfl)).mono ?_
    rintro e w' ⟨v', rfl, ho, _, hb⟩
    rw [List.take_length] at ho
    obtain ⟨a2, c2, rfl, hc, hI⟩ := textsAt_of_own (xs := xs) ho
    exact ⟨hb, a2, c2, rfl, hc, hI⟩
theorem least11_any (n : Nat) (hn : n ≤ 5) (p q : Trm) (b : Nat) (w : World) (hb : b < w.heap.size) (hc : w.cell? ⟨b, 0, none⟩ = some (.string (termT n q))) :
    Calls Tryd.prog 136 #[.string (termT n p), .pointer (some ⟨b, 0, none⟩)] w fun e w' => Below w.heap.size w w' ∧ e = .returned (.bool (neqT (termT n p) (termT n q) && insB (termT n p) (termT n q))) := by
  have c := Lib.hid (fun wx => inside_any n p q hn wx)
  rw [insB_term]
  have hne : neqT (termT n p) (termT n q) = !((termT n p).toList == (termT n q).toList) := rfl
  rw [hne]
  obtain ⟨t, ht⟩ : ∃ t, termT n p = t := ⟨_, rfl⟩
  obtain ⟨u, hu⟩ : ∃ u, termT n q = u := ⟨_, rfl⟩
  rw [ht, hu] at c ⊢
  rw [hu] at hc
  clear ht hu hne
  cases he : (t.toList == u.toList)
  all_goals
    go_enter Tryd.func136, Tryd.ntmps136
    go_wp2_with fail
  · refine (c.out _).mono ?_
    rintro e w' ⟨hW, rfl⟩
    go_wp2_with fail
    go_ret
    exact ⟨hW, rfl⟩
  · go_ret
    exact ⟨Below.refl _ _, rfl⟩
theorem greatest11_any (n : Nat) (hn : n ≤ 5) (p q : Trm) (b : Nat) (w : World) (hb : b < w.heap.size) (hc : w.cell? ⟨b, 0, none⟩ = some (.string (termT n q))) :
    Calls Tryd.prog 138 #[.string (termT n p), .pointer (some ⟨b, 0, none⟩)] w fun e w' => Below w.heap.size w w' ∧ e = .returned (.bool (neqT (termT n p) (termT n q) && insB (termT n q) (termT n p))) := by
  have c := Lib.hid (fun wx => inside_any n q p hn wx)
  rw [insB_term]
  have hne : neqT (termT n p) (termT n q) = !((termT n p).toList == (termT n q).toList) := rfl
  rw [hne]
  obtain ⟨t, ht⟩ : ∃ t, termT n p = t := ⟨_, rfl⟩
  obtain ⟨u, hu⟩ : ∃ u, termT n q = u := ⟨_, rfl⟩
  rw [ht, hu] at c ⊢
  rw [hu] at hc
  clear ht hu hne
  cases he : (t.toList == u.toList)
  all_goals
    go_enter Tryd.func138, Tryd.ntmps138
    go_wp2_with fail
  · refine (c.out _).mono ?_
    rintro e w' ⟨hW, rfl⟩
    go_wp2_with fail
    go_ret
    exact ⟨hW, rfl⟩
  · go_ret
    exact ⟨Below.refl _ _, rfl⟩
/-- all texts of a list are terms of n switches -/
def allT (n : Nat) (xs : List ByteArray) : Prop := ∀ t ∈ xs, ∃ p, t = termT n p
theorem trapsL_terms (w : ByteArray) : allT (netOf w).n (trapsL w) := fun t ht => by
  unfold trapsL at ht
  split at ht
  · obtain ⟨p, _, rfl⟩ := List.mem_map.1 ht
    exact ⟨p, rfl⟩
  · cases ht
theorem least1_any (n : Nat) (hn : n ≤ 5) (xs : List ByteArray) (hx0 : allT n xs) (hl : xs.length ≤ 1000000) (a : Option Addr) (cp b : Nat) (t : ByteArray) (ht : ∃ p, t = termT n p) (w : World) (hT : TxR w a xs) (hb : b < w.heap.size) (hc : w.cell? ⟨b, 0, none⟩ = some (.slice a xs.length cp)) :
    Calls Tryd.prog 134 #[.string t, .pointer (some ⟨b, 0, none⟩)] w fun e w' => Below w.heap.size w w' ∧ e = .returned (.bool (lessB xs t)) := by
  obtain ⟨q, rfl⟩ := ht
  have hB : Below w.heap.size w (w.alloc (.cells #[.string (termT n q)] 9)) := (Below.refl w.heap.size w).alloc (Nat.le_refl _) _
  have c5 := Lib.hid (containsS_any xs a cp 136 #[.pointer (some ⟨w.heap.size, 0, none⟩)] (fun u => neqT u (termT n q) && insB u (termT n q)) (w.alloc (.cells #[.string (termT n q)] 9)) (hT.step hB) hl (enters_fn Tryd.func136 (by kernel_rfl) rfl) (fun u wx hu hx => by
    obtain ⟨p, rfl⟩ := hx0 u hu
    exact least11_any n hn p q w.heap.size wx (by have := hx.size; simp at this; omega) (by rw [hx.cell (by simp)]; exact cell_new rfl)))
  obtain ⟨t, ht⟩ : ∃ t, termT n q = t := ⟨_, rfl⟩
  rw [ht] at c5 hB ⊢
  clear hT ht
  go_enter Tryd.func134, Tryd.ntmps134
  go_wp2_with fail
  refine c5.out.mono ?_
  rintro e w' ⟨hW, rfl⟩
  go_wp2_with fail
  go_ret
  exact ⟨hB.trans (hW.mono (by simp)), rfl⟩
theorem greatest1_any (n : Nat) (hn : n ≤ 5) (xs : List ByteArray) (hx0 : allT n xs) (hl : xs.length ≤ 1000000) (a : Option Addr) (cp b : Nat) (t : ByteArray) (ht : ∃ p, t = termT n p) (w : World) (hT : TxR w a xs) (hb : b < w.heap.size) (hc : w.cell? ⟨b, 0, none⟩ = some (.slice a xs.length cp)) :
    Calls Tryd.prog 137 #[.string t, .pointer (some ⟨b, 0, none⟩)] w fun e w' => Below w.heap.size w w' ∧ e = .returned (.bool (moreB xs t)) := by
  obtain ⟨q, rfl⟩ := ht
  have hB : Below w.heap.size w (w.alloc (.cells #[.string (termT n q)] 9)) := (Below.refl w.heap.size w).alloc (Nat.le_refl _) _
  have c5 := Lib.hid (containsS_any xs a cp 138 #[.pointer (some ⟨w.heap.size, 0, none⟩)] (fun u => neqT u (termT n q) && insB (termT n q) u) (w.alloc (.cells #[.string (termT n q)] 9)) (hT.step hB) hl (enters_fn Tryd.func138 (by kernel_rfl) rfl) (fun u wx hu hx => by
    obtain ⟨p, rfl⟩ := hx0 u hu
    exact greatest11_any n hn p q w.heap.size wx (by have := hx.size; simp at this; omega) (by rw [hx.cell (by simp)]; exact cell_new rfl)))
  obtain ⟨t, ht⟩ : ∃ t, termT n q = t := ⟨_, rfl⟩
  rw [ht] at c5 hB ⊢
  clear hT ht
  go_enter Tryd.func137, Tryd.ntmps137
  go_wp2_with fail
  refine c5.out.mono ?_
  rintro e w' ⟨hW, rfl⟩
  go_wp2_with fail
  go_ret
  exact ⟨hB.trans (hW.mono (by simp)), rfl⟩
set_option maxHeartbeats 1000000 in
theorem leastTraps_impl (t : ByteArray) (w : World) (hs : t.size ≤ 1048576) :
    Calls Tryd.prog 60 #[.string t] w fun e w' => Below w.heap.size w w' ∧ ∃ a c, e = .returned (.slice a (leastL t).length c) ∧ TextsAt w' w.heap.size a (leastL t) := by
  have cT := Lib.hid (trapsOf_impl t w hs)
  have hl := trapsL_length t
  have hterm := trapsL_terms t
  have hdef : leastL t = (trapsL t).filter fun u => !lessB (trapsL t) u := rfl
  have hn5 : (trapsL t) ≠ [] → (netOf t).n ≤ 5 := fun h => by
    unfold trapsL at h
    split at h
    · rename_i hok; exact (netOf_ok hok).2
    · exact absurd rfl h
  obtain ⟨xs, hxs⟩ : ∃ xs, trapsL t = xs := ⟨_, rfl⟩
  rw [hxs] at cT hl hterm hdef hn5
  rw [hdef]
  obtain ⟨ys, hys⟩ : ∃ ys, (xs.filter fun u => !lessB xs u) = ys := ⟨_, rfl⟩
  have hyx : ys.length ≤ xs.length := by rw [← hys]; exact List.length_filter_le _ _
  rw [hys]
  have Hys := Lib.hid hys
  have Hterm := Lib.hid hterm
  have Hn5 := Lib.hid hn5
  clear hdef hxs hterm hn5 hys
  go_enter Tryd.func60, Tryd.ntmps60
  go_wp2_with fail
  refine cT.out.mono ?_
  rintro e w1 ⟨hW1, a, c, rfl, hc, ha, hT⟩
  have hB1 : Below w1.heap.size w1 (w1.alloc (.cells #[.slice a xs.length c] 26)) := (Below.refl w1.heap.size w1).alloc (Nat.le_refl _) _
  have HR := Lib.hid (hT.txR.step hB1)
  have cC := Lib.hid (cloneS_any xs a c (w1.alloc (.cells #[.slice a xs.length c] 26)) HR.out (by omega))
  clear hT ha
  go_wp2_with fail
  refine cC.out.mono ?_
  rintro e w2 ⟨hW2, a2, c2, rfl, hc2, hT2⟩
  have hs2 := hW2.size
  have hsz1 : (w1.alloc (.cells #[.slice a xs.length c] 26)).heap.size = w1.heap.size + 1 := by simp
  have cD := Lib.hid (deleteS_any (w1.heap.size + 1) xs a2 c2 134 #[.pointer (some ⟨w1.heap.size, 0, none⟩)] (lessB xs) w2 (by rw [← hsz1]; exact hT2) (by omega) hc2 (by omega) (enters_fn Tryd.func134 (by kernel_rfl) rfl) (fun u wx hu hx => by
    have h12 : Below (w1.heap.size + 1) (w1.alloc (.cells #[.slice a xs.length c] 26)) wx := (by rw [← hsz1]; exact hW2 : Below (w1.heap.size + 1) _ w2).trans hx
    exact least1_any (netOf t).n (Hn5.out fun e => by rw [e] at hu; cases hu) xs Hterm.out (by omega) a c w1.heap.size u (Hterm.out u hu) wx (HR.out.step (by rw [hsz1]; exact h12)) (by have := h12.size; simp at this; omega) (by rw [h12.cell (by show w1.heap.size < w1.heap.size + 1; omega)]; exact cell_new rfl)))
  clear hT2
  go_wp2_with fail
  refine cD.out.mono ?_
  rintro e w3 ⟨hW3, m, rfl, hm, hT3⟩
  have hW13 : Below w1.heap.size w1 w3 := (hB1.trans (hW2.mono (by omega))).trans (hW3.mono (by omega))
  rw [Hys.out] at hm hT3
  have HT3 := Lib.hid (hT3.mono (show w.heap.size ≤ w1.heap.size + 1 by have := hW1.size; omega))
  subst hm
  have hya : 0 < ys.length → ∃ g, a2 = some ⟨g, 0, none⟩ := fun h0 => by
    obtain ⟨g, _, _, h1, _⟩ := hT3.at' h0
    exact ⟨g, h1⟩
  have hyc : ys.length ≤ c2 := by omega
  have C := Lib.hid (fun wx => clips_any a2 ys.length c2 hya hyc (by omega) wx)
  clear hT3 hya
  go_wp2_with fail
  refine (C.out _).mono ?_
  rintro e w' ⟨rfl, rfl⟩
  go_wp2_with fail
  go_ret
  exact ⟨hW1.trans (hW13.mono hW1.size), a2, _, rfl, HT3.out⟩
end Go.Proofs.YtcddnacbjdahbaaDoor
