/- The program's terms in order, and traps. -/
import Derived.Test.YtcddnacbjdahbaaDoorImplG
import Derived.Test.YtcddnacbjdahbaaDoorSy
import Derived.Test.YtcddnacbjdahbaaDoorTm
namespace Go.Proofs.YtcddnacbjdahbaaDoor
open Go Go.RowKit Go.Sw
set_option maxRecDepth 100000
set_option linter.unusedVariables false

theorem str_three (p q r : ByteArray) (w : World) : (Instr.buildSlice 26 3 [(0, .string p), (1, .string q), (2, .string r)].toArray).run Tryd.prog w =
    .ok (.slice (some ⟨w.heap.size, 0, none⟩) 3 3) (w.alloc (.cells #[.string p, .string q, .string r] 9)) := by kernel_rfl
/-- append of three texts to a list of texts that the call owns -/
theorem wpList_text_append3 {ops : Array Oper} {rest : List Oper} {o : Oper} {a : Act} {w : World} {Q : Exit → Act → World → Prop} (hgd : o.guard = none) (s x : Operand)
    (ho : o.op = .call { callee := .builtin .append, args := #[s, x], argTypes := #[26, 26] })
    (base : Nat) (v : Value) (xs : List ByteArray) (hs : a.eval s = v) (hown : w.ownsRow base 9 1 v xs.length (texts xs))
    (b : Nat) (p q r : ByteArray) (hx : a.eval x = .slice (some ⟨b, 0, none⟩) 3 3) (hc : w.heap[b]? = some (.cells #[.string p, .string q, .string r] 9 (0, 0))) (hk : xs.length ≤ 4000000) {B : Nat} {w0 : World} (hW : Below B w0 w) (hB : B ≤ base) (hB0 : base ≤ w.heap.size)
    (h : ∀ v' w', w'.ownsRow base 9 1 v' (xs ++ [p, q, r]).length (texts (xs ++ [p, q, r])) → Below B w0 w' → (∀ k, k < w.heap.size → v.ownBlock ≠ some k → w'.heap[k]? = w.heap[k]? ∧ v'.ownBlock ≠ some k) → wpList Tryd.prog ops Q rest (a.put o.dst v') w') : wpList Tryd.prog ops Q (o :: rest) a w := by
  obtain ⟨i0, hi, hz0, hz1, hz2⟩ := info_parts str_row
  refine wpList_append_own_at w hgd s x 26 ho base 9 i0 (.string ByteArray.empty) 1 16 Tryd.underlying26 hi hz0 hz1 hz2 rfl (by decide) v xs.length (texts xs) hs hown ⟨b, 0, none⟩ 3 3 [.string p, .string q, .string r] hx rfl
    (fun j u hu => by
      rw [Addr.add_mid, Nat.zero_add, cell_of_row w _ _ _ _ _ hc]; simpa using hu) (fun u hu => by
      simp only [List.mem_cons, List.not_mem_nil, or_false] at hu
      rcases hu with rfl | rfl | rfl <;> rfl) (by unfold maxLen; omega) (by omega) hB0 ?_
  intro v' w' h1 h2 _ h4
  have e : texts (xs ++ [p, q, r]) = texts xs ++ [.string p, .string q, .string r] := by simp [texts]
  refine h v' w' (by rw [e, List.length_append]; exact h1) (hW.grown h2 (by omega) fun g hg => Nat.le_trans hB (own_ge hown hg)) fun k hk hne => ⟨h2.block k hk fun e => hne e.symm, ?_⟩
  rcases h4 with h4 | h4
  · rw [h4]; exact hne
  · rw [h4]; intro e; cases e; exact Nat.lt_irrefl _ hk
theorem three_flat {l : List ByteArray} {j : Nat} (h : j < l.length) : (l.take (j + 1)).flatMap three = (l.take j).flatMap three ++ [l[j] ++ (⟨#[42]⟩ : ByteArray), l[j] ++ (⟨#[48]⟩ : ByteArray), l[j] ++ (⟨#[49]⟩ : ByteArray)] := by
  rw [List.take_succ_eq_append_getElem h, List.flatMap_append]
  simp [three]
theorem three_length (l : List ByteArray) : (l.flatMap three).length = l.length * 3 := by
  induction l with
  | nil => rfl
  | cons a r ih => rw [List.flatMap_cons, List.length_append, ih]; simp [three]; omega
/-- the terms told in a round -/
def partM (k j : Nat) : List ByteArray := ((allL k).take j).flatMap three
theorem partM_zero (k : Nat) : partM k 0 = [] := rfl
theorem partM_end (k : Nat) : partM k (allL k).length = allL (k + 1) := by unfold partM; rw [List.take_length, allL_succ]
theorem partM_succ {k j : Nat} (h : j < (allL k).length) : partM k (j + 1) = partM k j ++ [(allL k)[j] ++ (⟨#[42]⟩ : ByteArray), (allL k)[j] ++ (⟨#[48]⟩ : ByteArray), (allL k)[j] ++ (⟨#[49]⟩ : ByteArray)] := three_flat h
theorem partM_length {k j : Nat} (hk : k ≤ 5) : (partM k j).length ≤ 729 := by
  unfold partM
  rw [three_length, List.length_take]
  have := allL_le hk
  omega
set_option maxHeartbeats 1000000 in
theorem allTerms_any (n : Nat) (hn : n ≤ 5) (w : World) :
    Calls Tryd.prog 153 #[.int .i64 n] w fun e w' => Below w.heap.size w w' ∧ ∃ v, e = .returned v ∧ w'.ownsRow w.heap.size 9 1 v (allL n).length (texts (allL n)) := by
  have h0 := Lib.hid (allL_zero)
  go_enter Tryd.func153, Tryd.ntmps153
  go_wp2_with ((with_reducible show wpList _ _ _ (⟨_, .buildSlice 26 1 _, _, _, _, _⟩ :: _) _ _); refine wpList_buildSlice' rfl _ _ _ rfl rfl (str_one ByteArray.empty _) ?_)
  go_loopw [3, 4, 6, 9, 11, 12, 13] (fun out _ _ i _ _ _ wr => ∃ k : Nat, k ≤ n ∧ i = .int .i64 k ∧ wr.ownsRow w.heap.size 9 1 out (allL k).length (texts (allL k)) ∧ Below w.heap.size w wr) (fun _ _ _ i _ _ _ _ => n - (intOf i).toNat)
  case atStart => exact ⟨0, Nat.zero_le _, rfl, by
    rw [h0.out]
    exact ⟨rfl, .inr ⟨w.heap.size, 1, #[.string ByteArray.empty], rfl, Nat.le_refl _, heap_alloc_new w _, Nat.le_refl _, by unfold maxLen; omega, rfl, rfl⟩⟩, (Below.refl _ _).alloc (Nat.le_refl _) _⟩
  case round =>
    obtain ⟨k, hk, rfl, hown, hW⟩ := hrel
    have hl1 := allL_le (show k ≤ 5 by omega)
    have hszs := allL_size k
    by_cases hlt : k < n
    · obtain ⟨a, cp, rfl, hcp, hT⟩ := textsAt_of_own hown
      obtain ⟨xs, hxs⟩ : ∃ xs, allL k = xs := ⟨_, rfl⟩
      have hend := Lib.hid (partM_end k)
      have hsuc := Lib.hid (fun j (h : j < (allL k).length) => partM_succ h)
      have hz := Lib.hid (partM_zero k)
      have hlm := fun j => partM_length (k := k) (j := j) (by omega)
      rw [hxs] at hown hl1 hszs hT hend hsuc hcp ⊢
      have Hszs := Lib.hid hszs
      have HT := Lib.hid hT
      have hlen : 0 < xs.length := by
        have := allL_length k
        rw [hxs] at this
        rw [this]; exact Nat.pow_pos (by omega)
      obtain ⟨g, _, _, rfl, _, hc, _, _⟩ := hT.at' hlen
      have hgw := block_lt hc
      have hWs := hW.size
      obtain ⟨wo, rfl⟩ : ∃ wo : World, wo = wr := ⟨_, rfl⟩
      clear hT hc hown hszs
      go_wp2_with fail
      go_loopw [4, 6, 13] (fun nx _ j wr => ∃ m : Nat, m ≤ xs.length ∧ j = .int .i64 m ∧ wr.ownsRow w.heap.size 9 1 nx (partM k m).length (texts (partM k m)) ∧ Below w.heap.size w wr ∧ wr.heap[g]? = wo.heap[g]? ∧ nx.ownBlock ≠ some g ∧ g < wr.heap.size) (fun _ _ j _ => xs.length - (intOf j).toNat)
      case atStart => exact ⟨0, Nat.zero_le _, rfl, World.ownsRow_nil _ _ _ _, hW, rfl, (fun e => by cases e), hgw⟩
      case round =>
        obtain ⟨m, hm, rfl, hown, hW2, hg, hne, hgl⟩ := hrel
        have Hown := Lib.hid hown
        have hlm2 := hlm m
        have hWs2 := hW2.size
        clear hown
        by_cases hlt2 : m < xs.length
        · obtain ⟨g', hg', hcell0⟩ := HT.out.cell hlt2
          cases hg'
          have hcell : wr.cell? ⟨g, m, none⟩ = some (.string xs[m]) := by
            rw [World.cell?_of_block (w := wo) (a := ⟨g, m, none⟩) hg]; exact hcell0
          have hsz := Hszs.out xs[m] (List.getElem_mem hlt2)
          have hs := hsuc.out m hlt2
          obtain ⟨t, ht⟩ : ∃ t, xs[m] = t := ⟨_, rfl⟩
          rw [ht] at hs hsz hcell
          have hsz2 : t.size ≤ 5 := by omega
          have Hs := Lib.hid hs
          have Hg := Lib.hid hg
          have Hne := Lib.hid hne
          clear hs hg hne hcell0 ht hsz
          go_wp2_with (first | ((with_reducible show wpList _ _ _ (⟨_, .buildSlice 26 3 _, _, _, _, _⟩ :: _) _ _); refine wpList_buildSlice' rfl _ _ _ rfl rfl (str_three _ _ _ _) ?_) | (at_builtin; refine wpList_text_append3 rfl _ _ rfl w.heap.size _ (partM k m) rfl (Hown.out.alloc _) _ _ _ _ rfl (heap_alloc_new _ _) (by omega) (hW2.alloc (by omega) _) (Nat.le_refl _) (by simp; omega) ?_))
          intro v' w4 hown4 hB4 hstay
          have hown5 : w4.ownsRow w.heap.size 9 1 v' (partM k (m + 1)).length (texts (partM k (m + 1))) := by
            rw [Hs.out, List.length_append]; exact hown4
          obtain ⟨hst1, hst2⟩ := hstay g (by first | omega | (simp; omega)) Hne.out
          have Hst1 := Lib.hid (hst1.trans ((Below.heap_alloc _ _ _ hgl).trans Hg.out))
          have Hst2 := Lib.hid hst2
          have Hown4 := Lib.hid hown5
          have HB4 := Lib.hid hB4
          have hg4 : g < w4.heap.size := by
            have := Hst1.out
            obtain ⟨_, _, _, _, _, hc, _, _⟩ := HT.out.at' hlen
            cases ‹some _ = some _›
            exact block_lt (this.trans hc)
          clear hown4 hown5 hB4 hstay hst1 hst2
          go_wp2_with fail
          go_roundw
          case rel => exact ⟨m + 1, by omega, by go_num, Hown4.out, HB4.out, Hst1.out, Hst2.out, hg4⟩
          case measure => simp [intOf] <;> omega
        · obtain rfl : m = xs.length := by omega
          have Hend := Lib.hid hend.out
          clear hg hne
          go_wp2_with fail
          go_roundw
          case rel => exact ⟨k + 1, by omega, by go_num, by rw [← Hend.out]; exact Hown.out, hW2⟩
          case measure => simp [intOf] <;> omega
    · obtain rfl : k = n := by omega
      have Hown := Lib.hid hown
      clear hown
      go_wp2_with fail
      go_ret
      exact ⟨hW, _, rfl, Hown.out⟩
set_option maxHeartbeats 1000000 in
theorem traps_any (b cap : Nat) (N : Net) (h1n : 1 ≤ N.n) (hn : N.n ≤ 5) (w : World) (hat : NetAt w b N.n N.f) (hb : b < w.heap.size) :
    Calls Tryd.prog 84 #[.slice (some ⟨b, 0, none⟩) N.n cap] w fun e w' => Below w.heap.size w w' ∧ ∃ a c, e = .returned (.slice a (trapsT N).length c) ∧ (trapsT N).length ≤ c ∧ (0 < (trapsT N).length → ∃ g, a = some ⟨g, 0, none⟩) ∧ TextsAt w' w.heap.size a (trapsT N) := by
  have Hat := Lib.hid hat
  have cA := Lib.hid (allTerms_any N.n hn w)
  have hlenA : (allP N.n).length = (allL N.n).length := allP_length N.n
  have hl243 := allL_le hn
  have hall := Lib.hid (trapsTo_all N)
  have hz := Lib.hid (trapsTo_zero N)
  have hsuc := Lib.hid (fun k (h : k < (allP N.n).length) => trapsTo_succ h)
  have hlt0 := fun k => trapsTo_length hn k
  have hget : ∀ k (h : k < (allL N.n).length) (h2 : k < (allP N.n).length), (allL N.n)[k] = termT N.n ((allP N.n)[k]) := fun k h h2 => by simp [allL]
  obtain ⟨ps, hps⟩ : ∃ ps, allP N.n = ps := ⟨_, rfl⟩
  obtain ⟨xs, hxs⟩ : ∃ xs, allL N.n = xs := ⟨_, rfl⟩
  rw [hps, hxs] at hget
  rw [hxs] at cA
  rw [hps, hxs] at hlenA
  rw [hxs] at hl243
  rw [hps] at hall hsuc
  have Hget := Lib.hid hget
  clear hat hps hxs hget
  go_enter Tryd.func84, Tryd.ntmps84
  go_wp2_with fail
  refine cA.out.mono ?_
  rintro e w1 ⟨hW1, v, rfl, hown1⟩
  obtain ⟨a, cp, rfl, hcp, hT⟩ := textsAt_of_own hown1
  have HT := Lib.hid hT
  clear hown1 hT
  go_wp2_with fail
  go_loopw [3, 5, 10] (fun out _ i wr => ∃ k : Nat, k ≤ xs.length ∧ i = .int .i64 k ∧ wr.ownsRow w1.heap.size 9 1 out (trapsTo N k).length (texts (trapsTo N k)) ∧ Below w1.heap.size w1 wr) (fun _ _ i _ => xs.length - (intOf i).toNat)
  case atStart => exact ⟨0, Nat.zero_le _, rfl, by rw [hz.out]; exact World.ownsRow_nil _ _ _ _, Below.refl _ _⟩
  case round =>
    obtain ⟨k, hk, rfl, hown, hW⟩ := hrel
    have Hown := Lib.hid hown
    have hlk := hlt0 k
    have hWs := hW.size
    have hWA := hW1.trans (hW.mono hW1.size)
    clear hown
    by_cases hlt : k < xs.length
    · obtain ⟨g, rfl, hcell⟩ := (HT.out.below hW).cell hlt
      rw [Hget.out k hlt (by omega)] at hcell
      have hs := hsuc.out k (by omega)
      obtain ⟨p, hp⟩ : ∃ p, ps[k]'(by omega) = p := ⟨_, rfl⟩
      rw [hp] at hcell hs
      have cT := Lib.hid (trap_any b cap N hn p wr (Hat.out.below hWA hb) (Nat.lt_of_lt_of_le hb hWA.size))
      clear hp
      cases htp : trapP N p <;> rw [htp] at cT hs
      · rw [if_neg (by decide)] at hs
        have Hs := Lib.hid hs
        clear hs htp
        go_wp2_with fail
        refine cT.out.mono ?_
        rintro e w2 ⟨hW2, rfl⟩
        have Hown2 := Lib.hid (own_below Hown.out hW2)
        have hW3 := hW.trans (hW2.mono hWs)
        go_wp2_with fail
        go_roundw
        case rel => exact ⟨k + 1, by omega, by go_num, by rw [Hs.out]; exact Hown2.out, hW3⟩
        case measure => simp [intOf] <;> omega
      · rw [if_pos rfl] at hs
        have Hs := Lib.hid hs
        clear hs htp
        obtain ⟨tx, htx⟩ : ∃ tx, termT N.n p = tx := ⟨_, rfl⟩
        rw [htx] at cT Hs hcell
        clear htx
        go_wp2_with fail
        refine cT.out.mono ?_
        rintro e w2 ⟨hW2, rfl⟩
        have Hown2 := Lib.hid (own_below Hown.out hW2)
        have hW3 := hW.trans (hW2.mono hWs)
        have hs3 := hW3.size
        go_wp2_with (first | ((with_reducible show wpList _ _ _ (⟨_, .buildSlice 26 1 _, _, _, _, _⟩ :: _) _ _); refine wpList_buildSlice' rfl _ _ _ rfl rfl (str_one _ _) ?_) | (at_builtin; refine wpList_text_appendK rfl _ _ rfl w1.heap.size _ (trapsTo N k) rfl ((Hown2.out.alloc _)) _ _ rfl (cell_new ?_) (by omega) (hW3.alloc (by omega) _) ?_ ?_ ?_))
        · rfl
        · exact Nat.le_refl _
        · first | omega | (simp; omega)
        · intro v' w4 hown4 hB4 _
          have hown5 : w4.ownsRow w1.heap.size 9 1 v' (trapsTo N (k + 1)).length (texts (trapsTo N (k + 1))) := by
            rw [Hs.out, List.length_append]; exact hown4
          have Hown4 := Lib.hid hown5
          have HB4 := Lib.hid hB4
          clear hown4 hown5 hB4
          go_wp2_with fail
          go_roundw
          case rel => exact ⟨k + 1, by omega, by go_num, Hown4.out, HB4.out⟩
          case measure => simp [intOf] <;> omega
    · obtain rfl : k = xs.length := by omega
      rw [← hlenA] at Hown hlk
      rw [hall.out] at Hown hlk
      obtain ⟨a2, cp2, rfl, hcp2, hI⟩ := textsAt_of_own Hown.out
      have hI' := Lib.hid (hI.mono hW1.size)
      have ha : 0 < (trapsT N).length → ∃ g, a2 = some ⟨g, 0, none⟩ := fun h0 => by
        obtain ⟨g, _, _, h1, _⟩ := hI.at' h0
        exact ⟨g, h1⟩
      have Ha := Lib.hid ha
      have C := Lib.hid (fun wx => clips_any a2 (trapsT N).length cp2 ha hcp2 (by omega) wx)
      clear hI ha
      go_wp2_with fail
      refine (C.out _).mono ?_
      rintro e w' ⟨rfl, rfl⟩
      go_wp2_with fail
      go_ret
      exact ⟨hWA, a2, _, rfl, Nat.le_refl _, Ha.out, hI'.out⟩
theorem trapsOf_impl (t : ByteArray) (w : World) (hs : t.size ≤ 1048576) :
    Calls Tryd.prog 18 #[.string t] w fun e w' => Below w.heap.size w w' ∧ ∃ a c, e = .returned (.slice a (trapsL t).length c) ∧ (trapsL t).length ≤ c ∧ (0 < (trapsL t).length → ∃ g, a = some ⟨g, 0, none⟩) ∧ TextsAt w' w.heap.size a (trapsL t) := by
  go_enter Tryd.func18, Tryd.ntmps18
  go_wp2_with fail
  refine (readNetwork_any t w hs).mono ?_
  rintro e w1 ⟨hW1, ⟨hbad, rfl⟩ | ⟨hok, b, cap, rfl, hb1, hb2, hat⟩⟩
  · have hr : trapsL t = [] := by rw [trapsL, hbad]; rfl
    have Hr := Lib.hid hr
    clear hr hbad
    go_wp2_with fail
    go_ret
    rw [Hr.out]
    exact ⟨hW1, none, 0, rfl, Nat.le_refl _, fun h => absurd h (Nat.lt_irrefl _), textsAt_nil _ _ _⟩
  · have hn := netOf_ok hok
    have hr : trapsL t = trapsT (netOf t) := by rw [trapsL, hok]; rfl
    have C := Lib.hid (traps_any b cap (netOf t) hn.1 hn.2 w1 hat hb2)
    have Hr := Lib.hid hr
    clear hr hok hat
    go_wp2_with fail
    refine C.out.mono ?_
    rintro e w2 ⟨hW2, a, c, rfl, hc, ha, hT⟩
    have HT := Lib.hid (hT.mono hW1.size)
    have Ha := Lib.hid ha
    clear hT ha
    go_wp2_with fail
    go_ret
    rw [Hr.out]
    exact ⟨hW1.trans (hW2.mono hW1.size), a, c, rfl, hc, Ha.out, HT.out⟩
end Go.Proofs.YtcddnacbjdahbaaDoor
