/- The reference's single steps, what they lead to, attractors. A queue of numbers: a slice whose first number is taken by [1:] and to which numbers are appended. The reference's search through what single steps lead to. The reference's steady states, attractors, and how many lie in a trap. The reference's list of attractors of a text, and its count of those within a trap. -/
import Derived.Test.YtcddnacbjdahbaaDoorSpecF
import Derived.Test.YtcddnacbjdahbaaDoorRs
import Derived.Test.YtcddnacbjdahbaaDoorSl
import Derived.Test.YtcddnacbjdahbaaDoorAp
import Derived.Test.YtcddnacbjdahbaaDoorProg
import Derived.Maps.AppendAt
import Derived.ArgAppend
import Derived.OwnWalk
import Derived.Deep.LoopGhost
import Derived.Test.YtcddnacbjdahbaaDoorIv
namespace Go.Proofs.YtcddnacbjdahbaaDoor
open Go Go.RowKit Go.Sw
set_option maxRecDepth 100000
set_option linter.unusedVariables false

theorem wrap_two : ∀ k, k < 5 → (((2 ^ k : Nat)) : Int) = wrap64 ((2 : Int) ^ k) := fun k hk => by
  have : k = 0 ∨ k = 1 ∨ k = 2 ∨ k = 3 ∨ k = 4 := by omega
  rcases this with rfl | rfl | rfl | rfl | rfl <;> first | rfl | (simp [wrap64]; done) | (unfold wrap64; decide)
set_option maxHeartbeats 1000000 in
theorem l5Next_any (b cap s : Nat) (N : Net) (hn : N.n ≤ 5) (hs : s < pw N.n) (w : World) (hat : StrsAt w b (netTexts N)) (hb : b < w.heap.size) :
    Calls Tryd.prog 210 #[.slice (some ⟨b, 0, none⟩) N.n cap, .int .i64 s] w fun e w' => Below w.heap.size w w' ∧ ∃ a c, e = .returned (.slice a (nextL N s).length c) ∧ IntsAt w' w.heap.size a (natL (nextL N s)) := by
  have Hat := Lib.hid hat
  have hpw := pw_le hn
  clear hat
  go_enter Tryd.func210, Tryd.ntmps210
  go_wp2_with ((with_reducible show wpList _ _ _ (⟨_, .buildSlice 30 0 _, _, _, _, _⟩ :: _) _ _); refine wpList_buildSlice' rfl _ _ _ rfl rfl (int_none _) ?_)
  go_loopw [5, 6, 7] (fun out i _ wr => ∃ k : Nat, k ≤ N.n ∧ i = .int .i64 k ∧ wr.ownsRow w.heap.size 3 1 out (natL (nextTo N s k)).length (ints (natL (nextTo N s k))) ∧ Below w.heap.size w wr) (fun _ i _ _ => N.n - (intOf i).toNat)
  case atStart => exact ⟨0, Nat.zero_le _, rfl, World.ownsRow_made w #[] 0 (Nat.le_refl _) (by unfold maxLen; omega) rfl, (Below.refl _ _).alloc (Nat.le_refl _) _⟩
  case round =>
    obtain ⟨k, hk, rfl, hown, hW⟩ := hrel
    have Hown := Lib.hid hown
    have hlk := nextTo_length N s k
    have hWs := hW.size
    clear hown
    by_cases hlt : k < N.n
    · have c0 := l3Step_any b cap s (2 ^ k) N hn hs (Nat.pow_lt_pow_right (by omega) (by omega)) wr (Hat.out.below hW hb)
      rw [setStep_one N s k hlt, wrap_two k (by omega)] at c0
      have hsuc : nextTo N s (k + 1) = if setN s k (N.f k s) ≠ s then nextTo N s k ++ [setN s k (N.f k s)] else nextTo N s k := rfl
      obtain ⟨t, ht⟩ : ∃ t, setN s k (N.f k s) = t := ⟨_, rfl⟩
      rw [ht] at c0 hsuc
      obtain ⟨ps, hps⟩ : ∃ ps, nextTo N s k = ps := ⟨_, rfl⟩
      rw [hps] at hsuc Hown hlk
      have hpl : (natL ps).length ≤ 5 := by rw [natL_length]; omega
      have cO := Lib.hid c0
      clear ht hps c0
      by_cases hts : t = s
      · rw [if_neg (by simpa using hts)] at hsuc
        have Hs := Lib.hid hsuc
        have he : ((t : Int) == (s : Int)) = true := by rw [hts]; simp
        have he2 : ((t : Int) != (s : Int)) = false := by rw [hts]; simp
        clear hsuc hts
        go_wp2_with fail
        refine cO.out.mono ?_
        rintro e w2 ⟨rfl, rfl⟩
        go_wp2_with fail
        go_roundw
        case rel => exact ⟨k + 1, by omega, by go_num, by rw [Hs.out]; exact Hown.out, hW⟩
        case measure => simp [intOf] <;> omega
      · rw [if_pos hts] at hsuc
        have Hs := Lib.hid hsuc
        have he : ((t : Int) == (s : Int)) = false := by rw [beq_eq_false_iff_ne]; omega
        have he2 : ((t : Int) != (s : Int)) = true := by rw [bne_iff_ne]; omega
        clear hsuc
        go_wp2_with fail
        refine cO.out.mono ?_
        rintro e w2 ⟨rfl, rfl⟩
        go_wp2_with (first | ((with_reducible show wpList _ _ _ (⟨_, .buildSlice 30 1 _, _, _, _, _⟩ :: _) _ _); refine wpList_buildSlice' rfl _ _ _ rfl rfl (int_one (t : Int) _) ?_) | (at_builtin; refine wpList_int_append rfl _ _ rfl w.heap.size _ (natL ps) rfl ((Hown.out.alloc _)) _ _ rfl (cell_new ?_) (by omega) (hW.alloc (by omega) _) ?_ ?_ ?_))
        · rfl
        · exact Nat.le_refl _
        · first | omega | (simp; omega)
        · intro v' w4 hown4 hB4
          have hown5 : w4.ownsRow w.heap.size 3 1 v' (natL (nextTo N s (k + 1))).length (ints (natL (nextTo N s (k + 1)))) := by
            rw [Hs.out, natL_snoc, List.length_append]; exact hown4
          have Hown4 := Lib.hid hown5
          have HB4 := Lib.hid hB4
          clear hown4 hown5 hB4
          go_wp2_with fail
          go_roundw
          case rel => exact ⟨k + 1, by omega, by go_num, Hown4.out, HB4.out⟩
          case measure => simp [intOf] <;> omega
    · obtain rfl : k = N.n := by omega
      obtain ⟨a, cp, rfl, hcp, hI⟩ := intsAt_of_own Hown.out
      have HI := Lib.hid hI
      have hnl : nextTo N s N.n = nextL N s := rfl
      rw [hnl] at HI ⊢
      clear hI
      rw [natL_length]
      go_wp2_with fail
      go_ret
      exact ⟨hW, a, _, rfl, HI.out⟩
/-- block b holds n truths -/
structure BoolsAt (w : World) (b n : Nat) (S : Nat → Bool) : Prop where
  at' : ∃ cur t, w.heap[b]? = some (.cells cur t (0, 0)) ∧ cur.size = n ∧ ∀ j, j < n → cur[j]? = some (.bool (S j))
theorem BoolsAt.same {w w' : World} {b n : Nat} {S : Nat → Bool} (h : BoolsAt w b n S) (hb : w'.heap[b]? = w.heap[b]?) : BoolsAt w' b n S := by
  obtain ⟨cur, t, h1, h2⟩ := h.at'
  exact ⟨cur, t, hb.trans h1, h2⟩
theorem BoolsAt.lt {w : World} {b n : Nat} {S : Nat → Bool} (h : BoolsAt w b n S) : b < w.heap.size := by
  obtain ⟨cur, t, h1, _⟩ := h.at'
  exact block_lt h1
theorem BoolsAt.below {w w' : World} {b n : Nat} {S : Nat → Bool} (h : BoolsAt w b n S) (hb : Below w.heap.size w w') : BoolsAt w' b n S := h.same (hb.block b h.lt)
theorem BoolsAt.cell {w : World} {b n j : Nat} {S : Nat → Bool} (h : BoolsAt w b n S) (hj : j < n) : w.cell? ⟨b, j, none⟩ = some (.bool (S j)) := by
  obtain ⟨cur, t, h1, h2, h3⟩ := h.at'
  rw [cell_of_row w _ _ _ _ _ h1]
  exact h3 j hj
theorem l5Sorted_any (b c n : Nat) (p : Nat → Bool) (hn : n ≤ 32) (w : World) (hB : BoolsAt w b n p) :
    Calls Tryd.prog 190 #[.slice (some ⟨b, 0, none⟩) n c] w fun e w' => Below w.heap.size w w' ∧ ∃ a c, e = .returned (.slice a (pickL p n).length c) ∧ IntsAt w' w.heap.size a (natL (pickL p n)) := by
  have HB := Lib.hid hB
  clear hB
  go_enter Tryd.func190, Tryd.ntmps190
  go_wp2_with ((with_reducible show wpList _ _ _ (⟨_, .buildSlice 30 0 _, _, _, _, _⟩ :: _) _ _); refine wpList_buildSlice' rfl _ _ _ rfl rfl (int_none _) ?_)
  go_loopw [3, 4] (fun out i wr => ∃ m : Nat, m ≤ n ∧ i = .int .i64 m ∧ wr.ownsRow w.heap.size 3 1 out (natL (pickL p m)).length (ints (natL (pickL p m))) ∧ Below w.heap.size w wr) (fun _ i _ => n - (intOf i).toNat)
  case atStart => exact ⟨0, Nat.zero_le _, rfl, World.ownsRow_made w #[] 0 (Nat.le_refl _) (by unfold maxLen; omega) rfl, (Below.refl _ _).alloc (Nat.le_refl _) _⟩
  case round =>
    obtain ⟨m, hm, rfl, hown, hW⟩ := hrel
    have Hown := Lib.hid hown
    have hlk := pickL_length p m
    have hWs := hW.size
    clear hown
    by_cases hlt : m < n
    · have hcell := (HB.out.below hW).cell hlt
      have hsuc : pickL p (m + 1) = if p m then pickL p m ++ [m] else pickL p m := rfl
      obtain ⟨ps, hps⟩ : ∃ ps, pickL p m = ps := ⟨_, rfl⟩
      rw [hps] at hsuc Hown hlk
      have hpl : (natL ps).length ≤ 32 := by rw [natL_length]; omega
      clear hps
      cases hp : p m <;> rw [hp] at hcell hsuc
      · have Hs := Lib.hid (show pickL p (m + 1) = ps from hsuc)
        clear hsuc hp
        go_wp2_with fail
        go_roundw
        case rel => exact ⟨m + 1, by omega, by go_num, by rw [Hs.out]; exact Hown.out, hW⟩
        case measure => simp [intOf] <;> omega
      · have Hs := Lib.hid (show pickL p (m + 1) = ps ++ [m] from hsuc)
        clear hsuc hp
        go_wp2_with (first | ((with_reducible show wpList _ _ _ (⟨_, .buildSlice 30 1 _, _, _, _, _⟩ :: _) _ _); refine wpList_buildSlice' rfl _ _ _ rfl rfl (int_one (m : Int) _) ?_) | (at_builtin; refine wpList_int_append rfl _ _ rfl w.heap.size _ (natL ps) rfl ((Hown.out.alloc _)) _ _ rfl (cell_new ?_) (by omega) (hW.alloc (by omega) _) ?_ ?_ ?_))
        · rfl
        · exact Nat.le_refl _
        · first | omega | (simp; omega)
        · intro v' w4 hown4 hB4
          have hown5 : w4.ownsRow w.heap.size 3 1 v' (natL (pickL p (m + 1))).length (ints (natL (pickL p (m + 1)))) := by
            rw [Hs.out, natL_snoc, List.length_append]; exact hown4
          have Hown4 := Lib.hid hown5
          have HB4 := Lib.hid hB4
          clear hown4 hown5 hB4
          go_wp2_with fail
          go_roundw
          case rel => exact ⟨m + 1, by omega, by go_num, Hown4.out, HB4.out⟩
          case measure => simp [intOf] <;> omega
    · obtain rfl : m = n := by omega
      obtain ⟨a, cp, rfl, hcp, hI⟩ := intsAt_of_own Hown.out
      have HI := Lib.hid hI
      clear hI
      rw [natL_length]
      go_wp2_with fail
      go_ret
      exact ⟨hW, a, _, rfl, HI.out⟩
/-- the first of the queue is taken -/
theorem rinv_front {N : Net} {s t : Nat} {S : Nat → Bool} {L : List Nat} (h : RInv N s S (t :: L) none) : RInv N s S L (some (t, 0)) :=
  ⟨h.start, h.only, fun i hi => h.stack i (by simp [hi]), fun i hi hn hx => by
    by_cases e : i = t
    · subst e; exact absurd rfl (hx 0)
    · exact h.done i hi (by simp [hn, e]) (fun m => by simp), fun t' m e => by
    cases e; exact ⟨h.stack t (by simp), fun k hk hm => by omega⟩⟩
theorem isTrap_spec (t u : ByteArray) (w : World) (hs : t.size ≤ 1048576) (hu : u.size ≤ 1048576) :
    Calls Tryd.prog 70 #[.string t, .string u] w fun e w' => Below w.heap.size w w' ∧ e = .returned (.bool (termOk t u && trapP (netOf t) (ofT u))) := by
  cases hok : termOk t u
  · have c := Lib.hid (l6Term_no t u w hs hu hok)
    rw [Bool.false_and]
    clear hok
    go_enter Tryd.func70, Tryd.ntmps70
    go_wp2_with fail
    refine c.out.mono ?_
    rintro e w1 ⟨hW1, v, rfl⟩
    go_wp2_with fail
    go_ret
    exact ⟨hW1, rfl⟩
  · rw [Bool.true_and]
    have hok2 := hok
    unfold termOk at hok2
    rw [Bool.and_eq_true] at hok2
    have hn := netOf_ok hok2.1
    have hut : termT (netOf t).n (ofT u) = u := termT_of hok2.2
    have c := l6Term_yes t u w hs hu hok
    obtain ⟨p, hp0⟩ : ∃ p0, ofT u = p0 := ⟨_, rfl⟩
    rw [hp0] at hut ⊢
    rw [← hut]
    rw [← hut] at c
    obtain ⟨N, hN⟩ : ∃ N, netOf t = N := ⟨_, rfl⟩
    rw [hN] at hn c ⊢
    have C := Lib.hid c
    clear hok hok2 hut c hN hp0 hu
    go_enter Tryd.func70, Tryd.ntmps70
    go_wp2_with fail
    refine C.out.mono ?_
    rintro e w1 ⟨hW1, b, cap, rfl, hb1, hb2, hat⟩
    have C1 := Lib.hid (l6Trap_any b cap N hn.2 p w1 hat hb2)
    clear hat
    go_wp2_with fail
    refine C1.out.mono ?_
    rintro e w2 ⟨hW2, rfl⟩
    go_wp2_with fail
    go_ret
    exact ⟨hW1.trans (hW2.mono hW1.size), rfl⟩
end Go.Proofs.YtcddnacbjdahbaaDoor
namespace Go.Proofs.YtcddnacbjdahbaaDoor
open Go Go.RowKit Go.Sw
set_option maxRecDepth 100000
set_option linter.unusedVariables false

theorem run_append_roomO {P : Program} (w : World) (t ty e : TypeId) (i : TypeInfo) (ht : P.underlying t = some (.slice e)) (hi : P.info? e = some i)
    (g o sLen sCap : Nat) (cur : Array Value) (hg : w.heap[g]? = some (.cells cur e (0, 0)))
    (a : Addr) (m c : Nat) (news : List Value) (hl : news.length = m * i.size) (hnews : ∀ j u, news[j]? = some u → w.cell? (a.add j) = some u) (h1 : ∀ u ∈ news, u.oneCell' = true)
    (hroom : sLen + m ≤ sCap) (hfit : o + sLen * i.size + news.length ≤ cur.size) :
    (Builtin.append_ #[t, t] ty #[.slice (some ⟨g, o, none⟩) sLen sCap, .slice (some a) m c]).run P w =
      .ok (.slice (some ⟨g, o, none⟩) (sLen + m) sCap) (w.setRow g (cur.toList.take (o + sLen * i.size) ++ news ++ cur.toList.drop (o + sLen * i.size + news.length)).toArray) := by
  have hf := run_firstCells_some (P := P) w i.size m a m c news hl hnews
  have hst := run_storeCells_at P g (o + sLen * i.size) e news 0 cur w hg (by simpa using hfit) h1
  simp only [Nat.add_zero] at hst
  simp [Builtin.append_, run_underlying ht, sizeOf, typeInfo, hi, Builtin.lenOf, hroom, hf, Addr.add_lit, hst]
/-- the slice v holds the numbers of L, from some place of block g on, which is ours -/
structure QAt (w : World) (base g : Nat) (e : TypeId) (v : Value) (L : List Int) : Prop where
  at' : ∃ o cap cur, v = .slice (some ⟨g, o, none⟩) L.length cap ∧ base ≤ g ∧ w.heap[g]? = some (.cells cur e (0, 0)) ∧ L.length ≤ cap ∧ cap ≤ maxLen ∧ o + cap ≤ cur.size ∧ ∀ j (h : j < L.length), cur[o + j]? = some (.int .i64 L[j])
theorem QAt.same {w w' : World} {base g : Nat} {e : TypeId} {v : Value} {L : List Int} (h : QAt w base g e v L) (hb : w'.heap[g]? = w.heap[g]?) : QAt w' base g e v L := by
  obtain ⟨o, cap, cur, h1, h2, h3, h4⟩ := h.at'
  exact ⟨o, cap, cur, h1, h2, hb.trans h3, h4⟩
theorem QAt.lt {w : World} {base g : Nat} {e : TypeId} {v : Value} {L : List Int} (h : QAt w base g e v L) : g < w.heap.size := by
  obtain ⟨o, cap, cur, h1, h2, h3, _⟩ := h.at'
  exact block_lt h3
theorem QAt.below {w w' : World} {base g : Nat} {e : TypeId} {v : Value} {L : List Int} (h : QAt w base g e v L) (hb : Below w.heap.size w w') : QAt w' base g e v L := h.same (hb.block g h.lt)
theorem qAt_of_own {w : World} {base : Nat} {e : TypeId} {v : Value} {L : List Int} (h : w.ownsRow base e 1 v L.length (ints L)) (h0 : 0 < L.length) : ∃ g, v.ownBlock = some g ∧ QAt w base g e v L := by
  rcases h.2 with ⟨_, hz⟩ | ⟨g, cap, cur, rfl, hb, hg, h1, h2, h3, h4⟩
  · omega
  · refine ⟨g, rfl, 0, cap, cur, rfl, hb, hg, h1, h2, by omega, fun j hj => ?_⟩
    have : (ints L)[j]? = some (.int .i64 L[j]) := by simp [ints, hj]
    rw [← h4, List.getElem?_take] at this
    rw [if_pos (by omega)] at this
    simpa using this
/-- the first number is left away -/
theorem QAt.tail {w : World} {base g o cap : Nat} {e : TypeId} {t : Int} {L : List Int} (h : QAt w base g e (.slice (some ⟨g, o, none⟩) (L.length + 1) cap) (t :: L)) : QAt w base g e (.slice (some ⟨g, o + 1, none⟩) L.length (cap - 1)) L := by
  obtain ⟨o', cap', cur, h0, h1, h2, h3, h4, h5, h6⟩ := h.at'
  injection h0 with e1 e2 e3
  injection e1 with e1
  injection e1 with _ e1 _
  subst e1 e3
  rw [List.length_cons] at h3
  refine ⟨o + 1, cap - 1, cur, rfl, h1, h2, by omega, by omega, by omega, fun j hj => ?_⟩
  have := h6 (j + 1) (by rw [List.length_cons]; omega)
  rw [show o + 1 + j = o + (j + 1) by omega]
  simpa using this
theorem QAt.none {w : World} {base g o cap : Nat} {e : TypeId} {L : List Int} (h : QAt w base g e (.slice (some ⟨g, o, none⟩) L.length cap) L) : QAt w base g e (.slice (some ⟨g, o, none⟩) 0 0) [] := by
  obtain ⟨o', cap', cur, h0, h1, h2, h3, h4, h5, h6⟩ := h.at'
  injection h0 with e1 e2 e3
  injection e1 with e1
  injection e1 with _ e1 _
  subst e1 e3
  exact ⟨o, 0, cur, rfl, h1, h2, Nat.le_refl _, by omega, by omega, fun j hj => absurd hj (Nat.not_lt_zero _)⟩
theorem ints_get (L : List Int) (j : Nat) (u : Value) (h : (ints L)[j]? = some u) : ∃ hj : j < L.length, u = .int .i64 L[j] := by
  have hj : j < L.length := by
    have := (List.getElem?_eq_some_iff.1 h).1
    rwa [ints_length] at this
  refine ⟨hj, ?_⟩
  have e : (ints L)[j]? = some (.int .i64 L[j]) := by simp [ints, hj]
  rw [e] at h
  exact (Option.some.inj h).symm
theorem wpList_q_append {ops : Array Oper} {rest : List Oper} {o : Oper} {a : Act} {w : World} {Q : Exit → Act → World → Prop} (hgd : o.guard = none) (s x : Operand)
    (ho : o.op = .call { callee := .builtin .append, args := #[s, x], argTypes := #[30, 30] })
    (base g : Nat) (v : Value) (L : List Int) (hs : a.eval s = v) (hq : QAt w base g 3 v L) (u : Int) (b : Nat) (hx : a.eval x = .slice (some ⟨b, 0, none⟩) 1 1) (hc : w.rangeAt b 0 [.int .i64 u]) (hk : L.length ≤ 1000000) (hB0 : base ≤ w.heap.size)
    (h : ∀ v' w' g', QAt w' base g' 3 v' (L ++ [u]) → w.grownBy w' (some g) → (g' = g ∨ w.heap.size ≤ g') → wpList Tryd.prog ops Q rest (a.put o.dst v') w') : wpList Tryd.prog ops Q (o :: rest) a w := by
  obtain ⟨i0, hi, hz0, hz1, hz2⟩ := info_parts int_row
  obtain ⟨of, cap, cur, rfl, hb, hg, h1, h2, h3, h4⟩ := hq.at'
  have hcc : ∀ j z, [Value.int .i64 u][j]? = some z → w.cell? ((⟨b, 0, none⟩ : Addr).add j) = some z := fun j z hz => by rw [Addr.add_mid]; exact hc j z hz
  by_cases hroom : L.length + 1 ≤ cap
  · have hr := run_append_roomO (P := Tryd.prog) w 30 o.type 3 i0 Tryd.underlying30 hi g of L.length cap cur hg ⟨b, 0, none⟩ 1 1 [.int .i64 u] (by rw [hz1]; rfl) hcc (by simp [Value.oneCell']) hroom (by rw [hz1]; simp; omega)
    refine wpList_plain hgd fun K hK' => ?_
    unfold Oper.wp execOp
    simp only [ho, resolve, invoke, builtin, Sem.run_bind, Sem.run_pure, Result.andThen_ok, List.map_toArray, List.map_cons, List.map_nil, hs, hx, hr]
    refine hK' _ _ (h _ _ g ⟨of, cap, _, by rw [List.length_append]; rfl, hb, setRow_heap w g cur _ _ _ hg, by simpa using hroom, h2, ?_, ?_⟩ ⟨rfl, rfl, rfl, by simp, fun k _ hk => setRow_other w g k _ (fun e => hk (by rw [e]))⟩ (.inl rfl))
    · simp [hz1]; omega
    · intro j hj
      rw [hz1, Nat.mul_one]
      simp only [List.getElem?_toArray, List.append_assoc]
      by_cases e : j < L.length
      · rw [List.getElem?_append_left (by simp; omega), List.getElem?_take, if_pos (by omega), List.getElem_append_left e]
        simpa using h4 j e
      · have e2 : j = L.length := by simp at hj; omega
        subst e2
        have hl : (List.take (of + L.length) cur.toList).length = of + L.length := by have hcs : cur.toList.length = cur.size := rfl; rw [List.length_take, hcs]; omega
        rw [List.getElem?_append_right (by omega), hl, Nat.sub_self]
        simp
  · refine wpList_append_grows w hgd s x 30 ho 3 i0 (.int .i64 0) 1 8 Tryd.underlying30 hi hz0 hz1 hz2 rfl (by omega) (some ⟨g, of, none⟩) L.length cap (ints L) hs (fun e => by cases e) (by rw [ints_length]; omega) (fun b' e j z hz => ?_) ⟨b, 0, none⟩ 1 1 [.int .i64 u] hx rfl hcc (by simp [Value.oneCell']) (by omega) (by unfold maxLen; omega) (by omega) ?_
    · cases e
      obtain ⟨hj, rfl⟩ := ints_get L j z hz
      rw [Addr.add_mid, cell_of_row w _ _ _ _ _ hg]
      exact h4 j hj
    · intro v' w' hown hgr
      have hown2 : w'.ownsRow w.heap.size 3 1 v' (L ++ [u]).length (ints (L ++ [u])) := by
        rw [ints_snoc, List.length_append]; exact hown
      obtain ⟨g', e, hq'⟩ := qAt_of_own hown2 (by simp)
      have hge := own_ge hown2 e
      obtain ⟨o2, c2, cu2, k1, k2, k3⟩ := hq'.at'
      exact h v' w' g' ⟨o2, c2, cu2, k1, by omega, k3⟩ ⟨hgr.os, hgr.tape, hgr.output, hgr.size, fun i hi _ => hgr.block i hi (by simp)⟩ (.inr hge)
end Go.Proofs.YtcddnacbjdahbaaDoor
namespace Go.Proofs.YtcddnacbjdahbaaDoor
open Go Go.RowKit Go.Sw
set_option maxRecDepth 100000
set_option linter.unusedVariables false

theorem bool_row : (Tryd.prog.info? 4).map (fun i => (i.zero, i.size, i.bytes)) = some (some (.bool false), 1, 1) := by kernel_rfl
theorem BoolsAt.made {w : World} {base b n : Nat} {e : TypeId} (h : w.ownsRow base e 1 (.slice (some ⟨b, 0, none⟩) n n) n (madeCells #[.bool false] n).toList) (hn : 0 < n) : BoolsAt w b n fun _ => false := by
  rcases h.2 with ⟨h0, hz⟩ | ⟨g, cap, cur, h0, hb, hg, h1, h2, h3, h4⟩
  · omega
  · injection h0 with e1 e2 e3
    injection e1 with e1
    injection e1 with e1 _ _
    subst e1 e3
    refine ⟨cur, _, hg, by rw [h3, Nat.mul_one], fun j hj => ?_⟩
    have e4 : cur.toList[j]? = ((madeCells #[.bool false] n).toList)[j]? := by
      rw [← h4, List.getElem?_take, if_pos (by omega)]
    rw [← Array.getElem?_toList, e4]
    rw [Array.getElem?_toList]
    simp [madeCells, hj, Nat.mod_one]
theorem BoolsAt.frozen {w : World} {b n j : Nat} {S : Nat → Bool} (h : BoolsAt w b n S) : w.frozen? ⟨b, j, none⟩ = false := by
  obtain ⟨cur, t, h1, _⟩ := h.at'
  exact frozen_of_row w _ _ _ _ h1
theorem BoolsAt.put {w : World} {b n j : Nat} {S : Nat → Bool} (h : BoolsAt w b n S) (hj : j < n) : BoolsAt (w.setCell ⟨b, j, none⟩ (.bool true)) b n (fun i => i == j || S i) := by
  obtain ⟨cur, t, h1, h2, h3⟩ := h.at'
  refine ⟨cur.setIfInBounds j (.bool true), t, heap_setCell_same _ _ _ _ _ _ h1, by simpa using h2, fun i hi => ?_⟩
  by_cases e : i = j
  · subst e; rw [Array.getElem?_setIfInBounds_self_of_lt (by omega)]; simp
  · rw [Array.getElem?_setIfInBounds_ne (fun h => e h.symm), h3 i hi]
    have : (i == j) = false := by simp [e]
    rw [this, Bool.false_or]
theorem IntsAt.sameS {w w' : World} {B : Nat} {a : Option Addr} {xs : List Int} (h : IntsAt w B a xs) (hb : 0 < xs.length → ∀ g, a = some ⟨g, 0, none⟩ → w'.heap[g]? = w.heap[g]?) : IntsAt w' B a xs :=
  ⟨fun h0 => by
    obtain ⟨g, cur, t, h1, h2, h3, h4⟩ := h.at' h0
    exact ⟨g, cur, t, h1, h2, (hb h0 g h1).trans h3, h4⟩⟩
/-- the queue and the set of the search -/
structure RchS (w wr : World) (N : Net) (s : Nat) (todo : Value) (S : Nat → Bool) (L : List Nat) (g : Nat) (x : Option (Nat × Nat)) : Prop where
  q : QAt wr (w.heap.size + 1) g 3 todo (natL L)
  set : BoolsAt wr w.heap.size (pw N.n) S
  inv : RInv N s S L x
  below : Below w.heap.size w wr
theorem RchS.step {w wr w' : World} {N : Net} {s g : Nat} {todo : Value} {S : Nat → Bool} {L : List Nat} {x : Option (Nat × Nat)} (h : RchS w wr N s todo S L g x) (hb : Below wr.heap.size wr w') : RchS w w' N s todo S L g x :=
  ⟨h.q.below hb, h.set.below hb, h.inv, h.below.trans (hb.mono h.below.size)⟩
theorem QAt.ge {w : World} {base g : Nat} {e : TypeId} {v : Value} {L : List Int} (h : QAt w base g e v L) : base ≤ g := by
  obtain ⟨o, cap, cur, h1, h2, _⟩ := h.at'
  exact h2
set_option maxHeartbeats 2000000 in
theorem l5Reach_any (b cap s : Nat) (N : Net) (hn : N.n ≤ 5) (hs : s < pw N.n) (w : World) (hat : StrsAt w b (netTexts N)) (hb : b < w.heap.size) :
    Calls Tryd.prog 191 #[.slice (some ⟨b, 0, none⟩) N.n cap, .int .i64 s] w fun e w' => Below w.heap.size w w' ∧ ∃ c, e = .returned (.slice (some ⟨w.heap.size, 0, none⟩) (pw N.n) c) ∧ BoolsAt w' w.heap.size (pw N.n) (arB N s) := by
  have Hat := Lib.hid hat
  have hpw := pw_le hn
  have hp1 : ((pw N.n - 1 : Nat) : Int) + 1 = ((pw N.n : Nat) : Int) := by omega
  obtain ⟨i0, hi, hz0, hz1, hz2⟩ := info_parts bool_row
  have Hi := Lib.hid hi
  have Hz0 := Lib.hid hz0
  have Hz1 := Lib.hid hz1
  have hzb : i0.bytes ≤ 1 := by omega
  clear hat hi hz0 hz1 hz2
  go_enter Tryd.func191, Tryd.ntmps191
  go_wp2_with (first | (go_at_call 98; refine (l3All_any _ _ _ hn _).mono ?_; rintro e w' ⟨rfl, rfl⟩) | ((with_reducible show wpList _ _ _ (⟨_, .makeSlice 139 _ _, _, _, _, _⟩ :: _) _ _); refine wpList_make_full _ rfl _ _ _ rfl w.heap.size 4 i0 (.bool false) 1 Tryd.underlying139 Hi.out Hz0.out Hz1.out .i64 .i64 (pw N.n) (pw N.n) (pw N.n) rfl rfl rfl rfl (by have : i0.bytes * pw N.n ≤ 1 * 32 := Nat.mul_le_mul hzb hpw.2; omega) (by unfold maxLen; omega) (Nat.le_refl _) ?_))
  intro w1 hown hgrow
  have hW1 : Below w.heap.size w w1 := (Below.refl _ _).grown hgrow (Nat.le_refl _) (fun q hq => by cases hq)
  have hB := BoolsAt.made (n := pw N.n) hown (by omega)
  have hcell := hB.cell hs
  have hfr := hB.frozen (j := s)
  have hlt1 := hB.lt
  have HB := Lib.hid (hB.put hs)
  clear hown hgrow hB
  go_wp2_with ((with_reducible show wpList _ _ _ (⟨_, .buildSlice 30 1 _, _, _, _, _⟩ :: _) _ _); refine wpList_buildSlice' rfl _ _ _ rfl rfl (int_one (s : Int) _) ?_)
  have hgs := hW1.size
  have hown0 := own_made1 (w1.setCell ⟨w.heap.size, s, none⟩ (.bool true)) (.int .i64 (s : Int)) 3 (w.heap.size + 1) (by simp only [World.setCell, Array.size_modify]; omega)
  obtain ⟨g0, hg0, hq0⟩ := qAt_of_own (L := natL [s]) hown0 (by simp [natL])
  have hB2 : Below w.heap.size w (w1.setCell ⟨w.heap.size, s, none⟩ (.bool true)) := hW1.setCell (Nat.le_refl _) _
  have HR0 := Lib.hid (show RchS w ((w1.setCell ⟨w.heap.size, s, none⟩ (.bool true)).alloc (.cells #[.int .i64 (s : Int)] 3)) N s (.slice (some ⟨(w1.setCell ⟨w.heap.size, s, none⟩ (.bool true)).heap.size, 0, none⟩) 1 1) (fun j => j == s || false) [s] g0 none from
    ⟨hq0, HB.out.below ((Below.refl _ _).alloc (Nat.le_refl _) _), RInv.init hs, hB2.alloc hB2.size _⟩)
  rw [show (w1.setCell ⟨w.heap.size, s, none⟩ (.bool true)).heap.size = w1.heap.size by simp only [World.setCell, Array.size_modify]] at HR0
  clear hown0 hq0 hg0 hB2
  go_wp2_with fail
  go_loopg [6, 7, 8] 100 (fun gg todo _ _ wr => ∃ S L g, RchS w wr N s todo S L g none ∧ 2 * unmN (pw N.n) S + L.length ≤ gg ∧ 2 * unmN (pw N.n) S + L.length ≤ 100)
  case atStart =>
    have hu := unm_le (pw N.n) (fun j => j == s || false)
    have hfin : 2 * unmN (pw N.n) (fun j => j == s || false) + [s].length ≤ 100 := by rw [List.length_singleton]; omega
    exact ⟨_, _, g0, HR0.out, hfin, hfin⟩
  case round =>
    obtain ⟨S, L, g, hR, hg, hg100⟩ := hrel
    have HR := Lib.hid hR
    obtain ⟨o, cp, cur, rfl, hbg, hcur, hlc, hcm, hoc, hcells⟩ := hR.q.at'
    have hWs := hR.below.size
    have hbm := hR.set.lt
    rcases L with _ | ⟨t, L'⟩
    · have Hend := Lib.hid (hR.inv.end')
      clear hR hcells hcur
      go_wp2_with fail
      go_ret
      exact ⟨HR.out.below, _, rfl, by
        have e : S = arB N s := funext Hend.out
        rw [← e]; exact HR.out.set⟩
    · obtain ⟨wo, rfl⟩ : ∃ wo : World, wo = wr := ⟨_, rfl⟩
      have hpop := Lib.hid (rinv_front hR.inv)
      have htS := hR.inv.stack t (by simp)
      have htp := (hR.inv.only t htS).1
      have hll : (natL (t :: L')).length = L'.length + 1 := by simp [natL]
      have hcell : wo.cell? ⟨g, o, none⟩ = some (.int .i64 (t : Int)) := by
        have := hcells 0 (by simp [natL])
        rw [Nat.add_zero] at this
        rw [cell_of_row wo _ _ _ _ _ hcur, this]; simp [natL]
      have hgw := block_lt hcur
      have Hq := Lib.hid (hR.q)
      rw [hll] at Hq hlc ⊢
      rw [List.length_cons] at hg hg100
      have cN := Lib.hid (l5Next_any b cap t N hn htp wo (Hat.out.below hR.below hb) (Nat.lt_of_lt_of_le hb hWs))
      have hlen0 : L'.length ≤ 100 := by omega
      have hnl := nextTo_length N t N.n
      have hcm2 : cp ≤ 9223372036854775807 := by unfold maxLen at hcm; omega
      have hset := Lib.hid hR.set
      have hbel := Lib.hid hR.below
      have hnat : natL (t :: L') = (t : Int) :: natL L' := by simp [natL]
      have Hnat := Lib.hid hnat
      clear hR hcells hcur htS hll hcm hnat
      go_wp2_with fail
      refine cN.out.mono ?_
      rintro e w3 ⟨hW3, a2, c2, rfl, hI2⟩
      have hws3 := hW3.size
      have hgne : 0 < (nextL N t).length → ∀ q, a2 = some ⟨q, 0, none⟩ → wo.heap.size ≤ q ∧ q < w3.heap.size := fun h0 q e => by
        obtain ⟨q', _, _, e1, h1, _⟩ := hI2.at' (by rw [natL_length]; exact h0)
        have h2 := hI2.lt (by rw [natL_length]; exact h0) q e
        rw [e] at e1; cases e1
        exact ⟨h1, h2⟩
      have HI2 := Lib.hid hI2
      have Hgne := Lib.hid hgne
      have hnl5 : (nextL N t).length ≤ 5 := Nat.le_trans hnl hn
      have hntp := Lib.hid (fun u (hu : u ∈ nextL N t) => nextL_lt htp hu)
      have HW3 := Lib.hid hW3
      clear hI2 hgne hnl hW3
      have key : ∀ v3 : Value, QAt w3 (w.heap.size + 1) g 3 v3 (natL L') → RchS w w3 N s v3 S L' g (some (t, 0)) := fun v3 hq3 =>
        ⟨hq3, hset.out.below HW3.out, hpop.out, hbel.out.trans (HW3.out.mono hWs)⟩
      have Key := Lib.hid key
      clear key
      by_cases hc1 : cp = 1
      · subst hc1
        have hL0 : L' = [] := by
          have : L'.length = 0 := by omega
          exact List.eq_nil_of_length_eq_zero this
        subst hL0
        have HR3 := Lib.hid (Key.out _ ((QAt.none (L := natL [t]) (by simpa [natL] using Hq.out)).below HW3.out))
        clear Hq
        go_wp2_with fail
        go_loopw [6, 8] (fun todo i wr => ∃ (m : Nat) (S' : Nat → Bool) (M : List Nat) (g' : Nat), m ≤ (nextL N t).length ∧ i = .int .i64 m ∧ RchS w wr N s todo S' M g' (some (t, m)) ∧ 2 * unmN (pw N.n) S' + M.length ≤ 2 * unmN (pw N.n) S + ([] : List Nat).length ∧ IntsAt wr wo.heap.size a2 (natL (nextL N t)) ∧ (0 < (nextL N t).length → ∀ q, a2 = some ⟨q, 0, none⟩ → g' ≠ q)) (fun _ i _ => (nextL N t).length - (intOf i).toNat)
        case atStart => exact ⟨0, S, _, g, Nat.zero_le _, rfl, HR3.out, Nat.le_refl _, HI2.out, fun h0 q e => by
          have := Hgne.out h0 q e
          omega⟩
        case round =>
          obtain ⟨m, S', M, g', hm, rfl, hR4, hle, hI4, hne⟩ := hrel
          have HR4 := Lib.hid hR4
          have HI4 := Lib.hid hI4
          have Hne := Lib.hid hne
          have hWs4 := hR4.below.size
          have hbm4 := hR4.set.lt
          by_cases hlt : m < (nextL N t).length
          · obtain ⟨q, cur4, t4, rfl, hq, hcur4, hcs4, hcells4⟩ := hI4.at' (by rw [natL_length]; omega)
            have hcell4 : wr.cell? ⟨q, m, none⟩ = some (.int .i64 (((nextL N t)[m] : Nat) : Int)) := by
              rw [cell_of_row wr _ _ _ _ _ hcur4, hcells4 m (by rw [natL_length]; exact hlt)]
              simp [natL]
            have hup := hntp.out _ (List.getElem_mem hlt)
            have hskip := Lib.hid (fun h : S' (nextL N t)[m] = true => hR4.inv.skip hlt h)
            have hpush := Lib.hid (hR4.inv.push hlt)
            have hunm := Lib.hid (fun h : S' (nextL N t)[m] = false => unm_put hup h)
            have hqw := block_lt hcur4
            have hne4 := hne (by omega) q rfl
            have hqm : w.heap.size ≠ q := by omega
            have hbc := hR4.set.cell hup
            have hfr4 := hR4.set.frozen (j := (nextL N t)[m])
            have hput := Lib.hid (hR4.set.put hup)
            obtain ⟨u, hu⟩ : ∃ u, (nextL N t)[m] = u := ⟨_, rfl⟩
            rw [hu] at hcell4 hup hskip hpush hunm hbc hfr4 hput
            have Hcur4 := Lib.hid hcur4
            have hML : M.length ≤ 100 := by omega
            clear hR4 hI4 hne hcells4 hcur4 hu
            cases hSu : S' u
            · have hun := hunm.out hSu
              rw [hSu] at hbc
              have hcell5 : (wr.setCell ⟨w.heap.size, u, none⟩ (.bool true)).cell? ⟨q, m, none⟩ = some (.int .i64 (u : Int)) :=
                (World.cell?_of_block (Below.heap_setCell _ _ _ _ (by show q ≠ w.heap.size; omega))).trans hcell4
              have hs5 : (wr.setCell ⟨w.heap.size, u, none⟩ (.bool true)).heap.size = wr.heap.size := by simp [World.setCell]
              have hge := HR4.out.q.ge
              have hgl := HR4.out.q.lt
              have hq6 : QAt ((wr.setCell ⟨w.heap.size, u, none⟩ (.bool true)).alloc (.cells #[.int .i64 (u : Int)] 3)) (w.heap.size + 1) g' 3 _ (natL M) :=
                HR4.out.q.same ((Below.heap_alloc _ _ _ (by omega)).trans (Below.heap_setCell _ _ _ _ (by show g' ≠ w.heap.size; omega)))
              have HQ6 := Lib.hid hq6
              have hlM : (natL M).length ≤ 1000000 := by rw [natL_length]; omega
              clear hSu hunm hskip hq6
              go_wp2_with (first | ((with_reducible show wpList _ _ _ (⟨_, .buildSlice 30 1 _, _, _, _, _⟩ :: _) _ _); refine wpList_buildSlice' rfl _ _ _ rfl rfl (int_one (u : Int) _) ?_) | (at_builtin; refine wpList_q_append rfl _ _ rfl (w.heap.size + 1) g' _ (natL M) rfl HQ6.out (u : Int) _ rfl (range_one rfl) hlM (by rw [World.size_alloc]; omega) ?_; intro v7 w7 g7 hq7 hgr7 hat7))
              have hs6 : ((wr.setCell ⟨w.heap.size, u, none⟩ (.bool true)).alloc (.cells #[.int .i64 (u : Int)] 3)).heap.size = wr.heap.size + 1 := by rw [World.size_alloc, hs5]
              have hblk : ∀ k, k < wr.heap.size → k ≠ w.heap.size → k ≠ g' → w7.heap[k]? = wr.heap[k]? := fun k h1 h2 h3 =>
                ((hgr7.block k (by omega) (fun e => h3 (Option.some.inj e))).trans (Below.heap_alloc _ _ _ (by omega))).trans (Below.heap_setCell _ _ _ _ (by show k ≠ w.heap.size; exact h2))
              have hset7 : BoolsAt w7 w.heap.size (pw N.n) (fun i => i == u || S' i) :=
                hput.out.same ((hgr7.block w.heap.size (by omega) (fun e => by have := Option.some.inj e; omega)).trans (Below.heap_alloc _ _ _ (by omega)))
              have hB7 : Below w.heap.size w w7 := ((HR4.out.below.setCell (p := ⟨w.heap.size, u, none⟩) (Nat.le_refl _) _).alloc (by omega) _).grown hgr7 (by omega) (fun k hk => by cases hk; omega)
              have Hfin := Lib.hid (show RchS w w7 N s v7 (fun i => i == u || S' i) (M ++ [u]) g7 (some (t, m + 1)) from
                ⟨by rw [natL_snoc]; exact hq7, hset7, hpush.out, hB7⟩)
              have HI7 := Lib.hid (HI4.out.sameS (w' := w7) fun _ q' e => by cases e; exact hblk q hqw (by omega) (by omega))
              have Hne7 := Lib.hid (show 0 < (nextL N t).length → ∀ q', some (⟨q, 0, none⟩ : Addr) = some ⟨q', 0, none⟩ → g7 ≠ q' from fun _ q' e => by
                cases e
                rcases hat7 with h | h <;> omega)
              clear hq7 hgr7 hat7 hblk hset7 hB7
              go_roundw
              case rel => exact ⟨m + 1, _, _, g7, by omega, by go_num, Hfin.out, by rw [List.length_append, List.length_singleton]; omega, HI7.out, Hne7.out⟩
              case measure => simp [intOf] <;> omega
            · rw [hSu] at hbc
              have Hsk := Lib.hid (hskip.out hSu)
              clear hSu hskip hpush hunm hput
              go_wp2_with fail
              go_roundw
              case rel => exact ⟨m + 1, S', M, g', by omega, by go_num, ⟨HR4.out.q, HR4.out.set, Hsk.out, HR4.out.below⟩, hle, HI4.out, Hne.out⟩
              case measure => simp [intOf] <;> omega
          · obtain rfl : m = (nextL N t).length := by omega
            have Hcl := Lib.hid (hR4.inv.close (Nat.le_refl _))
            clear hR4 hI4 hne
            go_wp2_with fail
            go_roundg (2 * unmN (pw N.n) S' + M.length)
            case measure => omega
            case rel => exact ⟨S', M, g', ⟨HR4.out.q, HR4.out.set, Hcl.out, HR4.out.below⟩, Nat.le_refl _, by omega⟩
      · have hc2 : 1 < cp := by omega
        have HR3 := Lib.hid (Key.out _ ((QAt.tail (t := (t : Int)) (L := natL L') (by rw [← Hnat.out, natL_length]; exact Hq.out)).below HW3.out))
        rw [natL_length] at HR3
        clear Hq
        go_wp2_with fail
        go_loopw [6, 8] (fun todo i wr => ∃ (m : Nat) (S' : Nat → Bool) (M : List Nat) (g' : Nat), m ≤ (nextL N t).length ∧ i = .int .i64 m ∧ RchS w wr N s todo S' M g' (some (t, m)) ∧ 2 * unmN (pw N.n) S' + M.length ≤ 2 * unmN (pw N.n) S + L'.length ∧ IntsAt wr wo.heap.size a2 (natL (nextL N t)) ∧ (0 < (nextL N t).length → ∀ q, a2 = some ⟨q, 0, none⟩ → g' ≠ q)) (fun _ i _ => (nextL N t).length - (intOf i).toNat)
        case atStart => exact ⟨0, S, _, g, Nat.zero_le _, rfl, HR3.out, Nat.le_refl _, HI2.out, fun h0 q e => by
          have := Hgne.out h0 q e
          omega⟩
        case round =>
          obtain ⟨m, S', M, g', hm, rfl, hR4, hle, hI4, hne⟩ := hrel
          have HR4 := Lib.hid hR4
          have HI4 := Lib.hid hI4
          have Hne := Lib.hid hne
          have hWs4 := hR4.below.size
          have hbm4 := hR4.set.lt
          by_cases hlt : m < (nextL N t).length
          · obtain ⟨q, cur4, t4, rfl, hq, hcur4, hcs4, hcells4⟩ := hI4.at' (by rw [natL_length]; omega)
            have hcell4 : wr.cell? ⟨q, m, none⟩ = some (.int .i64 (((nextL N t)[m] : Nat) : Int)) := by
              rw [cell_of_row wr _ _ _ _ _ hcur4, hcells4 m (by rw [natL_length]; exact hlt)]
              simp [natL]
            have hup := hntp.out _ (List.getElem_mem hlt)
            have hskip := Lib.hid (fun h : S' (nextL N t)[m] = true => hR4.inv.skip hlt h)
            have hpush := Lib.hid (hR4.inv.push hlt)
            have hunm := Lib.hid (fun h : S' (nextL N t)[m] = false => unm_put hup h)
            have hqw := block_lt hcur4
            have hne4 := hne (by omega) q rfl
            have hqm : w.heap.size ≠ q := by omega
            have hbc := hR4.set.cell hup
            have hfr4 := hR4.set.frozen (j := (nextL N t)[m])
            have hput := Lib.hid (hR4.set.put hup)
            obtain ⟨u, hu⟩ : ∃ u, (nextL N t)[m] = u := ⟨_, rfl⟩
            rw [hu] at hcell4 hup hskip hpush hunm hbc hfr4 hput
            have Hcur4 := Lib.hid hcur4
            have hML : M.length ≤ 100 := by omega
            clear hR4 hI4 hne hcells4 hcur4 hu
            cases hSu : S' u
            · have hun := hunm.out hSu
              rw [hSu] at hbc
              have hcell5 : (wr.setCell ⟨w.heap.size, u, none⟩ (.bool true)).cell? ⟨q, m, none⟩ = some (.int .i64 (u : Int)) :=
                (World.cell?_of_block (Below.heap_setCell _ _ _ _ (by show q ≠ w.heap.size; omega))).trans hcell4
              have hs5 : (wr.setCell ⟨w.heap.size, u, none⟩ (.bool true)).heap.size = wr.heap.size := by simp [World.setCell]
              have hge := HR4.out.q.ge
              have hgl := HR4.out.q.lt
              have hq6 : QAt ((wr.setCell ⟨w.heap.size, u, none⟩ (.bool true)).alloc (.cells #[.int .i64 (u : Int)] 3)) (w.heap.size + 1) g' 3 _ (natL M) :=
                HR4.out.q.same ((Below.heap_alloc _ _ _ (by omega)).trans (Below.heap_setCell _ _ _ _ (by show g' ≠ w.heap.size; omega)))
              have HQ6 := Lib.hid hq6
              have hlM : (natL M).length ≤ 1000000 := by rw [natL_length]; omega
              clear hSu hunm hskip hq6
              go_wp2_with (first | ((with_reducible show wpList _ _ _ (⟨_, .buildSlice 30 1 _, _, _, _, _⟩ :: _) _ _); refine wpList_buildSlice' rfl _ _ _ rfl rfl (int_one (u : Int) _) ?_) | (at_builtin; refine wpList_q_append rfl _ _ rfl (w.heap.size + 1) g' _ (natL M) rfl HQ6.out (u : Int) _ rfl (range_one rfl) hlM (by rw [World.size_alloc]; omega) ?_; intro v7 w7 g7 hq7 hgr7 hat7))
              have hs6 : ((wr.setCell ⟨w.heap.size, u, none⟩ (.bool true)).alloc (.cells #[.int .i64 (u : Int)] 3)).heap.size = wr.heap.size + 1 := by rw [World.size_alloc, hs5]
              have hblk : ∀ k, k < wr.heap.size → k ≠ w.heap.size → k ≠ g' → w7.heap[k]? = wr.heap[k]? := fun k h1 h2 h3 =>
                ((hgr7.block k (by omega) (fun e => h3 (Option.some.inj e))).trans (Below.heap_alloc _ _ _ (by omega))).trans (Below.heap_setCell _ _ _ _ (by show k ≠ w.heap.size; exact h2))
              have hset7 : BoolsAt w7 w.heap.size (pw N.n) (fun i => i == u || S' i) :=
                hput.out.same ((hgr7.block w.heap.size (by omega) (fun e => by have := Option.some.inj e; omega)).trans (Below.heap_alloc _ _ _ (by omega)))
              have hB7 : Below w.heap.size w w7 := ((HR4.out.below.setCell (p := ⟨w.heap.size, u, none⟩) (Nat.le_refl _) _).alloc (by omega) _).grown hgr7 (by omega) (fun k hk => by cases hk; omega)
              have Hfin := Lib.hid (show RchS w w7 N s v7 (fun i => i == u || S' i) (M ++ [u]) g7 (some (t, m + 1)) from
                ⟨by rw [natL_snoc]; exact hq7, hset7, hpush.out, hB7⟩)
              have HI7 := Lib.hid (HI4.out.sameS (w' := w7) fun _ q' e => by cases e; exact hblk q hqw (by omega) (by omega))
              have Hne7 := Lib.hid (show 0 < (nextL N t).length → ∀ q', some (⟨q, 0, none⟩ : Addr) = some ⟨q', 0, none⟩ → g7 ≠ q' from fun _ q' e => by
                cases e
                rcases hat7 with h | h <;> omega)
              clear hq7 hgr7 hat7 hblk hset7 hB7
              go_roundw
              case rel => exact ⟨m + 1, _, _, g7, by omega, by go_num, Hfin.out, by rw [List.length_append, List.length_singleton]; omega, HI7.out, Hne7.out⟩
              case measure => simp [intOf] <;> omega
            · rw [hSu] at hbc
              have Hsk := Lib.hid (hskip.out hSu)
              clear hSu hskip hpush hunm hput
              go_wp2_with fail
              go_roundw
              case rel => exact ⟨m + 1, S', M, g', by omega, by go_num, ⟨HR4.out.q, HR4.out.set, Hsk.out, HR4.out.below⟩, hle, HI4.out, Hne.out⟩
              case measure => simp [intOf] <;> omega
          · obtain rfl : m = (nextL N t).length := by omega
            have Hcl := Lib.hid (hR4.inv.close (Nat.le_refl _))
            clear hR4 hI4 hne
            go_wp2_with fail
            go_roundg (2 * unmN (pw N.n) S' + M.length)
            case measure => omega
            case rel => exact ⟨S', M, g', ⟨HR4.out.q, HR4.out.set, Hcl.out, HR4.out.below⟩, Nat.le_refl _, by omega⟩
end Go.Proofs.YtcddnacbjdahbaaDoor
namespace Go.Proofs.YtcddnacbjdahbaaDoor
open Go Go.RowKit Go.Sw
set_option maxRecDepth 100000
set_option linter.unusedVariables false

set_option maxHeartbeats 1000000 in
theorem l5Steady_any (b cap s : Nat) (N : Net) (hn : N.n ≤ 5) (hs : s < pw N.n) (w : World) (hat : StrsAt w b (netTexts N)) (hb : b < w.heap.size) :
    Calls Tryd.prog 189 #[.slice (some ⟨b, 0, none⟩) N.n cap, .int .i64 s] w fun e w' => Below w.heap.size w w' ∧ e = .returned (.bool (steadyB N s)) := by
  have Hat := Lib.hid hat
  have hpw := pw_le hn
  have cR := Lib.hid (l5Reach_any b cap s N hn hs w hat hb)
  have hno := Lib.hid (fun t (h1 : arB N s t = true) (h2 : arB N t s = false) => show steadyB N s = false from by
    cases e : steadyB N s with
    | false => rfl
    | true =>
      have := arB_iff.2 ((steadyB_iff hs).1 e t (arB_iff.1 h1))
      rw [h2] at this; cases this)
  have hyes := Lib.hid (fun (h : ∀ t, t ∈ stR N s → arB N t s = true) => show steadyB N s = true from (steadyB_iff hs).2 fun t ht => arB_iff.1 (h t (pickL_mem.2 ⟨ht.lt hs, arB_iff.2 ht⟩)))
  have hmem := Lib.hid (fun t (h : t ∈ stR N s) => pickL_mem.1 h)
  have hsl : (stR N s).length ≤ 32 := Nat.le_trans (pickL_length _ _) hpw.2
  have cS := Lib.hid (fun (wx : World) (bb c : Nat) (h : BoolsAt wx bb (pw N.n) (arB N s)) => l5Sorted_any bb c (pw N.n) (arB N s) hpw.2 wx h)
  have hst : pickL (arB N s) (pw N.n) = stR N s := rfl
  rw [hst] at cS
  obtain ⟨xs, hxs⟩ : ∃ xs, stR N s = xs := ⟨_, rfl⟩
  rw [hxs] at cS hyes hmem hsl
  clear hat hst hxs
  go_enter Tryd.func189, Tryd.ntmps189
  go_wp2_with fail
  refine cR.out.mono ?_
  rintro e w1 ⟨hW1, c1, rfl, hM⟩
  have CS := Lib.hid (cS.out w1 w.heap.size c1 hM)
  have hW1s := hW1.size
  clear hM
  go_wp2_with fail
  refine CS.out.mono ?_
  rintro e w2 ⟨hW2, a, c2, rfl, hI⟩
  have hW2s := hW2.size
  have HI := Lib.hid hI
  have hB2 : Below w.heap.size w w2 := hW1.trans (hW2.mono hW1s)
  clear hI
  go_wp2_with fail
  go_loopw [6] (fun i wr => ∃ k : Nat, k ≤ xs.length ∧ i = .int .i64 k ∧ Below w2.heap.size w2 wr ∧ ∀ j (hj : j < xs.length), j < k → arB N xs[j] s = true) (fun i _ => xs.length - (intOf i).toNat)
  case atStart => exact ⟨0, Nat.zero_le _, rfl, Below.refl _ _, fun _ _ h => absurd h (Nat.not_lt_zero _)⟩
  case round =>
    obtain ⟨k, hk, rfl, hW, hall⟩ := hrel
    have Hall := Lib.hid hall
    have hWs := hW.size
    clear hall
    by_cases hlt : k < xs.length
    · obtain ⟨g, cur, tt, rfl, hBg, hcur, hcs, hcells⟩ := (HI.out.below hW).at' (by rw [natL_length]; omega)
      have hcell : wr.cell? ⟨g, k, none⟩ = some (.int .i64 ((xs[k] : Nat) : Int)) := by
        rw [cell_of_row wr _ _ _ _ _ hcur, hcells k (by rw [natL_length]; exact hlt)]
        simp [natL]
      have hm := hmem.out xs[k] (List.getElem_mem hlt)
      have hgw := block_lt hcur
      have hBw : Below w.heap.size w wr := hB2.trans (hW.mono hB2.size)
      have cR2 := Lib.hid (l5Reach_any b cap xs[k] N hn hm.1 wr (Hat.out.below hBw hb) (Nat.lt_of_lt_of_le hb hBw.size))
      have Hno := Lib.hid (fun (h2 : arB N xs[k] s = false) => hno.out xs[k] hm.2 h2)
      have Hx := Lib.hid (rfl : xs[k] = xs[k])
      obtain ⟨u, hu⟩ : ∃ u, xs[k] = u := ⟨_, rfl⟩
      have hnx : arB N u s = true → ∀ j (hj : j < xs.length), j < k + 1 → arB N xs[j] s = true := fun h j hj h2 => by
        by_cases e : j = k
        · subst e; rw [hu]; exact h
        · exact Hall.out j hj (by omega)
      have Hnx := Lib.hid hnx
      rw [hu] at hcell cR2 Hno
      clear hcells hcur hm hu hnx Hx
      go_wp2_with fail
      refine cR2.out.mono ?_
      rintro e w3 ⟨hW3, c3, rfl, hM3⟩
      have hcell3 := hM3.cell hs
      have hW3s := hW3.size
      have hB3 : Below w2.heap.size w2 w3 := hW.trans (hW3.mono hWs)
      clear hM3
      cases hv : arB N u s
      · have Hr := Lib.hid (Hno.out hv)
        rw [hv] at hcell3
        clear hv
        go_wp2_with fail
        go_ret
        exact ⟨hB2.trans (hB3.mono hB2.size), by rw [Hr.out]; rfl⟩
      · have Hr := Lib.hid (Hnx.out hv)
        rw [hv] at hcell3
        clear hv
        go_wp2_with fail
        go_roundw
        case rel => exact ⟨k + 1, by omega, by go_num, hB3, Hr.out⟩
        case measure => simp [intOf] <;> omega
    · have Hr := Lib.hid (hyes.out fun t ht => by
        obtain ⟨j, hj, rfl⟩ := List.getElem_of_mem ht
        exact Hall.out j hj (by omega))
      go_wp2_with fail
      go_ret
      exact ⟨hB2.trans (hW.mono hB2.size), by rw [Hr.out]; rfl⟩
theorem intss_none (w : World) : (Instr.buildSlice 53 0 [].toArray).run Tryd.prog w =
    .ok (.slice (some ⟨w.heap.size, 0, none⟩) 0 0) (w.alloc (.cells #[] 30)) := by kernel_rfl
set_option maxHeartbeats 2000000 in
theorem l5Attractors_any (b cap : Nat) (N : Net) (hn : N.n ≤ 5) (w : World) (hat : StrsAt w b (netTexts N)) (hb : b < w.heap.size) :
    Calls Tryd.prog 144 #[.slice (some ⟨b, 0, none⟩) N.n cap] w fun e w' => Below w.heap.size w w' ∧ ∃ out vs, e = .returned out ∧ RowsAt w' w.heap.size out (attL N) vs := by
  have Hat := Lib.hid hat
  have hpw := pw_le hn
  clear hat
  go_enter Tryd.func144, Tryd.ntmps144
  go_wp2_with ((with_reducible show wpList _ _ _ (⟨_, .buildSlice 53 _ _, _, _, _, _⟩ :: _) _ _); refine wpList_buildSlice' rfl _ _ _ rfl rfl (intss_none _) ?_)
  go_loopw [3, 4, 5] (fun out i _ wr => ∃ (k : Nat) (vs : List Value), k ≤ pw N.n ∧ i = .int .i64 k ∧ RowsAt wr w.heap.size out (attTo N k) vs ∧ Below w.heap.size w wr) (fun _ i _ _ => pw N.n - (intOf i).toNat)
  case atStart => exact ⟨0, [], Nat.zero_le _, rfl, ⟨World.ownsRow_made w #[] 0 (Nat.le_refl _) (by unfold maxLen; omega) rfl, rfl, fun j hj => by cases hj⟩, (Below.refl _ _).alloc (Nat.le_refl _) _⟩
  case round =>
    obtain ⟨k, vs, hk, rfl, hR, hW⟩ := hrel
    have HR := Lib.hid hR
    have hWs := hW.size
    have cA := Lib.hid (fun wx => l3All_any (some ⟨b, 0, none⟩) N.n cap hn wx)
    have hvl : vs.length ≤ 32 := by rw [hR.len]; exact Nat.le_trans (attTo_length N k) (by omega)
    clear hR
    by_cases hlt : k < pw N.n
    · have hle : (k : Int) ≤ ((pw N.n - 1 : Nat) : Int) := by omega
      have cS := l5Steady_any b cap k N hn hlt wr (Hat.out.below hW hb) (Nat.lt_of_lt_of_le hb hWs)
      cases hst : steadyB N k
      · rw [hst] at cS
        have hl : leastB N k = false := by
          cases e : leastB N k with
          | false => rfl
          | true => rw [(leastB_iff.1 e).1] at hst; cases hst
        have Hno := Lib.hid (attTo_no hl)
        have CS := Lib.hid cS
        clear cS hst hl
        go_wp2_with (go_at_call 98; refine (cA.out _).mono ?_; rintro e w' ⟨rfl, rfl⟩)
        refine CS.out.mono ?_
        rintro e w2 ⟨hW2, rfl⟩
        go_wp2_with fail
        go_roundw
        case rel => exact ⟨k + 1, vs, by omega, by go_num, by rw [Hno.out]; exact HR.out.below hW2, hW.trans (hW2.mono hWs)⟩
        case measure => simp [intOf] <;> omega
      · rw [hst] at cS
        have hhead : (leastB N k = true ∧ (stR N k).headD 0 = k) ∨ (leastB N k = false ∧ (stR N k).headD 0 ≠ k) := by
          cases e : leastB N k with
          | true => exact .inl ⟨rfl, (stR_head hlt e).1⟩
          | false => exact .inr ⟨rfl, fun h => by rw [stR_head_of hlt hst h] at e; cases e⟩
        have hne : stR N k ≠ [] := fun e => by
          have : k ∈ stR N k := pickL_mem.2 ⟨hlt, arB_refl N k⟩
          rw [e] at this; cases this
        have CS := Lib.hid cS
        have hyes := Lib.hid (fun (h : leastB N k = true) => attTo_yes h)
        have hno := Lib.hid (fun (h : leastB N k = false) => attTo_no h)
        have cP := Lib.hid (fun (wx : World) (bb c : Nat) (h : BoolsAt wx bb (pw N.n) (arB N k)) => l5Sorted_any bb c (pw N.n) (arB N k) hpw.2 wx h)
        have hsk : pickL (arB N k) (pw N.n) = stR N k := rfl
        rw [hsk] at cP
        have hsl : (stR N k).length ≤ 32 := Nat.le_trans (pickL_length _ _) hpw.2
        obtain ⟨xs, hxs⟩ : ∃ xs, stR N k = xs := ⟨_, rfl⟩
        rw [hxs] at cP hhead hne hyes hsl
        have h0x : 0 < xs.length := List.length_pos_iff.2 hne
        have Hhead := Lib.hid hhead
        clear cS hst hsk hxs hhead hne
        go_wp2_with (go_at_call 98; refine (cA.out _).mono ?_; rintro e w' ⟨rfl, rfl⟩)
        refine CS.out.mono ?_
        rintro e w2 ⟨hW2, rfl⟩
        have hW2s := hW2.size
        have hB2 := hW.trans (hW2.mono hWs)
        have cR := Lib.hid (l5Reach_any b cap k N hn hlt w2 (Hat.out.below hB2 hb) (Nat.lt_of_lt_of_le hb hB2.size))
        go_wp2_with fail
        refine cR.out.mono ?_
        rintro e w3 ⟨hW3, c3, rfl, hM⟩
        have CP := Lib.hid (cP.out w3 w2.heap.size c3 hM)
        have hW3s := hW3.size
        clear hM
        go_wp2_with fail
        refine CP.out.mono ?_
        rintro e w4 ⟨hW4, a, c4, rfl, hI⟩
        have hW4s := hW4.size
        have HR4 := Lib.hid (((HR.out.below hW2).below hW3).below hW4)
        have hB4 : Below w.heap.size w w4 := (hB2.trans (hW3.mono hB2.size)).trans (hW4.mono (by omega))
        obtain ⟨g, cur, tt, rfl, hBg, hcur, hcs, hcells⟩ := hI.at' (by rw [natL_length]; omega)
        have hcell : w4.cell? ⟨g, 0, none⟩ = some (.int .i64 ((xs.headD 0 : Nat) : Int)) := by
          rw [cell_of_row w4 _ _ _ _ _ hcur, hcells 0 (by rw [natL_length]; exact h0x)]
          cases xs with
          | nil => simp at h0x
          | cons x r => simp [natL]
        have HI := Lib.hid hI
        have hgw := block_lt hcur
        obtain ⟨x0, hx0⟩ : ∃ x, xs.headD 0 = x := ⟨_, rfl⟩
        rw [hx0] at hcell Hhead
        clear hI hcells hcur hx0
        by_cases hxk : x0 = k
        · have Hyes := Lib.hid (hyes.out (by rcases Hhead.out with h | h; exact h.1; exact absurd hxk h.2))
          have he : ((x0 : Int) == (k : Int)) = true := by rw [hxk]; simp
          have Hne := Lib.hid (fun q (hq : u3.ownBlock = some q) => own_blt HR.out.own hq)
          clear hxk
          go_wp2_with (first | ((with_reducible show wpList _ _ _ (⟨_, .buildSlice 53 _ _, _, _, _, _⟩ :: _) _ _); refine wpList_buildSlice' rfl _ _ _ rfl rfl (intss_one _ _ _ _) ?_) | (at_builtin; refine wpList_elem_append rfl _ _ 53 30 (.slice none 0 0) 1 24 intss_row rfl (by omega) (by omega) Tryd.underlying53 rfl w.heap.size _ vs.length vs rfl (HR4.out.own.alloc _) _ [.slice (some ⟨g, 0, none⟩) xs.length c4] rfl rfl (range_one rfl) (by simp [Value.oneCell']) (by omega) (by simp; omega) ?_; intro ov w8 hown8 hg8 hat8))
          have hsz4 : (w4.alloc (.cells #[.slice (some ⟨g, 0, none⟩) xs.length c4] 30)).heap.size = w4.heap.size + 1 := by simp
          have hal : Below w4.heap.size w4 (w4.alloc (.cells #[.slice (some ⟨g, 0, none⟩) xs.length c4] 30)) := (Below.refl _ _).alloc (Nat.le_refl _) _
          have hMore := (HR4.out.below hal).more (L := xs) (a := some ⟨g, 0, none⟩) (c := c4) ((HI.out.mono (B' := w.heap.size) (by omega)).below hal) (fun h0 q e e2 => by
            cases e
            have := Hne.out g e2
            omega) hg8 hown8 (hat8.imp id fun h => h.trans (by rw [hsz4]))
          have Hfin := Lib.hid (show RowsAt w8 w.heap.size ov (attTo N (k + 1)) (vs ++ [.slice (some ⟨g, 0, none⟩) xs.length c4]) by rw [Hyes.out]; exact hMore)
          have HB8 := Lib.hid (show Below w.heap.size w w8 from (hB4.alloc (by omega) _).grown hg8 (by omega) (fun z hz => own_ge HR.out.own hz))
          clear hown8 hg8 hat8 hMore hal
          go_wp2_with fail
          go_roundw
          case rel => exact ⟨k + 1, _, by omega, by go_num, Hfin.out, HB8.out⟩
          case measure => simp [intOf] <;> omega
        · have Hno := Lib.hid (hno.out (by rcases Hhead.out with h | h; exact absurd h.2 hxk; exact h.1))
          have he : ((x0 : Int) == (k : Int)) = false := by rw [beq_eq_false_iff_ne]; omega
          clear hxk
          go_wp2_with fail
          go_roundw
          case rel => exact ⟨k + 1, vs, by omega, by go_num, by rw [Hno.out]; exact HR4.out, hB4⟩
          case measure => simp [intOf] <;> omega
    · obtain rfl : k = pw N.n := by omega
      have hle : ¬ ((pw N.n : Nat) : Int) ≤ ((pw N.n - 1 : Nat) : Int) := by omega
      go_wp2_with (go_at_call 98; refine (cA.out _).mono ?_; rintro e w' ⟨rfl, rfl⟩)
      go_ret
      exact ⟨hW, _, vs, rfl, by rw [← attTo_all]; exact HR.out⟩
end Go.Proofs.YtcddnacbjdahbaaDoor
namespace Go.Proofs.YtcddnacbjdahbaaDoor
open Go Go.RowKit Go.Sw
set_option maxRecDepth 100000
set_option linter.unusedVariables false

theorem head_get {l : List Nat} (h : 0 < l.length) : l[0] = l.headD 0 := by cases l with
  | nil => simp at h
  | cons a r => rfl
noncomputable def attrL (t : ByteArray) : List (List Nat) := if netOk t then attL (netOf t) else []
theorem attractorsOf_spec (t : ByteArray) (w : World) (hs : t.size ≤ 1048576) :
    Calls Tryd.prog 73 #[.string t] w fun e w' => Below w.heap.size w w' ∧ ∃ out vs, e = .returned out ∧ RowsAt w' w.heap.size out (attrL t) vs := by
  have cO := Lib.hid (l3Open_any t w hs)
  cases hok0 : netOk t
  · have hr : attrL t = [] := by rw [attrL, hok0]; rfl
    rw [hr]
    have Hok := Lib.hid hok0
    clear hr hok0
    go_enter Tryd.func73, Tryd.ntmps73
    go_wp2_with fail
    refine cO.out.mono ?_
    rintro e w1 ⟨hW1, ⟨hbad, v, rfl⟩ | ⟨hok, b, cap, rfl, hb1, hb2, hat⟩⟩
    · clear hbad
      go_wp2_with ((with_reducible show wpList _ _ _ (⟨_, .buildSlice 53 _ _, _, _, _, _⟩ :: _) _ _); refine wpList_buildSlice' rfl _ _ _ rfl rfl (intss_none _) ?_)
      go_ret
      exact ⟨hW1.alloc hW1.size _, _, [], rfl, ⟨World.ownsRow_made w1 #[] 0 hW1.size (by unfold maxLen; omega) rfl, rfl, fun j hj => by cases hj⟩⟩
    · rw [Hok.out] at hok; cases hok
  · have hn := netOf_ok hok0
    have hr : attrL t = attL (netOf t) := by rw [attrL, hok0]; rfl
    rw [hr]
    obtain ⟨N, hN⟩ : ∃ N, netOf t = N := ⟨_, rfl⟩
    rw [hN] at hn cO ⊢
    have Hok := Lib.hid hok0
    clear hr hok0
    go_enter Tryd.func73, Tryd.ntmps73
    go_wp2_with fail
    refine cO.out.mono ?_
    rintro e w1 ⟨hW1, ⟨hbad, v, rfl⟩ | ⟨hok, b, cap, rfl, hb1, hb2, hat⟩⟩
    · rw [Hok.out] at hbad; cases hbad
    · have cC := Lib.hid (l5Attractors_any b cap N hn.2 w1 hat hb2)
      clear hok hat
      go_wp2_with fail
      refine cC.out.mono ?_
      rintro e w2 ⟨hW2, out, vs, rfl, hR⟩
      have HR := Lib.hid hR
      have hW1s := hW1.size
      clear hR
      go_wp2_with fail
      go_ret
      exact ⟨hW1.trans (hW2.mono hW1s), out, vs, rfl, HR.out.mono hW1s⟩
set_option maxHeartbeats 2000000 in
theorem attractorsIn_spec (t u : ByteArray) (w : World) (hs : t.size ≤ 1048576) (hu : u.size ≤ 1048576) :
    Calls Tryd.prog 15 #[.string t, .string u] w fun e w' => Below w.heap.size w w' ∧ e = .returned (.int .i64 (attI t u)) := by
  have c0 := isTrap_spec t u w hs hu
  have cA := Lib.hid (fun wx => attractorsOf_spec t wx hs)
  cases hb : (termOk t u && trapP (netOf t) (ofT u))
  · have hr : attI t u = -1 := by rw [attI, hb]; rfl
    rw [hr]
    rw [hb] at c0
    have C0 := Lib.hid c0
    clear c0 hr hb
    go_enter Tryd.func15, Tryd.ntmps15
    go_wp2_with fail
    refine C0.out.mono ?_
    rintro e w1 ⟨hW1, rfl⟩
    go_wp2_with fail
    go_ret
    exact ⟨hW1, rfl⟩
  · have hr : attI t u = ((attIn (netOf t) (ofT u) : Nat) : Int) := by rw [attI, hb]; rfl
    rw [hr]
    rw [hb] at c0
    rw [Bool.and_eq_true] at hb
    have hok2 := hb.1
    unfold termOk at hok2
    rw [Bool.and_eq_true] at hok2
    have hn := netOf_ok hok2.1
    have hut : termT (netOf t).n (ofT u) = u := termT_of hok2.2
    have hal : attrL t = attL (netOf t) := by rw [attrL, hok2.1]; rfl
    rw [hal] at cA
    obtain ⟨p, hp0⟩ : ∃ p0, ofT u = p0 := ⟨_, rfl⟩
    rw [hp0] at hut ⊢
    rw [← hut]
    rw [← hut] at c0
    obtain ⟨N, hN⟩ : ∃ N, netOf t = N := ⟨_, rfl⟩
    rw [hN] at hn c0 cA ⊢
    have hpw := pw_le hn.2
    have C0 := Lib.hid c0
    have hLL : (attL N).length ≤ 32 := by
      have := attTo_length N (pw N.n)
      rw [attTo_all] at this
      omega
    clear hr hb hok2 hut hal hp0 hN c0 hu
    go_enter Tryd.func15, Tryd.ntmps15
    go_wp2_with fail
    refine C0.out.mono ?_
    rintro e w1 ⟨hW1, rfl⟩
    have hW1s := hW1.size
    go_wp2_with fail
    refine (cA.out w1).mono ?_
    rintro e w3 ⟨hW3, out, vs, rfl, hR⟩
    obtain ⟨a, co, rfl, hget⟩ := hR.get
    have Hget := Lib.hid hget
    have hB3 : Below w.heap.size w w3 := hW1.trans (hW3.mono hW1s)
    clear hget hR
    go_wp2_with fail
    go_loopw [6, 7] (fun cv i wr => ∃ k : Nat, k ≤ (attL N).length ∧ i = .int .i64 k ∧ cv = .int .i64 (cntTo N p (leastB N) k) ∧ Below w3.heap.size w3 wr) (fun _ i _ => (attL N).length - (intOf i).toNat)
    case atStart => exact ⟨0, Nat.zero_le _, rfl, rfl, Below.refl _ _⟩
    case round =>
      obtain ⟨k, hk, rfl, rfl, hW⟩ := hrel
      have hWs := hW.size
      have hle := cntTo_le N p (leastB N) k
      by_cases hlt : k < (attL N).length
      · obtain ⟨g, rfl, hg, hgs⟩ := Hget.out (by omega)
        obtain ⟨x, d, hx, hI⟩ := hgs k hlt
        have hx' := (hW.cell hg).trans hx
        have hkS : k < (attS N).length := by rw [attL, List.length_map] at hlt; exact hlt
        obtain ⟨s, hs0⟩ : ∃ s, (attS N)[k] = s := ⟨_, rfl⟩
        have hsm := pickL_mem.1 (show s ∈ pickL (leastB N) (pw N.n) from by rw [← hs0]; exact List.getElem_mem hkS)
        have hLk : (attL N)[k] = stR N s := by
          rw [← hs0]; simp [attL]
        have hsuc : cntTo N p (leastB N) (k + 1) = cntTo N p (leastB N) k + if hasP N.n p s then 1 else 0 := by rw [← hs0]; exact cntTo_suc N p (leastB N) k hkS
        obtain ⟨hh1, hh2⟩ := stR_head hsm.1 hsm.2
        rw [hLk] at hx' hI
        have h0l : 0 < (stR N s).length := List.length_pos_iff.2 hh2
        obtain ⟨g2, cur, tt, rfl, hBg, hcur, hcs, hcells⟩ := hI.at' (by rw [nats_length]; exact h0l)
        have hc2 : wr.cell? ⟨g2, 0, none⟩ = some (.int .i64 (s : Int)) := by
          rw [hW.cell (block_lt hcur), cell_of_row w3 _ _ _ _ _ hcur, hcells 0 (by rw [nats_length]; exact h0l)]
          congr 2
          have e : (nats (stR N s))[0]'(by rw [nats_length]; exact h0l) = (((stR N s)[0] : Nat) : Int) := by simp [nats]
          rw [e]
          congr 1
          exact (head_get h0l).trans hh1
        have cH := l2Has_any N.n s p hn.2 (by omega) wr
        clear hx hI hgs hs0 hsm hLk hkS hcells hcur hh1 hh2
        cases hh : hasP N.n p s <;> rw [hh] at cH hsuc
        · have CH := Lib.hid cH
          have Hs := Lib.hid (show cntTo N p (leastB N) (k + 1) = cntTo N p (leastB N) k from hsuc)
          clear cH hsuc hh
          go_wp2_with fail
          refine CH.out.mono ?_
          rintro e w5 ⟨hW5, rfl⟩
          go_wp2_with fail
          go_roundw
          case rel => exact ⟨k + 1, by omega, by go_num, by rw [Hs.out], hW.trans (hW5.mono hWs)⟩
          case measure => simp [intOf] <;> omega
        · have CH := Lib.hid cH
          have Hs := Lib.hid (show cntTo N p (leastB N) (k + 1) = cntTo N p (leastB N) k + 1 from hsuc)
          clear cH hsuc hh
          obtain ⟨cn, hcn⟩ : ∃ cn, cntTo N p (leastB N) k = cn := ⟨_, rfl⟩
          rw [hcn] at Hs hle ⊢
          clear hcn
          go_wp2_with fail
          refine CH.out.mono ?_
          rintro e w5 ⟨hW5, rfl⟩
          go_wp2_with fail
          go_roundw
          case rel => exact ⟨k + 1, by omega, by go_num, by rw [Hs.out]; go_num, hW.trans (hW5.mono hWs)⟩
          case measure => simp [intOf] <;> omega
      · obtain rfl : k = (attL N).length := by omega
        rw [cntTo_all]
        go_wp2_with fail
        go_ret
        exact ⟨hB3.trans (hW.mono hB3.size), rfl⟩
end Go.Proofs.YtcddnacbjdahbaaDoor
