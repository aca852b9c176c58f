/- The reference's single steps, what they lead to, attractors. A queue of numbers: a slice whose first number is taken by [1:] and to which numbers are appended. The reference's search through what single steps lead to. The reference's steady states, attractors, and how many lie in a trap. The reference's list of attractors of a text, and its count of those within a trap. -/
import Derived.Test.YtkfagolmpbbckaaDoorSpecF
import Derived.Test.YtkfagolmpbbckaaDoorRs
import Derived.Test.YtkfagolmpbbckaaDoorSl
import Derived.Test.YtkfagolmpbbckaaDoorAp
import Derived.Test.YtkfagolmpbbckaaDoorProg
import Derived.Maps.AppendAt
import Derived.ArgAppend
import Derived.OwnWalk
import Derived.Deep.LoopGhost
import Derived.Test.YtkfagolmpbbckaaDoorIv
namespace Go.Proofs.YtkfagolmpbbckaaDoor
open Go Go.RowKit Go.Sw
set_option maxRecDepth 100000
set_option linter.unusedVariables false

theorem wrap_two : ∀ k, k < 5 → (((2 ^ k : Nat)) : Int) = wrap64 ((2 : Int) ^ k) := fun k hk => by
  have : k = 0 ∨ k = 1 ∨ k = 2 ∨ k = 3 ∨ k = 4 := by omega
  rcases this with rfl | rfl | rfl | rfl | rfl <;> first | rfl | (simp [wrap64]; done) | (unfold wrap64; decide)
/-- block b holds n truths -/
structure BoolsAt (w : World) (b n : Nat) (S : Nat → Bool) : Prop where
  at' : ∃ cur t, w.heap[b]? = some (.cells cur t (0, 0)) ∧ cur.size = n ∧ ∀ j, j < n → cur[j]? = some (.bool (S j))
theorem BoolsAt.same {w w' : World} {b n : Nat} {S : Nat → Bool} (h : BoolsAt w b n S) (hb : w'.heap[b]? = w.heap[b]?) : BoolsAt w' b n S := by
  obtain ⟨cur, t, h1, h2⟩ := h.at'
  exact ⟨cur, t, hb.trans h1, h2⟩
theorem BoolsAt.lt {w : World} {b n : Nat} {S : Nat → Bool} (h : BoolsAt w b n S) : b < w.heap.size := by
  obtain ⟨cur, t, h1, _⟩ := h.at'
  exact block_lt h1
theorem BoolsAt.below {w w' : World} {b n : Nat} {S : Nat → Bool} (h : BoolsAt w b n S) (hb : Below w.heap.size w w') : BoolsAt w' b n S := h.same (hb.block b h.lt)
theorem BoolsAt.cell {w : World} {b n j : Nat} {S : Nat → Bool} (h : BoolsAt w b n S) (hj : j < n) : w.cell? ⟨b, j, none⟩ = some (.bool (S j)) := by
  obtain ⟨cur, t, h1, h2, h3⟩ := h.at'
  rw [cell_of_row w _ _ _ _ _ h1]
  exact h3 j hj
theorem l5Sorted_any (b c n : Nat) (p : Nat → Bool) (hn : n ≤ 32) (w : World) (hB : BoolsAt w b n p) :
    Calls Tryd.prog 108 #[.slice (some ⟨b, 0, none⟩) n c] w fun e w' => Below w.heap.size w w' ∧ ∃ a c, e = .returned (.slice a (pickL p n).length c) ∧ IntsAt w' w.heap.size a (natL (pickL p n)) := by
  have HB := Lib.hid hB
  clear hB
  go_enter Tryd.func108, Tryd.ntmps108
  go_wp2_with ((with_reducible show wpList _ _ _ (⟨_, .buildSlice 26 0 _, _, _, _, _⟩ :: _) _ _); refine wpList_buildSlice' rfl _ _ _ rfl rfl (int_none _) ?_)
  go_loopw [3, 4] (fun out i wr => ∃ m : Nat, m ≤ n ∧ i = .int .i64 m ∧ wr.ownsRow w.heap.size 3 1 out (natL (pickL p m)).length (ints (natL (pickL p m))) ∧ Below w.heap.size w wr) (fun _ i _ => n - (intOf i).toNat)
  case atStart => exact ⟨0, Nat.zero_le _, rfl, World.ownsRow_made w #[] 0 (Nat.le_refl _) (by unfold maxLen; omega) rfl, (Below.refl _ _).alloc (Nat.le_refl _) _⟩
  case round =>
    obtain ⟨m, hm, rfl, hown, hW⟩ := hrel
    have Hown := Lib.hid hown
    have hlk := pickL_length p m
    have hWs := hW.size
    clear hown
    by_cases hlt : m < n
    · have hcell := (HB.out.below hW).cell hlt
      have hsuc : pickL p (m + 1) = if p m then pickL p m ++ [m] else pickL p m := rfl
      obtain ⟨ps, hps⟩ : ∃ ps, pickL p m = ps := ⟨_, rfl⟩
      rw [hps] at hsuc Hown hlk
      have hpl : (natL ps).length ≤ 32 := by rw [natL_length]; omega
      clear hps
      cases hp : p m <;> rw [hp] at hcell hsuc
      · have Hs := Lib.hid (show pickL p (m + 1) = ps from hsuc)
        clear hsuc hp
        go_wp2_with fail
        go_roundw
        case rel => exact ⟨m + 1, by omega, by go_num, by rw [Hs.out]; exact Hown.out, hW⟩
        case measure => simp [intOf] <;> omega
      · have Hs := Lib.hid (show pickL p (m + 1) = ps ++ [m] from hsuc)
        clear hsuc hp
        go_wp2_with (first | ((with_reducible show wpList _ _ _ (⟨_, .buildSlice 26 1 _, _, _, _, _⟩ :: _) _ _); refine wpList_buildSlice' rfl _ _ _ rfl rfl (int_one (m : Int) _) ?_) | (at_builtin; refine wpList_int_append rfl _ _ rfl w.heap.size _ (natL ps) rfl ((Hown.out.alloc _)) _ _ rfl (cell_new ?_) (by omega) (hW.alloc (by omega) _) ?_ ?_ ?_))
        · rfl
        · exact Nat.le_refl _
        · first | omega | (simp; omega)
        · intro v' w4 hown4 hB4
          have hown5 : w4.ownsRow w.heap.size 3 1 v' (natL (pickL p (m + 1))).length (ints (natL (pickL p (m + 1)))) := by
            rw [Hs.out, natL_snoc, List.length_append]; exact hown4
          have Hown4 := Lib.hid hown5
          have HB4 := Lib.hid hB4
          clear hown4 hown5 hB4
          go_wp2_with fail
          go_roundw
          case rel => exact ⟨m + 1, by omega, by go_num, Hown4.out, HB4.out⟩
          case measure => simp [intOf] <;> omega
    · obtain rfl : m = n := by omega
      obtain ⟨a, cp, rfl, hcp, hI⟩ := intsAt_of_own Hown.out
      have HI := Lib.hid hI
      clear hI
      rw [natL_length]
      go_wp2_with fail
      go_ret
      exact ⟨hW, a, _, rfl, HI.out⟩
/-- the first of the queue is taken -/
theorem rinv_front {N : Net} {s t : Nat} {S : Nat → Bool} {L : List Nat} (h : RInv N s S (t :: L) none) : RInv N s S L (some (t, 0)) :=
  ⟨h.start, h.only, fun i hi => h.stack i (by simp [hi]), fun i hi hn hx => by
    by_cases e : i = t
    · subst e; exact absurd rfl (hx 0)
    · exact h.done i hi (by simp [hn, e]) (fun m => by simp), fun t' m e => by
    cases e; exact ⟨h.stack t (by simp), fun k hk hm => by omega⟩⟩
end Go.Proofs.YtkfagolmpbbckaaDoor
namespace Go.Proofs.YtkfagolmpbbckaaDoor
open Go Go.RowKit Go.Sw
set_option maxRecDepth 100000
set_option linter.unusedVariables false

theorem run_append_roomO {P : Program} (w : World) (t ty e : TypeId) (i : TypeInfo) (ht : P.underlying t = some (.slice e)) (hi : P.info? e = some i)
    (g o sLen sCap : Nat) (cur : Array Value) (hg : w.heap[g]? = some (.cells cur e (0, 0)))
    (a : Addr) (m c : Nat) (news : List Value) (hl : news.length = m * i.size) (hnews : ∀ j u, news[j]? = some u → w.cell? (a.add j) = some u) (h1 : ∀ u ∈ news, u.oneCell' = true)
    (hroom : sLen + m ≤ sCap) (hfit : o + sLen * i.size + news.length ≤ cur.size) :
    (Builtin.append_ #[t, t] ty #[.slice (some ⟨g, o, none⟩) sLen sCap, .slice (some a) m c]).run P w =
      .ok (.slice (some ⟨g, o, none⟩) (sLen + m) sCap) (w.setRow g (cur.toList.take (o + sLen * i.size) ++ news ++ cur.toList.drop (o + sLen * i.size + news.length)).toArray) := by
  have hf := run_firstCells_some (P := P) w i.size m a m c news hl hnews
  have hst := run_storeCells_at P g (o + sLen * i.size) e news 0 cur w hg (by simpa using hfit) h1
  simp only [Nat.add_zero] at hst
  simp [Builtin.append_, run_underlying ht, sizeOf, typeInfo, hi, Builtin.lenOf, hroom, hf, Addr.add_lit, hst]
/-- the slice v holds the numbers of L, from some place of block g on, which is ours -/
structure QAt (w : World) (base g : Nat) (e : TypeId) (v : Value) (L : List Int) : Prop where
  at' : ∃ o cap cur, v = .slice (some ⟨g, o, none⟩) L.length cap ∧ base ≤ g ∧ w.heap[g]? = some (.cells cur e (0, 0)) ∧ L.length ≤ cap ∧ cap ≤ maxLen ∧ o + cap ≤ cur.size ∧ ∀ j (h : j < L.length), cur[o + j]? = some (.int .i64 L[j])
theorem QAt.same {w w' : World} {base g : Nat} {e : TypeId} {v : Value} {L : List Int} (h : QAt w base g e v L) (hb : w'.heap[g]? = w.heap[g]?) : QAt w' base g e v L := by
  obtain ⟨o, cap, cur, h1, h2, h3, h4⟩ := h.at'
  exact ⟨o, cap, cur, h1, h2, hb.trans h3, h4⟩
theorem QAt.lt {w : World} {base g : Nat} {e : TypeId} {v : Value} {L : List Int} (h : QAt w base g e v L) : g < w.heap.size := by
  obtain ⟨o, cap, cur, h1, h2, h3, _⟩ := h.at'
  exact block_lt h3
theorem QAt.below {w w' : World} {base g : Nat} {e : TypeId} {v : Value} {L : List Int} (h : QAt w base g e v L) (hb : Below w.heap.size w w') : QAt w' base g e v L := h.same (hb.block g h.lt)
theorem qAt_of_own {w : World} {base : Nat} {e : TypeId} {v : Value} {L : List Int} (h : w.ownsRow base e 1 v L.length (ints L)) (h0 : 0 < L.length) : ∃ g, v.ownBlock = some g ∧ QAt w base g e v L := by
  rcases h.2 with ⟨_, hz⟩ | ⟨g, cap, cur, rfl, hb, hg, h1, h2, h3, h4⟩
  · omega
  · refine ⟨g, rfl, 0, cap, cur, rfl, hb, hg, h1, h2, by omega, fun j hj => ?_⟩
    have : (ints L)[j]? = some (.int .i64 L[j]) := by simp [ints, hj]
    rw [← h4, List.getElem?_take] at this
    rw [if_pos (by omega)] at this
    simpa using this
/-- the first number is left away -/
theorem QAt.tail {w : World} {base g o cap : Nat} {e : TypeId} {t : Int} {L : List Int} (h : QAt w base g e (.slice (some ⟨g, o, none⟩) (L.length + 1) cap) (t :: L)) : QAt w base g e (.slice (some ⟨g, o + 1, none⟩) L.length (cap - 1)) L := by
  obtain ⟨o', cap', cur, h0, h1, h2, h3, h4, h5, h6⟩ := h.at'
  injection h0 with e1 e2 e3
  injection e1 with e1
  injection e1 with _ e1 _
  subst e1 e3
  rw [List.length_cons] at h3
  refine ⟨o + 1, cap - 1, cur, rfl, h1, h2, by omega, by omega, by omega, fun j hj => ?_⟩
  have := h6 (j + 1) (by rw [List.length_cons]; omega)
  rw [show o + 1 + j = o + (j + 1) by omega]
  simpa using this
theorem QAt.none {w : World} {base g o cap : Nat} {e : TypeId} {L : List Int} (h : QAt w base g e (.slice (some ⟨g, o, none⟩) L.length cap) L) : QAt w base g e (.slice (some ⟨g, o, none⟩) 0 0) [] := by
  obtain ⟨o', cap', cur, h0, h1, h2, h3, h4, h5, h6⟩ := h.at'
  injection h0 with e1 e2 e3
  injection e1 with e1
  injection e1 with _ e1 _
  subst e1 e3
  exact ⟨o, 0, cur, rfl, h1, h2, Nat.le_refl _, by omega, by omega, fun j hj => absurd hj (Nat.not_lt_zero _)⟩
theorem ints_get (L : List Int) (j : Nat) (u : Value) (h : (ints L)[j]? = some u) : ∃ hj : j < L.length, u = .int .i64 L[j] := by
  have hj : j < L.length := by
    have := (List.getElem?_eq_some_iff.1 h).1
    rwa [ints_length] at this
  refine ⟨hj, ?_⟩
  have e : (ints L)[j]? = some (.int .i64 L[j]) := by simp [ints, hj]
  rw [e] at h
  exact (Option.some.inj h).symm
theorem wpList_q_append {ops : Array Oper} {rest : List Oper} {o : Oper} {a : Act} {w : World} {Q : Exit → Act → World → Prop} (hgd : o.guard = none) (s x : Operand)
    (ho : o.op = .call { callee := .builtin .append, args := #[s, x], argTypes := #[26, 26] })
    (base g : Nat) (v : Value) (L : List Int) (hs : a.eval s = v) (hq : QAt w base g 3 v L) (u : Int) (b : Nat) (hx : a.eval x = .slice (some ⟨b, 0, none⟩) 1 1) (hc : w.rangeAt b 0 [.int .i64 u]) (hk : L.length ≤ 1000000) (hB0 : base ≤ w.heap.size)
    (h : ∀ v' w' g', QAt w' base g' 3 v' (L ++ [u]) → w.grownBy w' (some g) → (g' = g ∨ w.heap.size ≤ g') → wpList Tryd.prog ops Q rest (a.put o.dst v') w') : wpList Tryd.prog ops Q (o :: rest) a w := by
  obtain ⟨i0, hi, hz0, hz1, hz2⟩ := info_parts int_row
  obtain ⟨of, cap, cur, rfl, hb, hg, h1, h2, h3, h4⟩ := hq.at'
  have hcc : ∀ j z, [Value.int .i64 u][j]? = some z → w.cell? ((⟨b, 0, none⟩ : Addr).add j) = some z := fun j z hz => by rw [Addr.add_mid]; exact hc j z hz
  by_cases hroom : L.length + 1 ≤ cap
  · have hr := run_append_roomO (P := Tryd.prog) w 26 o.type 3 i0 Tryd.underlying26 hi g of L.length cap cur hg ⟨b, 0, none⟩ 1 1 [.int .i64 u] (by rw [hz1]; rfl) hcc (by simp [Value.oneCell']) hroom (by rw [hz1]; simp; omega)
    refine wpList_plain hgd fun K hK' => ?_
    unfold Oper.wp execOp
    simp only [ho, resolve, invoke, builtin, Sem.run_bind, Sem.run_pure, Result.andThen_ok, List.map_toArray, List.map_cons, List.map_nil, hs, hx, hr]
    refine hK' _ _ (h _ _ g ⟨of, cap, _, by rw [List.length_append]; rfl, hb, setRow_heap w g cur _ _ _ hg, by simpa using hroom, h2, ?_, ?_⟩ ⟨rfl, rfl, rfl, by simp, fun k _ hk => setRow_other w g k _ (fun e => hk (by rw [e]))⟩ (.inl rfl))
    · simp [hz1]; omega
    · intro j hj
      rw [hz1, Nat.mul_one]
      simp only [List.getElem?_toArray, List.append_assoc]
      by_cases e : j < L.length
      · rw [List.getElem?_append_left (by simp; omega), List.getElem?_take, if_pos (by omega), List.getElem_append_left e]
        simpa using h4 j e
      · have e2 : j = L.length := by simp at hj; omega
        subst e2
        have hl : (List.take (of + L.length) cur.toList).length = of + L.length := by have hcs : cur.toList.length = cur.size := rfl; rw [List.length_take, hcs]; omega
        rw [List.getElem?_append_right (by omega), hl, Nat.sub_self]
        simp
  · refine wpList_append_grows w hgd s x 26 ho 3 i0 (.int .i64 0) 1 8 Tryd.underlying26 hi hz0 hz1 hz2 rfl (by omega) (some ⟨g, of, none⟩) L.length cap (ints L) hs (fun e => by cases e) (by rw [ints_length]; omega) (fun b' e j z hz => ?_) ⟨b, 0, none⟩ 1 1 [.int .i64 u] hx rfl hcc (by simp [Value.oneCell']) (by omega) (by unfold maxLen; omega) (by omega) ?_
    · cases e
      obtain ⟨hj, rfl⟩ := ints_get L j z hz
      rw [Addr.add_mid, cell_of_row w _ _ _ _ _ hg]
      exact h4 j hj
    · intro v' w' hown hgr
      have hown2 : w'.ownsRow w.heap.size 3 1 v' (L ++ [u]).length (ints (L ++ [u])) := by
        rw [ints_snoc, List.length_append]; exact hown
      obtain ⟨g', e, hq'⟩ := qAt_of_own hown2 (by simp)
      have hge := own_ge hown2 e
      obtain ⟨o2, c2, cu2, k1, k2, k3⟩ := hq'.at'
      exact h v' w' g' ⟨o2, c2, cu2, k1, by omega, k3⟩ ⟨hgr.os, hgr.tape, hgr.output, hgr.size, fun i hi _ => hgr.block i hi (by simp)⟩ (.inr hge)
end Go.Proofs.YtkfagolmpbbckaaDoor
namespace Go.Proofs.YtkfagolmpbbckaaDoor
open Go Go.RowKit Go.Sw
set_option maxRecDepth 100000
set_option linter.unusedVariables false

end Go.Proofs.YtkfagolmpbbckaaDoor
namespace Go.Proofs.YtkfagolmpbbckaaDoor
open Go Go.RowKit Go.Sw
set_option maxRecDepth 100000
set_option linter.unusedVariables false

end Go.Proofs.YtkfagolmpbbckaaDoor
namespace Go.Proofs.YtkfagolmpbbckaaDoor
open Go Go.RowKit Go.Sw
set_option maxRecDepth 100000
set_option linter.unusedVariables false

theorem head_get {l : List Nat} (h : 0 < l.length) : l[0] = l.headD 0 := by cases l with
  | nil => simp at h
  | cons a r => rfl
noncomputable def attrL (t : ByteArray) : List (List Nat) := if netOk t then attL (netOf t) else []
end Go.Proofs.YtkfagolmpbbckaaDoor
