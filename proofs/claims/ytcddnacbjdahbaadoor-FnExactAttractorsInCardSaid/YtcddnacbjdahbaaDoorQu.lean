/- A queue of numbers: a slice whose first number is taken by [1:] and to which numbers are appended. -/
import Derived.Test.YtcddnacbjdahbaaDoorProg
import Derived.Test.YtcddnacbjdahbaaDoorSl
import Derived.Test.YtcddnacbjdahbaaDoorAp
import Derived.Maps.AppendAt
import Derived.ArgAppend
import Derived.OwnWalk
namespace Go.Proofs.YtcddnacbjdahbaaDoor
open Go Go.RowKit Go.Sw
set_option maxRecDepth 100000
set_option linter.unusedVariables false

theorem run_append_roomO {P : Program} (w : World) (t ty e : TypeId) (i : TypeInfo) (ht : P.underlying t = some (.slice e)) (hi : P.info? e = some i)
    (g o sLen sCap : Nat) (cur : Array Value) (hg : w.heap[g]? = some (.cells cur e (0, 0)))
    (a : Addr) (m c : Nat) (news : List Value) (hl : news.length = m * i.size) (hnews : ∀ j u, news[j]? = some u → w.cell? (a.add j) = some u) (h1 : ∀ u ∈ news, u.oneCell' = true)
    (hroom : sLen + m ≤ sCap) (hfit : o + sLen * i.size + news.length ≤ cur.size) :
    (Builtin.append_ #[t, t] ty #[.slice (some ⟨g, o, none⟩) sLen sCap, .slice (some a) m c]).run P w =
      .ok (.slice (some ⟨g, o, none⟩) (sLen + m) sCap) (w.setRow g (cur.toList.take (o + sLen * i.size) ++ news ++ cur.toList.drop (o + sLen * i.size + news.length)).toArray) := by
  have hf := run_firstCells_some (P := P) w i.size m a m c news hl hnews
  have hst := run_storeCells_at P g (o + sLen * i.size) e news 0 cur w hg (by simpa using hfit) h1
  simp only [Nat.add_zero] at hst
  simp [Builtin.append_, run_underlying ht, sizeOf, typeInfo, hi, Builtin.lenOf, hroom, hf, Addr.add_lit, hst]
/-- the slice v holds the numbers of L, from some place of block g on, which is ours -/
structure QAt (w : World) (base g : Nat) (e : TypeId) (v : Value) (L : List Int) : Prop where
  at' : ∃ o cap cur, v = .slice (some ⟨g, o, none⟩) L.length cap ∧ base ≤ g ∧ w.heap[g]? = some (.cells cur e (0, 0)) ∧ L.length ≤ cap ∧ cap ≤ maxLen ∧ o + cap ≤ cur.size ∧ ∀ j (h : j < L.length), cur[o + j]? = some (.int .i64 L[j])
theorem QAt.same {w w' : World} {base g : Nat} {e : TypeId} {v : Value} {L : List Int} (h : QAt w base g e v L) (hb : w'.heap[g]? = w.heap[g]?) : QAt w' base g e v L := by
  obtain ⟨o, cap, cur, h1, h2, h3, h4⟩ := h.at'
  exact ⟨o, cap, cur, h1, h2, hb.trans h3, h4⟩
theorem QAt.lt {w : World} {base g : Nat} {e : TypeId} {v : Value} {L : List Int} (h : QAt w base g e v L) : g < w.heap.size := by
  obtain ⟨o, cap, cur, h1, h2, h3, _⟩ := h.at'
  exact block_lt h3
theorem QAt.below {w w' : World} {base g : Nat} {e : TypeId} {v : Value} {L : List Int} (h : QAt w base g e v L) (hb : Below w.heap.size w w') : QAt w' base g e v L := h.same (hb.block g h.lt)
theorem qAt_of_own {w : World} {base : Nat} {e : TypeId} {v : Value} {L : List Int} (h : w.ownsRow base e 1 v L.length (ints L)) (h0 : 0 < L.length) : ∃ g, v.ownBlock = some g ∧ QAt w base g e v L := by
  rcases h.2 with ⟨_, hz⟩ | ⟨g, cap, cur, rfl, hb, hg, h1, h2, h3, h4⟩
  · omega
  · refine ⟨g, rfl, 0, cap, cur, rfl, hb, hg, h1, h2, by omega, fun j hj => ?_⟩
    have : (ints L)[j]? = some (.int .i64 L[j]) := by simp [ints, hj]
    rw [← h4, List.getElem?_take] at this
    rw [if_pos (by omega)] at this
    simpa using this
/-- the first number is left away -/
theorem QAt.tail {w : World} {base g o cap : Nat} {e : TypeId} {t : Int} {L : List Int} (h : QAt w base g e (.slice (some ⟨g, o, none⟩) (L.length + 1) cap) (t :: L)) : QAt w base g e (.slice (some ⟨g, o + 1, none⟩) L.length (cap - 1)) L := by
  obtain ⟨o', cap', cur, h0, h1, h2, h3, h4, h5, h6⟩ := h.at'
  injection h0 with e1 e2 e3
  injection e1 with e1
  injection e1 with _ e1 _
  subst e1 e3
  rw [List.length_cons] at h3
  refine ⟨o + 1, cap - 1, cur, rfl, h1, h2, by omega, by omega, by omega, fun j hj => ?_⟩
  have := h6 (j + 1) (by rw [List.length_cons]; omega)
  rw [show o + 1 + j = o + (j + 1) by omega]
  simpa using this
theorem QAt.none {w : World} {base g o cap : Nat} {e : TypeId} {L : List Int} (h : QAt w base g e (.slice (some ⟨g, o, none⟩) L.length cap) L) : QAt w base g e (.slice (some ⟨g, o, none⟩) 0 0) [] := by
  obtain ⟨o', cap', cur, h0, h1, h2, h3, h4, h5, h6⟩ := h.at'
  injection h0 with e1 e2 e3
  injection e1 with e1
  injection e1 with _ e1 _
  subst e1 e3
  exact ⟨o, 0, cur, rfl, h1, h2, Nat.le_refl _, by omega, by omega, fun j hj => absurd hj (Nat.not_lt_zero _)⟩
theorem ints_get (L : List Int) (j : Nat) (u : Value) (h : (ints L)[j]? = some u) : ∃ hj : j < L.length, u = .int .i64 L[j] := by
  have hj : j < L.length := by
    have := (List.getElem?_eq_some_iff.1 h).1
    rwa [ints_length] at this
  refine ⟨hj, ?_⟩
  have e : (ints L)[j]? = some (.int .i64 L[j]) := by simp [ints, hj]
  rw [e] at h
  exact (Option.some.inj h).symm
theorem wpList_q_append {ops : Array Oper} {rest : List Oper} {o : Oper} {a : Act} {w : World} {Q : Exit → Act → World → Prop} (hgd : o.guard = none) (s x : Operand)
    (ho : o.op = .call { callee := .builtin .append, args := #[s, x], argTypes := #[30, 30] })
    (base g : Nat) (v : Value) (L : List Int) (hs : a.eval s = v) (hq : QAt w base g 3 v L) (u : Int) (b : Nat) (hx : a.eval x = .slice (some ⟨b, 0, none⟩) 1 1) (hc : w.rangeAt b 0 [.int .i64 u]) (hk : L.length ≤ 1000000) (hB0 : base ≤ w.heap.size)
    (h : ∀ v' w' g', QAt w' base g' 3 v' (L ++ [u]) → w.grownBy w' (some g) → (g' = g ∨ w.heap.size ≤ g') → wpList Tryd.prog ops Q rest (a.put o.dst v') w') : wpList Tryd.prog ops Q (o :: rest) a w := by
  obtain ⟨i0, hi, hz0, hz1, hz2⟩ := info_parts int_row
  obtain ⟨of, cap, cur, rfl, hb, hg, h1, h2, h3, h4⟩ := hq.at'
  have hcc : ∀ j z, [Value.int .i64 u][j]? = some z → w.cell? ((⟨b, 0, none⟩ : Addr).add j) = some z := fun j z hz => by rw [Addr.add_mid]; exact hc j z hz
  by_cases hroom : L.length + 1 ≤ cap
  · have hr := run_append_roomO (P := Tryd.prog) w 30 o.type 3 i0 Tryd.underlying30 hi g of L.length cap cur hg ⟨b, 0, none⟩ 1 1 [.int .i64 u] (by rw [hz1]; rfl) hcc (by simp [Value.oneCell']) hroom (by rw [hz1]; simp; omega)
    refine wpList_plain hgd fun K hK' => ?_
    unfold Oper.wp execOp
    simp only [ho, resolve, invoke, builtin, Sem.run_bind, Sem.run_pure, Result.andThen_ok, List.map_toArray, List.map_cons, List.map_nil, hs, hx, hr]
    refine hK' _ _ (h _ _ g ⟨of, cap, _, by rw [List.length_append]; rfl, hb, setRow_heap w g cur _ _ _ hg, by simpa using hroom, h2, ?_, ?_⟩ ⟨rfl, rfl, rfl, by simp, fun k _ hk => setRow_other w g k _ (fun e => hk (by rw [e]))⟩ (.inl rfl))
    · simp [hz1]; omega
    · intro j hj
      rw [hz1, Nat.mul_one]
      simp only [List.getElem?_toArray, List.append_assoc]
      by_cases e : j < L.length
      · rw [List.getElem?_append_left (by simp; omega), List.getElem?_take, if_pos (by omega), List.getElem_append_left e]
        simpa using h4 j e
      · have e2 : j = L.length := by simp at hj; omega
        subst e2
        have hl : (List.take (of + L.length) cur.toList).length = of + L.length := by have hcs : cur.toList.length = cur.size := rfl; rw [List.length_take, hcs]; omega
        rw [List.getElem?_append_right (by omega), hl, Nat.sub_self]
        simp
  · refine wpList_append_grows w hgd s x 30 ho 3 i0 (.int .i64 0) 1 8 Tryd.underlying30 hi hz0 hz1 hz2 rfl (by omega) (some ⟨g, of, none⟩) L.length cap (ints L) hs (fun e => by cases e) (by rw [ints_length]; omega) (fun b' e j z hz => ?_) ⟨b, 0, none⟩ 1 1 [.int .i64 u] hx rfl hcc (by simp [Value.oneCell']) (by omega) (by unfold maxLen; omega) (by omega) ?_
    · cases e
      obtain ⟨hj, rfl⟩ := ints_get L j z hz
      rw [Addr.add_mid, cell_of_row w _ _ _ _ _ hg]
      exact h4 j hj
    · intro v' w' hown hgr
      have hown2 : w'.ownsRow w.heap.size 3 1 v' (L ++ [u]).length (ints (L ++ [u])) := by
        rw [ints_snoc, List.length_append]; exact hown
      obtain ⟨g', e, hq'⟩ := qAt_of_own hown2 (by simp)
      have hge := own_ge hown2 e
      obtain ⟨o2, c2, cu2, k1, k2, k3⟩ := hq'.at'
      exact h v' w' g' ⟨o2, c2, cu2, k1, by omega, k3⟩ ⟨hgr.os, hgr.tape, hgr.output, hgr.size, fun i hi _ => hgr.block i hi (by simp)⟩ (.inr hge)
end Go.Proofs.YtcddnacbjdahbaaDoor
