/- The program's single steps and what they lead to. The program's steady states and attractors. The program's attractors. The program's count of the attractors within a trap. -/
import Derived.Test.YtifallippecdmaaGreatDoorMp
import Derived.Test.YtifallippecdmaaGreatDoorP2
import Derived.Test.YtifallippecdmaaGreatDoorImpl9
import Derived.Test.YtifallippecdmaaGreatDoorSl
import Derived.Test.YtifallippecdmaaGreatDoorAp
import Derived.Deep.LoopGhost
import Derived.Test.YtifallippecdmaaGreatDoorImplG
namespace Go.Proofs.YtifallippecdmaaGreatDoor
open Go Go.RowKit Go.Sw
set_option maxRecDepth 100000
set_option linter.unusedVariables false

/-- numbers as ints -/
def nats (l : List Nat) : List Int := l.map Int.ofNat
theorem nats_length (l : List Nat) : (nats l).length = l.length := by simp [nats]
theorem nats_snoc (l : List Nat) (x : Nat) : nats (l ++ [x]) = nats l ++ [((x : Nat) : Int)] := by simp [nats]
theorem IntsAt.same {w w' : World} {B : Nat} {a : Option Addr} {xs : List Int} (h : IntsAt w B a xs) (hb : 0 < xs.length → ∀ g, a = some ⟨g, 0, none⟩ → w'.heap[g]? = w.heap[g]?) : IntsAt w' B a xs :=
  ⟨fun h0 => by
    obtain ⟨g, cur, t, h1, h2, h3, h4⟩ := h.at' h0
    exact ⟨g, cur, t, h1, h2, (hb h0 g h1).trans h3, h4⟩⟩
/-- the last number of a row is left away -/
theorem own_pop {w : World} {base : Nat} {e : TypeId} {a : Option Addr} {c : Nat} {L : List Nat} {t : Nat} (h : w.ownsRow base e 1 (.slice a (L.length + 1) c) (nats (L ++ [t])).length (ints (nats (L ++ [t])))) : w.ownsRow base e 1 (.slice a L.length c) (nats L).length (ints (nats L)) := by
  refine ⟨by simp [ints], ?_⟩
  rcases h.2 with ⟨h0, hz⟩ | ⟨g, cap, cur, h0, hb, hg, h1, h2, h3, h4⟩
  · injection h0 with e1 e2 e3
    omega
  · injection h0 with e1 e2 e3
    subst e1 e3
    refine .inr ⟨g, c, cur, ?_, hb, hg, ?_, h2, h3, ?_⟩
    · rw [nats_length]
    · rw [nats_length] at h1 ⊢
      rw [List.length_append] at h1; simp at h1; omega
    · have e2 : ints (nats (L ++ [t])) = ints (nats L) ++ [.int .i64 (t : Int)] := by rw [nats_snoc, ints_snoc]
      rw [e2] at h4
      have h5 := congrArg (List.take (nats L).length) h4
      rw [List.take_take] at h5
      rw [nats_length] at h5 ⊢
      rw [nats_length, List.length_append] at h5
      simp only [List.length_cons, List.length_nil, Nat.mul_one, Nat.zero_add] at h5 ⊢
      rw [show min L.length (L.length + 1) = L.length by omega] at h5
      rw [h5, List.take_append_of_le_length (by simp [ints, nats]), List.take_of_length_le (by simp [ints, nats])]
end Go.Proofs.YtifallippecdmaaGreatDoor
namespace Go.Proofs.YtifallippecdmaaGreatDoor
open Go Go.RowKit Go.Sw
set_option maxRecDepth 100000
set_option linter.unusedVariables false

end Go.Proofs.YtifallippecdmaaGreatDoor
namespace Go.Proofs.YtifallippecdmaaGreatDoor
open Go Go.RowKit Go.Sw
set_option maxRecDepth 100000
set_option linter.unusedVariables false

def doneAt (N : Net) (k i : Nat) : Prop := ∃ s, s < k ∧ leastB N s = true ∧ AR N s i
theorem done_skip {N : Net} {k : Nat} (hk : k < pw N.n) (h : doneAt N k k) : leastB N k = false := by
  cases e : leastB N k with
  | false => rfl
  | true => rw [(done_iff hk (leastB_iff.1 e).1).1 h] at e; cases e
theorem done_least {N : Net} {k : Nat} (hk : k < pw N.n) (h : ¬ doneAt N k k) (hs : steadyB N k = true) : leastB N k = true := by
  cases e : leastB N k with
  | true => rfl
  | false => exact absurd ((done_iff hk hs).2 e) h
theorem done_no {N : Net} {k : Nat} (hl : leastB N k = false) (i : Nat) : doneAt N (k + 1) i ↔ doneAt N k i := by
  constructor
  · rintro ⟨s, h1, h2, h3⟩
    by_cases e : s = k
    · subst e; rw [hl] at h2; cases h2
    · exact ⟨s, by omega, h2, h3⟩
  · rintro ⟨s, h1, h2, h3⟩; exact ⟨s, by omega, h2, h3⟩
theorem done_yes {N : Net} {k : Nat} (hl : leastB N k = true) (i : Nat) : doneAt N (k + 1) i ↔ doneAt N k i ∨ AR N k i := by
  constructor
  · rintro ⟨s, h1, h2, h3⟩
    by_cases e : s = k
    · subst e; exact .inr h3
    · exact .inl ⟨s, by omega, h2, h3⟩
  · rintro (⟨s, h1, h2, h3⟩ | h)
    · exact ⟨s, by omega, h2, h3⟩
    · exact ⟨k, by omega, hl, h⟩
noncomputable def attTo (N : Net) (k : Nat) : List (List Nat) := (pickL (leastB N) k).map (stR N)
theorem attTo_no {N : Net} {k : Nat} (hl : leastB N k = false) : attTo N (k + 1) = attTo N k := by unfold attTo; rw [pickL, if_neg (by simp [hl])]
theorem attTo_yes {N : Net} {k : Nat} (hl : leastB N k = true) : attTo N (k + 1) = attTo N k ++ [stR N k] := by unfold attTo; rw [pickL, if_pos hl]; simp
theorem attTo_length (N : Net) (k : Nat) : (attTo N k).length ≤ k := by unfold attTo; rw [List.length_map]; exact pickL_length _ _
theorem attTo_all (N : Net) : attTo N (pw N.n) = attL N := rfl

end Go.Proofs.YtifallippecdmaaGreatDoor
namespace Go.Proofs.YtifallippecdmaaGreatDoor
open Go Go.RowKit Go.Sw
set_option maxRecDepth 100000
set_option linter.unusedVariables false

def cntTo (N : Net) (p : Trm) (q : Nat → Bool) (k : Nat) : Nat := (((pickL q (pw N.n)).take k).filter fun s => hasP N.n p s).length
theorem cntTo_le (N : Net) (p : Trm) (q : Nat → Bool) (k : Nat) : cntTo N p q k ≤ 2 ^ 5 + pw N.n := by
  unfold cntTo
  have h1 := List.length_filter_le (fun s => hasP N.n p s) ((pickL q (pw N.n)).take k)
  have h2 := pickL_length q (pw N.n)
  rw [List.length_take] at h1
  omega
theorem cntTo_suc (N : Net) (p : Trm) (q : Nat → Bool) (k : Nat) (hk : k < (pickL q (pw N.n)).length) : cntTo N p q (k + 1) = cntTo N p q k + if hasP N.n p (pickL q (pw N.n))[k] then 1 else 0 := by
  unfold cntTo
  rw [List.take_add_one, List.getElem?_eq_getElem hk, Option.toList_some, List.filter_append, List.length_append]
  congr 1
  cases h : hasP N.n p (pickL q (pw N.n))[k] <;> simp [h]
theorem cntTo_all (N : Net) (p : Trm) : cntTo N p (leastB N) (attL N).length = attIn N p := by
  unfold cntTo attIn attL
  rw [List.length_map]
  show (List.filter _ (List.take (attS N).length (attS N))).length = _
  rw [List.take_length]
end Go.Proofs.YtifallippecdmaaGreatDoor
