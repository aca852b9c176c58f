/- The program's least and greatest traps. -/
import Derived.Test.YtkfagolmpbbckaaDoorImplN
import Derived.Test.YtkfagolmpbbckaaDoorShelf
import Derived.Deep.Upon
import Derived.Lib.SliceRun
namespace Go.Proofs.YtkfagolmpbbckaaDoor
open Go Go.RowKit Go.Sw
set_option maxRecDepth 100000
set_option linter.unusedVariables false

theorem inside_any (n : Nat) (p q : Trm) (hn : n ≤ 5) (w : World) :
    Calls Tryd.prog 104 #[.string (termT n p), .string (termT n q)] w fun e w' => Below w.heap.size w w' ∧ e = .returned (.bool (insTo p q n)) := by
  obtain ⟨t, ht⟩ : ∃ t, termT n p = t := ⟨_, rfl⟩
  obtain ⟨u, hu⟩ : ∃ u, termT n q = u := ⟨_, rfl⟩
  have hsz : t.size = n := by rw [← ht]; exact termT_size n p
  have hsz2 : u.size = n := by rw [← hu]; exact termT_size n q
  have hget : ∀ k (h : k < t.size), t[k] = letterT (p k) := fun k h => by subst ht; exact termT_get n p k (by omega)
  have hget2 : ∀ k (h : k < u.size), u[k] = letterT (q k) := fun k h => by subst hu; exact termT_get n q k (by omega)
  rw [ht, hu]
  have Hget := Lib.hid hget
  have Hget2 := Lib.hid hget2
  have hs1 : t.size ≤ n := by omega
  have hs2 : n ≤ t.size := by omega
  have hs3 : u.size ≤ n := by omega
  have hs4 : n ≤ u.size := by omega
  have hbad := Lib.hid (fun k (hk : k < n) (h : ((q k).isNone || p k == q k) = false) => show insTo p q n = false from by
    cases e : insTo p q n with
    | false => rfl
    | true =>
      have := (insTo_iff p q n).1 e k hk
      rw [Bool.or_eq_false_iff] at h
      rcases this with h2 | h2
      · rw [h2] at h; exact absurd h.1 (by decide)
      · rw [h2] at h; simp at h)
  clear ht hu hsz hsz2 hget hget2
  go_enter Tryd.func104, Tryd.ntmps104
  go_wp2_with fail
  go_loopw [5] (fun j wr => (∃ k : Nat, k ≤ n ∧ j = .int .i64 k ∧ insTo p q k = true) ∧ ∃ nq, wr = w.drewN nq) (fun j _ => n - (intOf j).toNat)
  case atStart => exact ⟨⟨0, Nat.zero_le _, rfl, rfl⟩, 0, rfl⟩
  case round =>
    obtain ⟨⟨k, hk, rfl, hto⟩, nq0, rfl⟩ := hrel
    have Hto := Lib.hid hto
    clear hto
    by_cases hlt : k < n
    · have hlt2 : k < t.size := by omega
      have hlt3 : k < u.size := by omega
      have hv := Hget.out k hlt2
      have hv' := Hget2.out k hlt3
      have hnx : insTo p q (k + 1) = (insTo p q k && ((q k).isNone || p k == q k)) := rfl
      rw [Hto.out, Bool.true_and] at hnx
      have hb := hbad.out k hlt
      rcases hp : p k with _ | _ | _ <;> rcases hq : q k with _ | _ | _ <;> rw [hp] at hv <;> rw [hq] at hv' <;> rw [hp, hq] at hnx hb
      all_goals
        simp only [letterT] at hv hv'
        have hv2 : (t[k].toNat : Int) = _ := congrArg (fun x : UInt8 => (x.toNat : Int)) hv
        have hv3 : (u[k].toNat : Int) = _ := congrArg (fun x : UInt8 => (x.toNat : Int)) hv'
        simp only [show ((42 : UInt8).toNat : Int) = 42 from rfl, show ((48 : UInt8).toNat : Int) = 48 from rfl, show ((49 : UInt8).toNat : Int) = 49 from rfl] at hv2 hv3
        have Hnx := Lib.hid hnx
        have Hb := Lib.hid hb
        clear hv hv' hnx hp hq hb
        go_wp2_with fail
        go_quiet (fail)
        go_wp2_with fail
        first
          | (go_roundw
             case rel => exact ⟨⟨k + 1, by omega, by go_num, Hnx.out⟩, _, rfl⟩
             case measure => simp [intOf] <;> omega)
          | exact ⟨⟨⟨k + 1, by omega, by go_num, Hnx.out⟩, _, rfl⟩, by simp [intOf] <;> omega⟩
          | (go_ret; exact ⟨below_drewN (Below.refl _ _) _, by rw [Hb.out rfl]; rfl⟩)
          | (go_ret; exact ⟨below_drewN (below_drewN (Below.refl _ _) _) _, by rw [Hb.out rfl]; rfl⟩)
    · obtain rfl : k = n := by omega
      go_wp2_with fail
      go_ret
      exact ⟨below_drewN (Below.refl _ _) _, by rw [Hto.out]; rfl⟩
/-- texts lie in a slice, from wherever in its block -/
structure TxR (w : World) (a : Option Addr) (xs : List ByteArray) : Prop where
  at' : 0 < xs.length → ∃ g o, a = some ⟨g, o, none⟩ ∧ g < w.heap.size ∧ ∀ j (h : j < xs.length), w.cell? ⟨g, o + j, none⟩ = some (.string xs[j])
theorem TxR.below {w w' : World} {a : Option Addr} {xs : List ByteArray} (h : TxR w a xs) {B : Nat} (hb : Below B w w') (hB : ∀ g o, a = some ⟨g, o, none⟩ → g < B) : TxR w' a xs := ⟨fun h0 => by
  obtain ⟨g, o, e, h1, h2⟩ := h.at' h0
  exact ⟨g, o, e, Nat.lt_of_lt_of_le h1 hb.size, fun j hj => (hb.cell (hB g o e)).trans (h2 j hj)⟩⟩
theorem TxR.step {w w' : World} {a : Option Addr} {xs : List ByteArray} (h : TxR w a xs) (hb : Below w.heap.size w w') : TxR w' a xs := ⟨fun h0 => by
  obtain ⟨g, o, e, h1, h2⟩ := h.at' h0
  exact ⟨g, o, e, Nat.lt_of_lt_of_le h1 hb.size, fun j hj => (hb.cell h1).trans (h2 j hj)⟩⟩
theorem TextsAt.txR {w : World} {B : Nat} {a : Option Addr} {xs : List ByteArray} (h : TextsAt w B a xs) : TxR w a xs := ⟨fun h0 => by
  obtain ⟨g, cur, t, h1, _, h3, _, h5⟩ := h.at' h0
  exact ⟨g, 0, h1, block_lt h3, fun j hj => by rw [cell_of_row w _ _ _ _ _ h3, Nat.zero_add]; exact h5 j hj⟩⟩
theorem TxR.lt {w : World} {a : Option Addr} {xs : List ByteArray} (h : TxR w a xs) (h0 : 0 < xs.length) : ∀ g o, a = some ⟨g, o, none⟩ → g < w.heap.size := fun g o e => by
  obtain ⟨g', o', e', h1, _⟩ := h.at' h0
  rw [e] at e'
  cases e'; exact h1
/-- the first place of a kind, or -1 -/
def findS (p : ByteArray → Bool) (xs : List ByteArray) : Int := match xs.findIdx? p with | some k => (k : Int) | none => -1
theorem findS_some {p : ByteArray → Bool} {cs : List ByteArray} {k : Nat} (hk : k < cs.length) (h : p cs[k] = true) (hb : ∀ j (hj : j < k), p (cs[j]'(by omega)) = false) : findS p cs = (k : Int) := by
  unfold findS
  rw [List.findIdx?_eq_some_iff_getElem.2 ⟨hk, h, fun j hj => by rw [hb j hj]; decide⟩]
theorem findS_none {p : ByteArray → Bool} {cs : List ByteArray} (hb : ∀ j (hj : j < cs.length), p cs[j] = false) : findS p cs = -1 := by
  unfold findS
  rw [List.findIdx?_eq_none_iff.2 fun x hx => by
    obtain ⟨j, hj, rfl⟩ := List.getElem_of_mem hx
    exact hb j hj]
theorem findS_cases (p : ByteArray → Bool) (cs : List ByteArray) : (findS p cs = -1 ∧ ∀ j (hj : j < cs.length), p cs[j] = false) ∨ ∃ k, ∃ hk : k < cs.length, findS p cs = (k : Int) ∧ p cs[k] = true ∧ ∀ j (hj : j < k), p (cs[j]'(by omega)) = false := by
  unfold findS
  cases h : cs.findIdx? p with
  | none =>
    rw [List.findIdx?_eq_none_iff] at h
    exact .inl ⟨rfl, fun j hj => h _ (List.getElem_mem hj)⟩
  | some k =>
    obtain ⟨hk, hp, hb⟩ := List.findIdx?_eq_some_iff_getElem.1 h
    exact .inr ⟨k, hk, rfl, hp, fun j hj => by simpa using hb j hj⟩
theorem findS_any (p : ByteArray → Bool) (cs : List ByteArray) : decide (0 ≤ findS p cs) = cs.any p := by
  rcases findS_cases p cs with ⟨h, hall⟩ | ⟨k, hk, h, hp, _⟩
  · have : cs.any p = false := by
      rw [List.any_eq_false]
      intro x hx
      obtain ⟨j, hj, rfl⟩ := List.getElem_of_mem hx
      rw [hall j hj]; decide
    rw [h, this]; decide
  · have : cs.any p = true := List.any_eq_true.2 ⟨_, List.getElem_mem hk, hp⟩
    rw [h, this, decide_eq_true_eq]; exact Int.natCast_nonneg k
end Go.Proofs.YtkfagolmpbbckaaDoor
