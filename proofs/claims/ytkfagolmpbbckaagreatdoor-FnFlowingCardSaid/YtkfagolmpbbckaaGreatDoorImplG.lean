/- The program's traps. -/
import Derived.Test.YtkfagolmpbbckaaGreatDoorImplF
import Derived.ArgAppend
import Derived.Deep.Onto
namespace Go.Proofs.YtkfagolmpbbckaaGreatDoor
open Go Go.RowKit Go.Sw
set_option maxRecDepth 100000
set_option linter.unusedVariables false

theorem ints_cell {w : World} {B : Nat} {a : Option Addr} {L : List Nat} (h : IntsAt w B a (natI L)) {k : Nat} (hk : k < L.length) : ∃ g, a = some ⟨g, 0, none⟩ ∧ g < w.heap.size ∧ w.cell? ⟨g, k, none⟩ = some (.int .i64 (L[k] : Nat)) := by
  obtain ⟨g, cur, tt, e, hB, hc, hcs, hj⟩ := h.at' (by rw [natI_length]; omega)
  exact ⟨g, e, block_lt hc, by rw [cell_of_row w _ _ _ _ _ hc, hj k (by rw [natI_length]; exact hk), natI_get]⟩
theorem statesP_length (n : Nat) (p : Trm) : (statesP n p).length ≤ pw n := statesTo_length n p (pw n)

/-- a list of numbers: a full slice, or a row of the call's own -/
def OnRow (w : World) (base : Nat) (v : Value) (xs : List Int) : Prop :=
  (∃ g, v = .slice (some ⟨g, 0, none⟩) xs.length xs.length ∧ g < w.heap.size ∧ ∀ j (h : j < xs.length), w.cell? ⟨g, j, none⟩ = some (.int .i64 xs[j])) ∨ w.ownsRow base 3 1 v xs.length (ints xs)
theorem OnRow.below {w w' : World} {base : Nat} {v : Value} {xs : List Int} (h : OnRow w base v xs) (hb : Below w.heap.size w w') : OnRow w' base v xs := by
  rcases h with ⟨g, h1, h2, h3⟩ | h
  · exact .inl ⟨g, h1, Nat.lt_of_lt_of_le h2 hb.size, fun j hj => by rw [hb.cell h2]; exact h3 j hj⟩
  · exact .inr (own_below h hb)
/-- append of a number to such a list -/
theorem wpList_int_on {ops : Array Oper} {rest : List Oper} {o : Oper} {a : Act} {w : World} {Q : Exit → Act → World → Prop} (hgd : o.guard = none) (s x : Operand)
    (ho : o.op = .call { callee := .builtin .append, args := #[s, x], argTypes := #[27, 27] })
    (base : Nat) (v : Value) (xs : List Int) (hs : a.eval s = v) (hon : OnRow w base v xs)
    (b : Nat) (p : Int) (hx : a.eval x = .slice (some ⟨b, 0, none⟩) 1 1) (hc : w.cell? ⟨b, 0, none⟩ = some (.int .i64 p)) (hk : xs.length ≤ 4000000) {B : Nat} {w0 : World} (hW : Below B w0 w) (hB : B ≤ base) (hB0 : base ≤ w.heap.size)
    (h : ∀ v' w', w'.ownsRow base 3 1 v' (xs ++ [p]).length (ints (xs ++ [p])) → Below B w0 w' → wpList Tryz.prog ops Q rest (a.put o.dst v') w') : wpList Tryz.prog ops Q (o :: rest) a w := by
  have hc1 : ∀ j u, [Value.int .i64 p][j]? = some u → w.cell? ((⟨b, 0, none⟩ : Addr).add j) = some u := fun j u hu => by
    rcases j with _ | j
    · simp at hu; subst hu; simpa [Addr.add] using hc
    · simp at hu
  rcases hon with ⟨g, rfl, h2, h3⟩ | hown
  · obtain ⟨i0, hi, hz0, hz1, hz2⟩ := info_parts int_row
    refine wpList_append_grows w hgd s x 27 ho 3 i0 (.int .i64 0) 1 8 Tryz.underlying27 hi hz0 hz1 hz2 rfl (by decide) (some ⟨g, 0, none⟩) xs.length xs.length (ints xs) hs (fun e => by cases e) (by rw [ints_length]; omega)
      (fun b' hb' j u hu => by
        cases hb'
        rw [Addr.add_mid, Nat.zero_add]
        obtain ⟨hj, rfl⟩ := List.getElem?_eq_some_iff.1 hu
        rw [ints_length] at hj
        rw [h3 j hj]; simp [ints]) ⟨b, 0, none⟩ 1 1 [.int .i64 p] hx rfl hc1 (fun u hu => by simp at hu; subst hu; rfl) (by omega) (by unfold maxLen; omega) (by omega) ?_
    intro v' w' h1 h4
    refine h v' w' (by rw [ints_snoc, List.length_append]; exact h1.mono hB0) (hW.grown h4 (by omega) fun q hq => by cases hq)
  · exact wpList_int_append hgd s x ho base v xs hs hown b p hx hc hk hW hB hB0 h


theorem termOf_yes (t u : ByteArray) (w : World) (hs : t.size ≤ 1048576) (hu : u.size ≤ 1048576) (h : termOk t u = true) :
    Calls Tryz.prog 68 #[.string t, .string u] w fun e w' => Below w.heap.size w w' ∧
      ∃ b cap, e = .returned (.tuple #[.slice (some ⟨b, 0, none⟩) (netOf t).n cap, .bool true]) ∧ w.heap.size ≤ b ∧ b < w'.heap.size ∧ NetAt w' b (netOf t).n (netOf t).f := by
  unfold termOk at h
  rw [Bool.and_eq_true] at h
  have hn := netOf_ok h.1
  have c := fun wx => termValid_any u (netOf t).n hn.1 hn.2 hu wx
  rw [h.2] at c
  have C := Lib.hid c
  have Hok := Lib.hid h.1
  have cR := Lib.hid (readNetwork_any t w hs)
  clear c h
  go_enter Tryz.func68, Tryz.ntmps68
  go_wp2_with fail
  refine cR.out.mono ?_
  rintro e w1 ⟨hW1, ⟨hbad, rfl⟩ | ⟨hok, b, cap, rfl, hb1, hb2, hat⟩⟩
  · rw [Hok.out] at hbad; cases hbad
  · have Hat := Lib.hid hat
    clear hat hok
    go_wp2_with (go_at_call 113; refine (C.out _).mono ?_; rintro e w' ⟨rfl, rfl⟩)
    go_ret2
    exact ⟨hW1, b, cap, rfl, hb1, hb2, Hat.out⟩
theorem termOf_no (t u : ByteArray) (w : World) (hs : t.size ≤ 1048576) (hu : u.size ≤ 1048576) (h : termOk t u = false) :
    Calls Tryz.prog 68 #[.string t, .string u] w fun e w' => Below w.heap.size w w' ∧ ∃ v, e = .returned (.tuple #[v, .bool false]) := by
  have cR := Lib.hid (readNetwork_any t w hs)
  have H := Lib.hid h
  clear h
  go_enter Tryz.func68, Tryz.ntmps68
  go_wp2_with fail
  refine cR.out.mono ?_
  rintro e w1 ⟨hW1, ⟨hbad, rfl⟩ | ⟨hok, b, cap, rfl, hb1, hb2, hat⟩⟩
  · clear hbad
    go_wp2_with fail
    go_ret2
    exact ⟨hW1, _, rfl⟩
  · have hn := netOf_ok hok
    have hbad : termB u (netOf t).n = false := by
      have := H.out
      unfold termOk at this
      rwa [hok, Bool.true_and] at this
    have c := fun wx => termValid_any u (netOf t).n hn.1 hn.2 hu wx
    rw [hbad] at c
    have C := Lib.hid c
    clear hat hok hbad c
    go_wp2_with (go_at_call 113; refine (C.out _).mono ?_; rintro e w' ⟨rfl, rfl⟩)
    go_ret2
    exact ⟨hW1, _, rfl⟩

/-- how far the closing of a term has come -/
def CloseSt (N : Net) (p0 : Trm) (g : Nat) (p : Trm) : Prop := closeP (N.n + 1) N p0 = closeP g N p ∧ N.n + 1 ≤ g + starN N.n p
theorem CloseSt.zero (N : Net) (p : Trm) : CloseSt N p (N.n + 1) p := ⟨rfl, by omega⟩
theorem CloseSt.next {N : Net} {p0 p : Trm} {g : Nat} (h : CloseSt N p0 g p) (ht : trapP N p = false) : 0 < g ∧ CloseSt N p0 (g - 1) (nextP N p) := by
  have h1 := starN_grows ht
  have h2 := starN_le N.n (nextP N p)
  obtain ⟨a1, a2⟩ := h
  obtain ⟨f, rfl⟩ : ∃ f, g = f + 1 := ⟨g - 1, by omega⟩
  rw [closeP_step ht] at a1
  exact ⟨by omega, a1, by omega⟩
theorem CloseSt.stop {N : Net} {p0 p : Trm} {g : Nat} (h : CloseSt N p0 g p) (ht : trapP N p = true) : closeP (N.n + 1) N p0 = p := by
  rw [h.1, closeP_done ht]

/-- some states, and the steps of the first k of them -/
def stepsL (N : Net) (L : List Nat) (k : Nat) : List Nat := L ++ (L.take k).map (stepN N)
theorem stepsL_zero (N : Net) (L : List Nat) : stepsL N L 0 = L := by simp [stepsL]
theorem stepsL_succ (N : Net) (L : List Nat) (k : Nat) (h : k < L.length) : stepsL N L (k + 1) = stepsL N L k ++ [stepN N L[k]] := by
  unfold stepsL
  rw [List.take_succ_eq_append_getElem h, List.map_append, List.append_assoc, List.map_singleton]
theorem stepsL_length (N : Net) (L : List Nat) (k : Nat) (h : k ≤ L.length) : (stepsL N L k).length = L.length + k := by
  unfold stepsL
  rw [List.length_append, List.length_map, List.length_take, Nat.min_eq_left h]

end Go.Proofs.YtkfagolmpbbckaaGreatDoor
