/- The program's questions about circuits: is there one of a sign? -/
import Derived.Test.YtkfagolmpbbckaaGreatDoorCk
namespace Go.Proofs.YtkfagolmpbbckaaGreatDoor
open Go Go.RowKit Go.Sw
set_option maxRecDepth 100000
set_option linter.unusedVariables false

theorem beq_ba (a b : ByteArray) : (a == b) = (a.data == b.data) := by cases a; cases b; rfl
theorem beq_texts (a b : ByteArray) : (a.toList == b.toList) = (b == a) := by
  rw [ByteArray.toList_eq, ByteArray.toList_eq, beq_ba, Bool.eq_iff_iff, beq_iff_eq, beq_iff_eq]
  exact ⟨fun h => (Array.toList_inj.1 h).symm, fun h => by rw [h]⟩
theorem isC_run (c : Nat) (sign : ByteArray) (h : 1 ≤ c ∧ c ≤ 3) : ((((signT c).toNat : Nat) : Int) == 42 || ((Utf8.encode (wrap32 ((signT c).toNat : Nat))).toList == sign.toList)) = isC c sign := by
  have e : ∀ b : UInt8, (b = 43 ∨ b = 45 ∨ b = 42) → Utf8.encode (wrap32 (b.toNat : Nat)) = bs [b] := by
    rintro b (rfl | rfl | rfl) <;> (apply ba_ext; decide +kernel)
  have : c = 1 ∨ c = 2 ∨ c = 3 := by omega
  unfold isC
  rw [e (signT c) (by rcases this with rfl | rfl | rfl <;> decide), beq_texts]
  rcases this with rfl | rfl | rfl <;> rfl
theorem is_any (N : Net) (way : List Nat) (g c : Nat) (sign : ByteArray) (hs : sign.size ≤ 1048576) (w : World) :
    Calls Tryz.prog 39 #[circV N way g c, .string sign] w fun e w' => Below w.heap.size w w' ∧ e = .returned (.bool (isC (circC N way) sign)) := by
  have hc := circC_le N way
  have hr := isC_run (circC N way) sign hc
  unfold circV
  generalize hsl : Value.slice (some ⟨g, 0, none⟩) way.length c = sl
  generalize hst : Value.int .i64 (setL way : Nat) = st
  generalize hct : circC N way = ct at hr ⊢
  generalize hb : isC ct sign = b at hr ⊢
  have Hr := Lib.hid hr
  clear hr hc hsl hst hct hb
  go_enter Tryz.func39, Tryz.ntmps39
  go_wp2_with fail
  all_goals
    go_ret
    refine ⟨(Below.refl _ _).alloc (Nat.le_refl _) _, ?_⟩
    have hr := Hr.out
    first
      | exact congrArg (fun b => Ending.returned (Value.bool b)) hr
      | (have hb : b = true := by rw [← hr]; simp_all
         rw [hb]; rfl)

/-- the first place of a kind, or -1 -/
def findC (p : List Nat → Bool) (cs : List (List Nat)) : Int := match cs.findIdx? p with | some k => (k : Int) | none => -1
theorem findC_some {p : List Nat → Bool} {cs : List (List Nat)} {k : Nat} (hk : k < cs.length) (h : p cs[k] = true) (hb : ∀ j (hj : j < k), p (cs[j]'(by omega)) = false) : findC p cs = (k : Int) := by
  unfold findC
  rw [List.findIdx?_eq_some_iff_getElem.2 ⟨hk, h, fun j hj => by rw [hb j hj]; decide⟩]
theorem findC_none {p : List Nat → Bool} {cs : List (List Nat)} (hb : ∀ j (hj : j < cs.length), p cs[j] = false) : findC p cs = -1 := by
  unfold findC
  rw [List.findIdx?_eq_none_iff.2 fun x hx => by
    obtain ⟨j, hj, rfl⟩ := List.getElem_of_mem hx
    exact hb j hj]
theorem findC_any (p : List Nat → Bool) (cs : List (List Nat)) : decide (0 ≤ findC p cs) = cs.any p := by
  unfold findC
  cases h : cs.findIdx? p with
  | none =>
    rw [List.findIdx?_eq_none_iff] at h
    have : cs.any p = false := by
      rw [List.any_eq_false]
      intro x hx
      rw [h x hx]; decide
    rw [this]; decide
  | some k =>
    obtain ⟨hk, hp, _⟩ := List.findIdx?_eq_some_iff_getElem.1 h
    have : cs.any p = true := List.any_eq_true.2 ⟨_, List.getElem_mem hk, hp⟩
    rw [this, decide_eq_true_eq]
    exact Int.natCast_nonneg k
theorem indexC_any (N : Net) (cs : List (List Nat)) (v : Value) (k : Nat) (cap : Array Value) (p : List Nat → Bool) (w : World) (hC : CircsAt w N v cs) (hl : cs.length ≤ 1000000)
    (hk : ∀ args w, (callFunc k args).run Tryz.prog w = .ok (.enter k args) w)
    (hcl : ∀ (way : List Nat) (g c : Nat) (wx : World), way ∈ cs → Below w.heap.size w wx → Calls Tryz.prog k (#[circV N way g c] ++ cap) wx fun e w' => Below wx.heap.size wx w' ∧ e = .returned (.bool (p way))) :
    Calls Tryz.prog 80 #[v, .func (.func k) #[] cap] w fun e w' => Below w.heap.size w w' ∧ e = .returned (.int .i64 (findC p cs)) := by
  obtain ⟨a0, c0, rfl⟩ := hC.slice
  have HC := Lib.hid hC
  have Hcl := Lib.hid hcl
  clear hcl hC
  go_enter Tryz.func80, Tryz.ntmps80
  go_wp2_with fail
  go_loopw [5, 8] (fun _ i wr => ∃ m : Nat, m ≤ cs.length ∧ i = .int .i64 m ∧ (∀ j (hj : j < cs.length), j < m → p cs[j] = false) ∧ Below w.heap.size w wr) (fun _ i _ => cs.length - (intOf i).toNat)
  case atStart => exact ⟨0, Nat.zero_le _, rfl, fun _ _ h => absurd h (Nat.not_lt_zero _), Below.refl _ _⟩
  case round =>
    obtain ⟨m, hm, rfl, hall, hW⟩ := hrel
    have Hall := Lib.hid hall
    clear hall
    by_cases hlt : m < cs.length
    · obtain ⟨q, c, g, c2, e, hq, hr, hcells⟩ := (HC.out.below hW).get hlt
      cases e
      have e0 : wr.cell? ⟨q, m * 3, none⟩ = some (.slice (some ⟨g, 0, none⟩) cs[m].length c2) := hcells 0 _ rfl
      have e1 : wr.cell? ⟨q, m * 3 + 1, none⟩ = some (.int .i64 (setL cs[m] : Nat)) := hcells 1 _ rfl
      have e2 : wr.cell? ⟨q, m * 3 + 2, none⟩ = some (.int .u8 (signT (circC N cs[m])).toNat) := hcells 2 _ rfl
      have c5 := Lib.hid (Hcl.out cs[m] g c2 wr (List.getElem_mem hlt) hW)
      clear hcells hr
      have hWs := hW.size
      cases hp : p cs[m]
      · have Hall2 := Lib.hid (show ∀ (j : Nat) (hj : j < cs.length), j < m + 1 → p cs[j] = false from fun j hj h => by
          by_cases e : j = m
          · subst e; exact hp
          · exact Hall.out j hj (by omega))
        rw [hp] at c5
        clear hp
        go_wp2_with fail
        refine c5.out.mono ?_
        rintro e w2 ⟨hW2, rfl⟩
        go_wp2_with fail
        go_roundw
        case rel => exact ⟨m + 1, by omega, by go_num, Hall2.out, hW.trans (hW2.mono hWs)⟩
        case measure => simp [intOf] <;> omega
      · have Hres := Lib.hid (findC_some hlt hp fun j hj => Hall.out j (by omega) hj)
        rw [hp] at c5
        clear hp
        go_wp2_with fail
        refine c5.out.mono ?_
        rintro e w2 ⟨hW2, rfl⟩
        go_wp2_with fail
        go_ret
        exact ⟨hW.trans (hW2.mono hWs), by rw [Hres.out]; rfl⟩
    · have Hres := Lib.hid (findC_none (p := p) (cs := cs) fun j hj => Hall.out j hj (by omega))
      go_wp2_with fail
      go_ret
      exact ⟨hW, by rw [Hres.out]; rfl⟩
theorem containsC_any (N : Net) (cs : List (List Nat)) (v : Value) (k : Nat) (cap : Array Value) (p : List Nat → Bool) (w : World) (hC : CircsAt w N v cs) (hl : cs.length ≤ 1000000)
    (hk : ∀ args w, (callFunc k args).run Tryz.prog w = .ok (.enter k args) w)
    (hcl : ∀ (way : List Nat) (g c : Nat) (wx : World), way ∈ cs → Below w.heap.size w wx → Calls Tryz.prog k (#[circV N way g c] ++ cap) wx fun e w' => Below wx.heap.size wx w' ∧ e = .returned (.bool (p way))) :
    Calls Tryz.prog 36 #[v, .func (.func k) #[] cap] w fun e w' => Below w.heap.size w w' ∧ e = .returned (.bool (cs.any p)) := by
  have c := indexC_any N cs v k cap p w hC hl hk hcl
  have hr := findC_any p cs
  obtain ⟨r, hr2⟩ : ∃ r, findC p cs = r := ⟨_, rfl⟩
  rw [hr2] at c hr
  have C := Lib.hid c
  have Hr := Lib.hid hr
  clear c hr hr2 hcl hC
  go_enter Tryz.func36, Tryz.ntmps36
  go_wp2_with fail
  refine C.out.mono ?_
  rintro e w2 ⟨hW2, rfl⟩
  go_wp2_with fail
  go_ret
  exact ⟨hW2, by rw [← Hr.out]; rfl⟩
theorem hasCircuit1_any (N : Net) (way : List Nat) (g c b : Nat) (sign : ByteArray) (hs : sign.size ≤ 1048576) (w : World) (hb : b < w.heap.size) (hc : w.cell? ⟨b, 0, none⟩ = some (.string sign)) :
    Calls Tryz.prog 38 #[circV N way g c, .pointer (some ⟨b, 0, none⟩)] w fun e w' => Below w.heap.size w w' ∧ e = .returned (.bool (isC (circC N way) sign)) := by
  have c1 := Lib.hid (fun wx => is_any N way g c sign hs wx)
  unfold circV at c1 ⊢
  go_enter Tryz.func38, Tryz.ntmps38
  go_wp2_with fail
  refine (c1.out _).mono ?_
  rintro e w2 ⟨hW2, rfl⟩
  go_wp2_with fail
  go_ret
  exact ⟨((Below.refl _ _).alloc (Nat.le_refl _) _).trans (hW2.mono (by simp)), rfl⟩
theorem hasB_no {w sign : ByteArray} (h : netOk w = false) : hasB w sign = false := by rw [hasB, h]; rfl
theorem plusB_eq (sign : ByteArray) : plusB sign = (sign.toList == [43] || sign.toList == [45]) := by
  unfold plusB
  rw [ByteArray.toList_eq, beq_ba, beq_ba, ← Array.beq_toList, ← Array.beq_toList]
theorem hasCircuit_impl (t sign : ByteArray) (w : World) (hs : t.size ≤ 1048576) (hs2 : sign.size ≤ 1048576) :
    Calls Tryz.prog 8 #[.string t, .string sign] w fun e w' => Below w.heap.size w w' ∧ e = .returned (.bool (hasB t sign)) := by
  have cR := Lib.hid (fun wx => readNetwork_any t wx hs)
  have hpl := plusB_eq sign
  cases hok0 : netOk t
  · have hr : hasB t sign = false := by rw [hasB, hok0]; rfl
    rw [hr]
    have Hok := Lib.hid hok0
    clear hr hok0 hpl
    go_enter Tryz.func8, Tryz.ntmps8
    go_wp2_with fail
    refine (cR.out _).mono ?_
    rintro e w1 ⟨hW1, ⟨hbad, rfl⟩ | ⟨hok, b, cap, rfl, hb1, hb2, hat⟩⟩
    · clear hbad
      go_wp2_with fail
      go_ret
      exact ⟨((Below.refl _ _).alloc (Nat.le_refl _) _).trans (hW1.mono (by simp)), rfl⟩
    · rw [Hok.out] at hok; cases hok
  · have hn := netOf_ok hok0
    have hr : hasB t sign = (plusB sign && (circL (netOf t)).any fun c => isC (circC (netOf t) c) sign) := by rw [hasB, hok0]; rfl
    obtain ⟨N, hN⟩ : ∃ N, netOf t = N := ⟨_, rfl⟩
    rw [hN] at hr hn cR
    have Hok := Lib.hid hok0
    cases hp : plusB sign
    · rw [hp] at hr hpl
      rw [hr]
      have hpl2 := hpl.symm
      rw [Bool.or_eq_false_iff] at hpl2
      obtain ⟨h43, h45⟩ := hpl2
      clear hr hok0 hpl hp hN
      go_enter Tryz.func8, Tryz.ntmps8
      go_wp2_with fail
      refine (cR.out _).mono ?_
      rintro e w1 ⟨hW1, ⟨hbad, rfl⟩ | ⟨hok, b, cap, rfl, hb1, hb2, hat⟩⟩
      · rw [Hok.out] at hbad; cases hbad
      · have hB := ((Below.refl w.heap.size w).alloc (Nat.le_refl _) (.cells #[.string sign] 9)).trans (hW1.mono (by simp))
        have hcell : w1.cell? ⟨w.heap.size, 0, none⟩ = some (.string sign) := by
          rw [hW1.cell (by simp)]; exact cell_new rfl
        clear hat hok
        go_wp2_with fail
        go_ret
        exact ⟨hB, rfl⟩
    · rw [hp, Bool.true_and] at hr
      rw [hp] at hpl
      have h4 : (sign.toList == [43]) = true ∨ ((sign.toList == [43]) = false ∧ (sign.toList == [45]) = true) := by
        cases h1 : (sign.toList == [43])
        · exact .inr ⟨rfl, by rw [h1, Bool.false_or] at hpl; exact hpl.symm⟩
        · exact .inl rfl
      have Hr := Lib.hid hr
      clear hr hok0 hpl hp hN
      rcases h4 with h43 | ⟨h43, h45⟩
      all_goals
        go_enter Tryz.func8, Tryz.ntmps8
        go_wp2_with fail
        refine (cR.out _).mono ?_
        rintro e w1 ⟨hW1, ⟨hbad, rfl⟩ | ⟨hok, b, cap, rfl, hb1, hb2, hat⟩⟩
        · rw [Hok.out] at hbad; cases hbad
        · have hB := ((Below.refl w.heap.size w).alloc (Nat.le_refl _) (.cells #[.string sign] 9)).trans (hW1.mono (by simp))
          have hcell : w1.cell? ⟨w.heap.size, 0, none⟩ = some (.string sign) := by
            rw [hW1.cell (by simp)]; exact cell_new rfl
          have Hcell := Lib.hid hcell
          have cC := Lib.hid (circuits_any b cap N hn.2 w1 hat hb2)
          clear hat hok
          have hlt : w.heap.size < w1.heap.size := by have := hW1.size; simp at this; omega
          go_wp2_with fail
          refine cC.out.mono ?_
          rintro e w2 ⟨hW2, v, rfl, hC⟩
          have hs12 := hW2.size
          have c5 := Lib.hid (containsC_any N (circL N) v 38 #[.pointer (some ⟨w.heap.size, 0, none⟩)] (fun c => isC (circC N c) sign) w2 hC (Nat.le_trans (circL_length hn.2) (by omega)) (enters_fn Tryz.func38 (by kernel_rfl) rfl) (fun way g c wx _ hx =>
            hasCircuit1_any N way g c w.heap.size sign hs2 wx (by have := hx.size; omega) (by rw [hx.cell (by show w.heap.size < w2.heap.size; omega), hW2.cell (by show w.heap.size < w1.heap.size; omega)]; exact Hcell.out)))
          have hB2 := hB.trans (hW2.mono hB.size)
          clear hC
          go_wp2_with fail
          refine c5.out.mono ?_
          rintro e w3 ⟨hW3, rfl⟩
          go_wp2_with fail
          go_ret
          exact ⟨hB2.trans (hW3.mono hB2.size), by rw [Hr.out]; rfl⟩
end Go.Proofs.YtkfagolmpbbckaaGreatDoor
