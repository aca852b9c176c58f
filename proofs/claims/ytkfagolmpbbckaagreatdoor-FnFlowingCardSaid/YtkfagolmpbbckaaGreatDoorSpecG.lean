/- The statement's circuits: all of them, in order. -/
import Derived.Test.YtkfagolmpbbckaaGreatDoorSpecF
import Derived.Test.YtkfagolmpbbckaaGreatDoorSpec7
import Derived.Test.YtkfagolmpbbckaaGreatDoorP1
import Derived.Test.YtkfagolmpbbckaaGreatDoorImplD
import Derived.Test.YtkfagolmpbbckaaGreatDoorSx
import Derived.Deep.DeepCutAuto
namespace Go.Proofs.YtkfagolmpbbckaaGreatDoor
open Go Go.RowKit Go.Sw
set_option maxRecDepth 100000
set_option linter.unusedVariables false

/-- the text of a way -/
def digW (way : List Nat) : ByteArray := bs (digT way)
theorem digW_size (way : List Nat) : (digW way).size = way.length := by
  show (bs (digT way)).data.size = _
  rw [← Array.length_toList, bs_data]; simp [digT]
theorem digW_at (way : List Nat) (k : Nat) (hk : k < (digW way).size) : (digW way)[k] = UInt8.ofNat (48 + way.getD k 0) := by
  rw [← Sw.byte_at (digW way) k hk]
  have hl : k < way.length := by rw [← digW_size]; exact hk
  simp only [digW, bs_data, digT, List.getElem_map]
  rw [List.getD_eq_getElem?_getD, List.getElem?_eq_getElem hl]; rfl
theorem digW_snoc (way : List Nat) (k : Nat) : digW way ++ decT k = digW (way ++ [k]) := by
  apply ba_ext
  simp [digW, decT, ByteArray.data_append, bs_data, digT]
theorem digW_one (k : Nat) : decT k = digW [k] := rfl
theorem digW_close (N : Net) (way : List Nat) : digW way ++ bs [signT (circC N way)] = circT N way := by
  apply ba_ext
  simp [digW, circT, ByteArray.data_append, bs_data]
theorem sign_cut (c : Nat) (h1 : 1 ≤ c) (h2 : c ≤ 3) : (⟨#[48, 43, 45, 42]⟩ : ByteArray).extract c (c + 1) = bs [signT c] := by
  have : c = 1 ∨ c = 2 ∨ c = 3 := by omega
  rcases this with rfl | rfl | rfl <;> (apply ba_ext; rfl)
theorem dig_inj {a b : Nat} (ha : a < 10) (hb : b < 10) (h : UInt8.ofNat (48 + a) = UInt8.ofNat (48 + b)) : a = b := by
  have := congrArg UInt8.toNat h
  simp only [UInt8.toNat_ofNat'] at this
  omega
theorem digW_has {way : List Nat} (hw : ∀ j ∈ way, j < 10) {k : Nat} (hk : k < 10) : decide (findI (digW way) (UInt8.ofNat (48 + k)) < 0) = !way.contains k := by
  rw [findI_neg]
  congr 1
  show (bs (digT way)).data.toList.contains _ = _
  rw [bs_data, Bool.eq_iff_iff]
  simp only [digT, List.contains_eq_mem, decide_eq_true_eq, List.mem_map]
  exact ⟨fun ⟨j, hj, e⟩ => by rw [← dig_inj (hw j hj) hk e]; exact hj, fun h => ⟨k, h, rfl⟩⟩

theorem wpList_slice' {P : Program} {ops : Array Oper} {rest : List Oper} {o : Oper} {a : Act} {w w' : World} {Q : Exit → Act → World → Prop} {v : Value} (hg : o.guard = none) (t : TypeId) (x lo hi : Operand) (ho : o.op = .slice t x (some lo) (some hi) none) {px pl ph : Value} (hx : a.eval x = px) (hl : a.eval lo = pl) (hh : a.eval hi = ph)
    (hr : (Instr.sliceAt t px (some pl) (some ph) none).run P w = .ok v w') (h : wpList P ops Q rest (a.put o.dst v) w') : wpList P ops Q (o :: rest) a w :=
  wpList_val hg (by subst hx; subst hl; subst hh; unfold execOp; simp only [ho, Option.map_some, Option.map_none, Sem.run_bind, Sem.run_pure, Result.andThen_ok, hr]) h
theorem own_pos_ne {w : World} {base e size n : Nat} {v : Value} {xs : List Value} (h : w.ownsRow base e size v n xs) (hn : 0 < n) : v ≠ .slice none 0 0 := by
  rcases h.2 with ⟨_, hz⟩ | ⟨g, cap, cur, rfl, _⟩
  · omega
  · intro e; cases e
/-- append of a list of texts to a list of texts that the call owns -/
theorem wpList_texts_append {ops : Array Oper} {rest : List Oper} {o : Oper} {a : Act} {w : World} {Q : Exit → Act → World → Prop} (hgd : o.guard = none) (s x : Operand)
    (ho : o.op = .call { callee := .builtin .append, args := #[s, x], argTypes := #[31, 31] })
    (base : Nat) (v : Value) (xs : List ByteArray) (hs : a.eval s = v) (hown : w.ownsRow base 9 1 v xs.length (texts xs)) (hv : v ≠ .slice none 0 0)
    (b2 : Nat) (u : Value) (ys : List ByteArray) (hx : a.eval x = u) (hown2 : w.ownsRow b2 9 1 u ys.length (texts ys)) (hu : u ≠ .slice none 0 0) (hk : xs.length + ys.length ≤ 4000000) {B : Nat} {w0 : World} (hW : Below B w0 w) (hB : B ≤ base) (hB0 : base ≤ w.heap.size)
    (h : ∀ v' w', w'.ownsRow base 9 1 v' (xs ++ ys).length (texts (xs ++ ys)) → v' ≠ .slice none 0 0 → Below B w0 w' → wpList Tryz.prog ops Q rest (a.put o.dst v') w') : wpList Tryz.prog ops Q (o :: rest) a w := by
  obtain ⟨i0, hi, hz0, hz1, hz2⟩ := info_parts str_row
  have hlen : (texts ys).length = ys.length * 1 := by rw [texts_length]; omega
  rcases hown2.2 with ⟨rfl, _⟩ | ⟨g, cap, cur, rfl, _, hg, h1, h2, h3, h4⟩
  · exact absurd rfl hu
  · refine wpList_append_own_at w hgd s x 31 ho base 9 i0 (.string ByteArray.empty) 1 16 Tryz.underlying31 hi hz0 hz1 hz2 rfl (by decide) v xs.length (texts xs) hs hown ⟨g, 0, none⟩ ys.length cap (texts ys) hx hlen
      (fun j y hy => by
        obtain ⟨hj, _⟩ := List.getElem?_eq_some_iff.1 hy
        rw [Addr.add_mid, Nat.zero_add, cell_of_row w _ _ _ _ _ hg]
        rw [← h4, List.getElem?_take, if_pos (by rw [texts_length] at hj; omega)] at hy
        simpa using hy)
      (fun y hy => by
        obtain ⟨t, _, rfl⟩ := List.mem_map.1 hy
        rfl) (by unfold maxLen; omega) (by omega) hB0 ?_
    intro v' w' h5 h6 h7 _
    have happ : texts (xs ++ ys) = texts xs ++ texts ys := by simp [texts]
    exact h v' w' (by rw [happ, List.length_append]; exact h5) (fun e => hv (h7.1 e).1) (hW.grown h6 (by omega) fun q hq => Nat.le_trans hB (own_ge hown hq))

theorem l7Times_any (a b : Nat) (ha : a ≤ 3) (hb : b ≤ 3) (w : World) :
    Calls Tryz.prog 141 #[.int .i64 a, .int .i64 b] w fun e w' => e = .returned (.int .i64 (timesC a b : Nat)) ∧ w' = w := by
  have ha' : a = 0 ∨ a = 1 ∨ a = 2 ∨ a = 3 := by omega
  have hb' : b = 0 ∨ b = 1 ∨ b = 2 ∨ b = 3 := by omega
  rcases ha' with rfl | rfl | rfl | rfl <;> rcases hb' with rfl | rfl | rfl | rfl <;> (
    go_enter Tryz.func141, Tryz.ntmps141
    go_wp2_with fail
    go_ret
    exact ⟨rfl, rfl⟩)

/-- the circuits told so far by a walk, and their texts -/
def partS (N : Net) (f : Nat) (way : List Nat) (k : Nat) : List (List Nat) := (if closeB N way && decide (headN way < k) then [way] else []) ++ subW N f way k
def txS (N : Net) (f : Nat) (way : List Nat) (k : Nat) : List ByteArray := (partS N f way k).map (circT N)
def txW (N : Net) (f : Nat) (way : List Nat) : List ByteArray := (walkL N f way).map (circT N)
theorem txS_start (N : Net) (f : Nat) (way : List Nat) : txS N f way (headN way) = [] := by
  unfold txS partS
  rw [subW_low (by omega), decide_eq_false (by omega), Bool.and_false]; rfl
theorem txS_none {N : Net} {f : Nat} {way : List Nat} {k : Nat} (hk : headN way ≤ k) (h : edgeC N (lastN way) k = 0) : txS N f way (k + 1) = txS N f way k := by
  have hi : infB N (lastN way) k = false := by rw [edgeC_inf, h]; rfl
  unfold txS partS
  rw [subW_no (by unfold goesB; rw [hi]; simp)]
  by_cases e : k = headN way
  · subst e
    have hc : closeB N way = false := hi
    rw [hc]; rfl
  · rw [decide_eq_true (show headN way < k + 1 by omega), decide_eq_true (show headN way < k by omega)]
theorem txS_close {N : Net} {f : Nat} {way : List Nat} (h : 0 < edgeC N (lastN way) (headN way)) : txS N f way (headN way + 1) = txS N f way (headN way) ++ [circT N way] := by
  have hc : closeB N way = true := by unfold closeB; rw [edgeC_inf]; exact decide_eq_true h
  rw [txS_start]
  unfold txS partS
  rw [subW_low (by omega), decide_eq_true (by omega), hc]; rfl
theorem txS_sub {N : Net} {f : Nat} {way : List Nat} {k : Nat} (hk : headN way < k) (h : 0 < edgeC N (lastN way) k) (hc : way.contains k = false) : txS N f way (k + 1) = txS N f way k ++ txW N f (way ++ [k]) := by
  have hi : infB N (lastN way) k = true := by rw [edgeC_inf]; exact decide_eq_true h
  unfold txS partS txW
  rw [subW_yes (by unfold goesB; rw [hi, hc, decide_eq_true hk]; rfl), decide_eq_true (show headN way < k + 1 by omega), decide_eq_true hk, ← List.append_assoc, List.map_append]
theorem txS_skip {N : Net} {f : Nat} {way : List Nat} {k : Nat} (hk : headN way < k) (hc : way.contains k = true) : txS N f way (k + 1) = txS N f way k := by
  unfold txS partS
  rw [subW_no (by unfold goesB; rw [hc]; simp), decide_eq_true (show headN way < k + 1 by omega), decide_eq_true hk]
theorem txS_end {N : Net} {f : Nat} {way : List Nat} (h : headN way < N.n) : txS N f way N.n = txW N (f + 1) way := by
  unfold txS partS txW
  rw [walkL_succ, decide_eq_true h, Bool.and_true]
theorem txS_length {N : Net} (hn : N.n ≤ 5) (f : Nat) (way : List Nat) (k : Nat) : (txS N f way k).length ≤ 1 + k * 6 ^ f := by
  unfold txS partS
  rw [List.length_map, List.length_append]
  have := subW_length hn f way k
  have h1 : (if (closeB N way && decide (headN way < k)) = true then [way] else []).length ≤ 1 := by split <;> simp
  omega
theorem txW_length {N : Net} (hn : N.n ≤ 5) (f : Nat) (way : List Nat) : (txW N f way).length ≤ 6 ^ f := by
  unfold txW
  rw [List.length_map]; exact walkL_length hn f way

set_option maxHeartbeats 4000000 in
theorem l7Walk_any (b cap : Nat) (N : Net) (hn : N.n ≤ 5) (f : Nat) : ∀ (way : List Nat) (w : World), WayOk N way → way.length + f = N.n + 1 → StrsAt w b (netTexts N) → b < w.heap.size →
    Calls Tryz.prog 111 #[.slice (some ⟨b, 0, none⟩) N.n cap, .string (digW way), .int .i64 (wayC N way : Nat)] w fun e w' => Below w.heap.size w w' ∧ ∃ v, e = .returned v ∧ v ≠ .slice none 0 0 ∧ w'.ownsRow w.heap.size 9 1 v (txW N f way).length (texts (txW N f way)) := by
  induction f with
  | zero =>
    intro way w hway hlen
    have := hway.length; omega
  | succ f ih =>
    intro way w hway hlen hat hb
    have hwl := hway.length
    have hhead := hway.head
    have hlast := hway.last
    have hne := hway.1
    have hlp : 0 < way.length := List.length_pos_iff.2 hne
    have hsz := digW_size way
    have hAt := digW_at way
    have hgL : way.getD (way.length - 1) 0 = lastN way := getD_last hne
    have hg0 : way.getD 0 0 = headN way := getD_head
    have hwc := wayC_le N way
    have hend := txS_end (f := f) hhead
    have hdig : ∀ k, k < 10 → decide (findI (digW way) (UInt8.ofNat (48 + k)) < 0) = !way.contains k := fun k hk => digW_has (fun j hj => by have := (hway.2.2 j hj).1; omega) hk
    have hsnoc : ∀ k, digW way ++ decT k = digW (way ++ [k]) := digW_snoc way
    have hclose := digW_close N way
    have hcirc : circC N way = timesC (wayC N way) (edgeC N (lastN way) (headN way)) := rfl
    have hstart := txS_start N f way
    have hwsn : ∀ k, wayC N (way ++ [k]) = timesC (wayC N way) (edgeC N (lastN way) k) := fun k => wayC_snoc N hne k
    obtain ⟨t, ht⟩ : ∃ t, digW way = t := ⟨_, rfl⟩
    obtain ⟨hd, hhd⟩ : ∃ hd, headN way = hd := ⟨_, rfl⟩
    obtain ⟨la, hla⟩ : ∃ la, lastN way = la := ⟨_, rfl⟩
    obtain ⟨p, hp⟩ : ∃ p, wayC N way = p := ⟨_, rfl⟩
    rw [ht] at hsz hdig hclose ⊢
    have hc0 : ∀ (h : 0 < t.size), t[0].toNat = 48 + hd := fun h => by
      subst ht
      rw [digW_at way 0 h, hg0, hhd, UInt8.toNat_ofNat']; omega
    have hcL : ∀ (h : t.size - 1 < t.size), t[t.size - 1].toNat = 48 + la := fun h => by
      subst ht
      rw [digW_at way _ h, digW_size, hgL, hla, UInt8.toNat_ofNat']; omega
    rw [hp] at hwc hcirc ⊢
    have hla' : la < N.n := by rw [← hla]; exact hlast
    have hhd' : hd < N.n := by rw [← hhd]; exact hhead
    have cS := Lib.hid (fun k (hk : k < N.n) wx (hx : Below w.heap.size w wx) => by
      have c := l7Sign_any b cap N hn la k hla' hk wx (hat.below hx hb)
      rw [edgeC_sg] at c
      exact c)
    have cT := Lib.hid (fun k wx => l7Times_any p (edgeC N la k) hwc.2 (edgeC_le N la k) wx)
    have cD := Lib.hid (fun k (hk : k < N.n) wx => l14Dec_any k (by omega) wx)
    have cF := Lib.hid (fun k (hk : k < N.n) wx => by
      have c := l14Find_any t (UInt8.ofNat (48 + k)) (by omega) wx
      rw [show (((UInt8.ofNat (48 + k)).toNat : Nat) : Int) = 48 + (k : Int) by rw [UInt8.toNat_ofNat']; omega] at c
      exact c)
    have hsub : ∀ k, k < N.n → goesB N way k = true → ∀ wx, Below w.heap.size w wx → Calls Tryz.prog 111 #[.slice (some ⟨b, 0, none⟩) N.n cap, .string (t ++ decT k), .int .i64 (timesC p (edgeC N la k) : Nat)] wx fun e w' => Below wx.heap.size wx w' ∧ ∃ v, e = .returned v ∧ v ≠ .slice none 0 0 ∧ w'.ownsRow wx.heap.size 9 1 v (txW N f (way ++ [k])).length (texts (txW N f (way ++ [k]))) := by
      intro k hk hg wx hx
      have c := ih (way ++ [k]) wx (hway.snoc hk hg) (by simp; omega) (hat.below hx hb) (Nat.lt_of_lt_of_le hb hx.size)
      rw [hwsn k, hp, hla, ← hsnoc k, ht] at c
      exact c
    have Hsub := Lib.hid hsub
    have Hway := Lib.hid hway
    have Hdig := Lib.hid hdig
    have Hclose := Lib.hid hclose
    have Hcirc := Lib.hid hcirc
    have Hend := Lib.hid hend
    have Hhd := Lib.hid hhd
    have Hla := Lib.hid hla
    have Hstart := Lib.hid hstart
    have hpw6 : 6 ^ f ≤ 6 ^ 5 := Nat.pow_le_pow_right (by omega) (by omega)
    have hpw7 : 6 ^ f ≤ 7776 := hpw6
    have hi0 : (0 : Int) < (t.size : Int) := by omega
    have hi1 : ((t.size : Int) - 1) = ((t.size - 1 : Nat) : Int) := by omega
    have hi2 : ((t.size - 1 : Nat) : Int) < (t.size : Int) := by omega
    have hpos : 0 < t.size := by omega
    have hposL : t.size - 1 < t.size := by omega
    have hc0' := hc0 hpos
    have hcL' := hcL hposL
    have ht5 : t.size ≤ 5 := by omega
    have haL : (48 + (la : Int) - 48) = (la : Int) := by omega
    have haH : (48 + (hd : Int) - 48) = (hd : Int) := by omega
    have Hsz := Lib.hid hsz
    clear hsz
    clear ih hway hat hwl hhead hlast hne hAt hgL hg0 hend hsnoc hstart hwsn hclose hdig ht hhd hla hp hcirc hsub hpw6 hc0 hcL
    go_enter Tryz.func111, Tryz.ntmps111
    go_wp2_with ((with_reducible show wpList _ _ _ (⟨_, .buildSlice 31 0 _, _, _, _, _⟩ :: _) _ _); refine wpList_buildSlice' rfl _ _ _ rfl rfl (str_none _) ?_)
    have hmade : (w.alloc (.cells #[] 9)).ownsRow w.heap.size 9 1 (.slice (some ⟨w.heap.size, 0, none⟩) 0 0) 0 [] := World.ownsRow_made w #[] 0 (Nat.le_refl _) (by unfold maxLen; omega) rfl
    have Hmade := Lib.hid hmade
    clear hmade
    go_loopw [7, 10, 11, 12] (fun out j _ _ wr => ∃ k : Nat, hd ≤ k ∧ k ≤ N.n ∧ j = .int .i64 k ∧ out ≠ .slice none 0 0 ∧ wr.ownsRow w.heap.size 9 1 out (txS N f way k).length (texts (txS N f way k)) ∧ Below w.heap.size w wr) (fun _ j _ _ _ => N.n - (intOf j).toNat)
    case atStart => exact ⟨hd, Nat.le_refl _, by omega, rfl, (fun e => by cases e), by
        have h0 := Hstart.out
        rw [Hhd.out] at h0
        rw [h0]; exact Hmade.out, (Below.refl _ _).alloc (Nat.le_refl _) _⟩
    case round =>
      obtain ⟨k, hk1, hk2, rfl, hnil, hown, hW⟩ := hrel
      have Hown := Lib.hid hown
      have Hnil := Lib.hid hnil
      have hl1 := txS_length hn f way k
      have hl2 : k * 6 ^ f ≤ 5 * 6 ^ f := Nat.mul_le_mul_right _ (by omega)
      have hlen1 : (txS N f way k).length ≤ 40000 := by omega
      have hWs := hW.size
      clear hown hnil hl1 hl2
      by_cases hlt : k < N.n
      · have hkn : (k : Int) < (N.n : Int) := by omega
        have c1 := cS.out k hlt wr hW
        have c2 := cT.out k wr
        obtain ⟨q, hq⟩ : ∃ q, timesC p (edgeC N la k) = q := ⟨_, rfl⟩
        have hq2 := timesC_le p (edgeC N la k)
        rw [hq] at c2 hq2
        obtain ⟨z, hz⟩ : ∃ z, edgeC N la k = z := ⟨_, rfl⟩
        rw [hz] at c1 c2 hq
        have Hz := Lib.hid hz
        have Hq := Lib.hid hq
        have C1 := Lib.hid c1
        have C2 := Lib.hid c2
        clear c1 c2 hz hq
        by_cases hz0 : z = 0
        · subst hz0
          go_wp2_with fail
          refine C1.out.mono ?_
          rintro e w1 ⟨rfl, rfl⟩
          go_wp2_with fail
          go_roundw
          case rel => exact ⟨k + 1, by omega, by omega, by go_num, Hnil.out, by rw [txS_none (by rw [Hhd.out]; exact hk1) (by rw [Hla.out]; exact Hz.out)]; exact Hown.out, hW⟩
          case measure => simp [intOf] <;> omega
        · have hz1 : ¬ (z : Int) = 0 := by omega
          have hzp : 0 < edgeC N (lastN way) k := by rw [Hla.out, Hz.out]; omega
          have Hzp := Lib.hid hzp
          clear hzp
          by_cases hkh : k = hd
          · subst hkh
            have hcut := sign_cut q hq2.1 hq2.2
            have hqq : q = circC N way := by rw [Hcirc.out, Hla.out, Hhd.out, Hz.out, Hq.out]
            have Htx := Lib.hid (show txS N f way (k + 1) = txS N f way k ++ [t ++ bs [signT q]] by
              have h := txS_close (f := f) (way := way) (N := N) (by rw [Hhd.out]; exact Hzp.out)
              rw [Hhd.out] at h
              rw [h, hqq, Hclose.out])
            clear hqq
            go_wp2_with fail
            refine C1.out.mono ?_
            rintro e w1 ⟨rfl, rfl⟩
            go_wp2_with fail
            refine C2.out.mono ?_
            rintro e w1 ⟨rfl, rfl⟩
            go_upto_region 11 with (fail)
            have Htx2 := Lib.hid (show txS N f way (k + 1) = txS N f way k ++ [t ++ (⟨#[48, 43, 45, 42]⟩ : ByteArray).extract q (q + 1)] by rw [Htx.out, hcut])
            clear hcut
            go_wp2_with (first | ((with_reducible show wpList _ _ _ (⟨_, .buildSlice 31 1 _, _, _, _, _⟩ :: _) _ _); refine wpList_buildSlice' rfl _ _ _ rfl rfl (str_one _ _) ?_) | (at_builtin; refine wpList_text_appendK rfl _ _ rfl w.heap.size _ (txS N f way k) rfl ((Hown.out.alloc _)) _ _ rfl (cell_new ?_) (by omega) (hW.alloc (by omega) _) ?_ ?_ ?_))
            · rfl
            · exact Nat.le_refl _
            · first | omega | (simp; omega)
            · intro v' w4 hown4 hB4 _
              have hnil4 : v' ≠ .slice none 0 0 := own_pos_ne hown4 (by omega)
              have hown5 : w4.ownsRow w.heap.size 9 1 v' (txS N f way (k + 1)).length (texts (txS N f way (k + 1))) := by
                rw [Htx2.out, List.length_append]; exact hown4
              have Hown4 := Lib.hid hown5
              have HB4 := Lib.hid hB4
              have Hnil4 := Lib.hid hnil4
              clear hown4 hown5 hB4 hnil4
              go_wp2_with fail
              go_roundw
              case rel => exact ⟨k + 1, by omega, by omega, by go_num, Hnil4.out, Hown4.out, HB4.out⟩
              case measure => simp [intOf] <;> omega
          · have hk3 : hd < k := by omega
            have hkh' : ¬ (k : Int) = (hd : Int) := by omega
            have c3 := cF.out k hlt
            have hd1 := Hdig.out k (by omega)
            obtain ⟨r, hr⟩ : ∃ r, findI t (UInt8.ofNat (48 + k)) = r := ⟨_, rfl⟩
            rw [hr] at c3 hd1
            have C3 := Lib.hid c3
            clear c3 hr
            cases hc : way.contains k <;> rw [hc] at hd1
            · have hr0 : r < 0 := by simpa using hd1
              have c5 := Hsub.out k hlt (by
                unfold goesB
                rw [Hhd.out, Hla.out, decide_eq_true hk3, hc, edgeC_inf, decide_eq_true (by rw [← Hla.out]; exact Hzp.out)]; rfl)
              rw [Hz.out, Hq.out] at c5
              have C5 := Lib.hid c5
              have cD1 := Lib.hid (fun wx => cD.out k hlt wx)
              have Htx := Lib.hid (show txS N f way (k + 1) = txS N f way k ++ txW N f (way ++ [k]) from txS_sub (by rw [Hhd.out]; exact hk3) Hzp.out hc)
              have hlen2 := txW_length hn f (way ++ [k])
              have hdsz : (decT k).size ≤ 1 := Nat.le_refl _
              clear c5 hc hd1
              go_wp2_with fail
              refine C1.out.mono ?_
              rintro e w1 ⟨rfl, rfl⟩
              go_wp2_with fail
              refine C2.out.mono ?_
              rintro e w1 ⟨rfl, rfl⟩
              go_wp2_with fail
              refine (C3.out _).mono ?_
              rintro e w1 ⟨rfl, rfl⟩
              go_wp2_with fail
              refine (cD1.out _).mono ?_
              rintro e w3 ⟨hW3, rfl⟩
              go_wp2_with fail
              refine (C5.out w3 (hW.trans (hW3.mono hWs))).mono ?_
              rintro e w4 ⟨hW4, v5, rfl, hn5, hown5⟩
              have hB34 := hW3.trans (hW4.mono hW3.size)
              have HB4 := Lib.hid (hW.trans (hB34.mono hWs))
              have Hown4 := Lib.hid (own_below Hown.out hB34)
              have Hown5 := Lib.hid hown5
              have Hn5 := Lib.hid hn5
              clear hown5 hn5 hB34
              go_wp2_with (at_builtin; refine wpList_texts_append rfl _ _ rfl w.heap.size _ (txS N f way k) rfl Hown4.out Hnil.out _ _ (txW N f (way ++ [k])) rfl Hown5.out Hn5.out (by omega) HB4.out (Nat.le_refl _) HB4.out.size ?_)
              intro v' w5 ho6 hn6 hB6
              have ho7 : w5.ownsRow w.heap.size 9 1 v' (txS N f way (k + 1)).length (texts (txS N f way (k + 1))) := by
                rw [Htx.out, List.length_append]; exact ho6
              have Ho7 := Lib.hid ho7
              have Hn6 := Lib.hid hn6
              have HB6 := Lib.hid hB6
              clear ho6 ho7 hn6 hB6
              go_wp2_with fail
              go_roundw
              case rel => exact ⟨k + 1, by omega, by omega, by go_num, Hn6.out, Ho7.out, HB6.out⟩
              case measure => simp [intOf] <;> omega
            · have hr0 : ¬ r < 0 := by simpa using hd1
              have Htx := Lib.hid (show txS N f way (k + 1) = txS N f way k from txS_skip (by rw [Hhd.out]; exact hk3) hc)
              clear hc hd1
              go_wp2_with fail
              refine C1.out.mono ?_
              rintro e w1 ⟨rfl, rfl⟩
              go_wp2_with fail
              refine C2.out.mono ?_
              rintro e w1 ⟨rfl, rfl⟩
              go_wp2_with fail
              refine (C3.out _).mono ?_
              rintro e w1 ⟨rfl, rfl⟩
              go_wp2_with fail
              go_roundw
              case rel => exact ⟨k + 1, by omega, by omega, by go_num, Hnil.out, by rw [Htx.out]; exact Hown.out, hW⟩
              case measure => simp [intOf] <;> omega
      · obtain rfl : k = N.n := by omega
        rw [Hend.out] at Hown
        go_wp2_with fail
        go_ret
        exact ⟨hW, _, rfl, Hnil.out, Hown.out⟩
end Go.Proofs.YtkfagolmpbbckaaGreatDoor
