/- The reference's digits, terms and their states. -/
import Derived.Test.YtkfagolmpbbckaaDoorSpecT
import Derived.Test.YtkfagolmpbbckaaDoorTe
import Derived.Deep.RegionHeld3
import Derived.Deep.AppendLies
import Derived.Deep.LoopGhost
import Derived.Laws.BytesArg
import Derived.OwnWalk
namespace Go.Proofs.YtkfagolmpbbckaaDoor
open Go Go.RowKit Go.Sw
set_option maxRecDepth 100000
set_option linter.unusedVariables false

theorem quiet_left {P : Program} {f : FuncId} {args : Array Value} {w : World} {n : Nat} {v : Value}
    (h : Calls P f args (w.drewN n) fun e w' => e = .returned v ∧ w.drewN n = w') : Calls P f args (w.drewN n) fun e w'' => e = .returned v ∧ ∃ m, w'' = w.drewN m :=
  h.mono fun _ _ ⟨he, hm⟩ => ⟨he, n, hm.symm⟩
/-- the text of a digit -/
def decT (d : Nat) : ByteArray := bs [UInt8.ofNat (48 + d)]

theorem l14Dec_any (d : Nat) (hd : d ≤ 9) (w : World) :
    Calls Tryd.prog 93 #[.int .i64 d] w fun e w' => Below w.heap.size w w' ∧ e = .returned (.string (decT d)) := by
  have hcv := run_convert_bytes_arg (P := Tryd.prog) (w.alloc (.cells #[.int .u8 (48 + (d : Int))] 5)) 22 5 Tryd.underlying22 Tryd.underlying5 w.heap.size 0 1 1 [48 + (d : Int)] rfl (fun i hi => by
    obtain rfl : i = 0 := by omega
    rw [cell_of_row _ _ _ _ _ _ (heap_alloc_last _ _)]; rfl) 9 Tryd.underlying9
  have hs : strOfNums [48 + (d : Int)] = decT d := by
    apply ba_ext
    simp only [strOfNums, decT, bs_data, List.map_cons, List.map_nil]
    congr 2
  rw [hs] at hcv
  have hsz : (decT d).size = 1 := rfl
  have he : decT d ++ ⟨#[]⟩ = decT d := by apply ba_ext; simp [ByteArray.data_append]
  have He := Lib.hid he
  obtain ⟨t, ht⟩ : ∃ t, decT d = t := ⟨_, rfl⟩
  rw [ht] at hcv hsz He ⊢
  have hsz2 : t.size ≤ 1 := by omega
  clear hs he ht hsz
  go_enter Tryd.func93, Tryd.ntmps93
  go_wp2_with fail
  go_loop [0, 3] (fun x out => x = .int .i64 d ∧ out = .string ⟨#[]⟩) (fun _ _ => 0)
  case atStart => exact ⟨rfl, rfl⟩
  case round =>
    obtain ⟨rfl, rfl⟩ := hrel
    go_wp2_with fail
    go_ret
    exact ⟨(Below.refl _ _).alloc (Nat.le_refl _) _, by rw [He.out]; rfl⟩

/-- the index of a byte in a text, or -1 -/
def findI (s : ByteArray) (v : UInt8) : Int := firstI (fun i => s.data.toList.getD i 0 == v) s.size
theorem byte_getD (s : ByteArray) (i : Nat) (h : i < s.size) : s.data.toList.getD i 0 = s[i] := by
  rw [List.getD_eq_getElem?_getD, List.getElem?_eq_getElem (by simpa using h), Option.getD_some, Sw.byte_at s i h]
theorem findI_neg (s : ByteArray) (v : UInt8) : decide (findI s v < 0) = !s.data.toList.contains v := by
  unfold findI
  rcases firstI_cases (fun i => s.data.toList.getD i 0 == v) s.size with ⟨h, hall⟩ | ⟨k, hk, h, hp, _⟩
  · rw [h]
    have : s.data.toList.contains v = false := by
      rw [List.contains_eq_mem, decide_eq_false_iff_not]
      intro hm
      obtain ⟨i, hi, rfl⟩ := List.getElem_of_mem hm
      have hi' : i < s.size := by simpa using hi
      have := hall i hi'
      rw [byte_getD s i hi', Sw.byte_at s i hi'] at this
      simp at this
    rw [this]; rfl
  · rw [h]
    have : s.data.toList.contains v = true := by
      rw [List.contains_eq_mem, decide_eq_true_iff]
      rw [byte_getD s k hk, beq_iff_eq] at hp
      rw [← hp, ← Sw.byte_at s k hk]; exact List.getElem_mem _
    rw [this]
    simp

theorem l14Find_any (s : ByteArray) (v : UInt8) (hs : s.size ≤ 1048576) (w : World) :
    Calls Tryd.prog 179 #[.string s, .int .u8 v.toNat] w fun e w' => e = .returned (.int .i64 (findI s v)) ∧ w = w' := by
  have hr : findI s v = firstI (fun i => s.data.toList.getD i 0 == v) s.size := rfl
  have Hr := Lib.hid hr
  clear hr
  go_enter Tryd.func179, Tryd.ntmps179
  go_wp2_with fail
  go_loop [5] (fun j => ∃ k : Nat, k ≤ s.size ∧ j = .int .i64 k ∧ ∀ i, i < k → (s.data.toList.getD i 0 == v) = false) (fun j => s.size - (intOf j).toNat)
  case atStart => exact ⟨0, Nat.zero_le _, rfl, fun i h => absurd h (Nat.not_lt_zero _)⟩
  case round =>
    obtain ⟨k, hk, rfl, hall⟩ := hrel
    have Hall := Lib.hid hall
    clear hall
    by_cases hlt : k < s.size
    · have hb := byte_getD s k hlt
      obtain ⟨x, hx⟩ : ∃ x, s[k] = x := ⟨_, rfl⟩
      rw [hx] at hb
      by_cases e : x = v
      · have hres : findI s v = k := by rw [Hr.out]; exact firstI_some hlt (by rw [hb, e]; simp) Hall.out
        have heq : ((x.toNat : Int) == (v.toNat : Int)) = true := by rw [e]; simp
        have Hres := Lib.hid hres
        clear hres hb e
        go_wp2_with fail
        go_ret
        exact ⟨ret_int Hres.out.symm, rfl⟩
      · have heq : ((x.toNat : Int) == (v.toNat : Int)) = false := by
          rw [beq_eq_false_iff_ne]; intro h; exact e (UInt8.toNat_inj.1 (by omega))
        have hn : (s.data.toList.getD k 0 == v) = false := by rw [hb]; simpa using e
        have Hn := Lib.hid hn
        clear hn hb e
        go_wp2_with fail
        go_round
        case rel => exact ⟨k + 1, by omega, by go_num, fun i hi => by
            by_cases e : i = k
            · subst e; exact Hn.out
            · exact Hall.out i (by omega)⟩
        case measure => simp [intOf] <;> omega
    · obtain rfl : k = s.size := by omega
      have hres : findI s v = -1 := by rw [Hr.out]; exact firstI_none Hall.out
      have Hres := Lib.hid hres
      clear hres
      go_wp2_with fail
      go_ret
      exact ⟨ret_int Hres.out.symm, rfl⟩

theorem find_letter (v : UInt8) : decide (findI ⟨#[42, 48, 49]⟩ v < 0) = !isLetter v := by
  rw [findI_neg]
  congr 1
  show ([42, 48, 49] : List UInt8).contains v = isLetter v
  simp only [List.contains_cons, List.contains_nil, Bool.or_false, isLetter]
theorem termB_badS {t : ByteArray} {n j : Nat} (h : j < t.size) (hb : isLetter t[j] = false) : termB t n = false := by
  unfold termB
  rw [Bool.and_eq_false_iff]
  refine .inr (List.all_eq_false.2 ⟨_, List.getElem_mem (by simpa using h), ?_⟩)
  rw [Sw.byte_at t j h, hb]; decide
theorem termB_goodS {t : ByteArray} {n : Nat} (h : ∀ j (hj : j < t.size), isLetter t[j] = true) : termB t n = decide (t.size = n) := by
  unfold termB
  have : t.data.toList.all isLetter = true := by
    rw [List.all_eq_true]
    intro v hv
    obtain ⟨j, hj, rfl⟩ := List.getElem_of_mem hv
    have hj' : j < t.size := by simpa using hj
    rw [Sw.byte_at t j hj']; exact h j hj'
  rw [this, Bool.and_true]
theorem termValid_spec (t : ByteArray) (n : Nat) (h1 : 1 ≤ n) (hn : n ≤ 5) (ht : t.size ≤ 1048576) (w : World) :
    Calls Tryd.prog 147 #[.string t, .int .i64 n] w fun e w' => w = w' ∧ e = .returned (.bool (termB t n)) := by
  have a1 : inI n 1 5 = true := by simp [inI]; omega
  go_enter Tryd.func147, Tryd.ntmps147
  go_wp2_with fail
  go_loop [5] (fun j => ∃ k : Nat, k ≤ t.size ∧ j = .int .i64 k ∧ ∀ i (hi : i < t.size), i < k → isLetter t[i] = true) (fun j => t.size - (intOf j).toNat)
  case atStart => exact ⟨0, Nat.zero_le _, rfl, fun i hi h => absurd h (Nat.not_lt_zero _)⟩
  case round =>
    obtain ⟨k, hk, rfl, hall⟩ := hrel
    have Hall := Lib.hid hall
    clear hall
    by_cases hlt : k < t.size
    · obtain ⟨v, hv⟩ : ∃ v, t[k] = v := ⟨_, rfl⟩
      have c := Lib.hid (fun wx => l14Find_any ⟨#[42, 48, 49]⟩ v (by decide) wx)
      have hf := find_letter v
      cases hl : isLetter v <;> rw [hl] at hf
      · have hbad : termB t n = false := termB_badS hlt (by rw [hv]; exact hl)
        have Hbad := Lib.hid hbad
        clear hbad hl
        go_wp2_with (go_at_call 179; refine (c.out _).mono ?_; rintro e w' ⟨rfl, rfl⟩)
        go_ret
        exact ⟨rfl, by rw [Hbad.out]; rfl⟩
      · have hall' : ∀ i (hi : i < t.size), i < k + 1 → isLetter t[i] = true := fun i hi h => by
          by_cases e : i = k
          · subst e; rw [hv]; exact hl
          · exact Hall.out i hi (by omega)
        have Hall' := Lib.hid hall'
        clear hall' hl
        go_wp2_with (go_at_call 179; refine (c.out _).mono ?_; rintro e w' ⟨rfl, rfl⟩)
        go_round
        case rel => exact ⟨k + 1, by omega, by go_num, Hall'.out⟩
        case measure => simp [intOf] <;> omega
    · obtain rfl : k = t.size := by omega
      have hres := termB_goodS (n := n) fun j hj => Hall.out j hj hj
      have Hres := Lib.hid hres
      by_cases hsz : t.size = n
      · have he : ((t.size : Int) == (n : Int)) = true := by rw [hsz]; simp
        have Hsz := Lib.hid hsz
        clear hres hsz
        go_wp2_with (go_at_call 90; refine (l1In_b _ _ _ _ a1 _).mono ?_; rintro e w' ⟨rfl, rfl⟩)
        go_ret
        exact ⟨rfl, by rw [Hres.out, decide_eq_true Hsz.out]; rfl⟩
      · have he : ((t.size : Int) == (n : Int)) = false := by rw [beq_eq_false_iff_ne]; omega
        have Hsz := Lib.hid hsz
        clear hres hsz
        go_wp2_with (go_at_call 90; refine (l1In_b _ _ _ _ a1 _).mono ?_; rintro e w' ⟨rfl, rfl⟩)
        go_ret
        exact ⟨rfl, by rw [Hres.out, decide_eq_false Hsz.out]; rfl⟩

theorem termT_some (n : Nat) (p : Trm) (t : ByteArray) (h : termT n p = t) : t.size = n ∧ ∀ k (hk : k < t.size), t[k] = letterT (p k) := by
  have hs : t.size = n := by rw [← h]; exact termT_size n p
  exact ⟨hs, fun k hk => by subst h; exact termT_get n p k (by omega)⟩

theorem l2Has_any (n s : Nat) (p : Trm) (hn : n ≤ 5) (hs : s < 32) (w : World) :
    Calls Tryd.prog 211 #[.string (termT n p), .int .i64 s] w fun e w' => Below w.heap.size w w' ∧ e = .returned (.bool (hasP n p s)) := by
  obtain ⟨t, ht⟩ : ∃ t, termT n p = t := ⟨_, rfl⟩
  obtain ⟨hsz, hget⟩ := termT_some n p t ht
  have hr : hasP n p s = hasTo p s n := rfl
  have Hr := Lib.hid hr
  rw [ht]
  have Hget := Lib.hid hget
  have hs1 : t.size ≤ n := by omega
  have hs2 : n ≤ t.size := by omega
  clear ht hsz hget hr
  go_enter Tryd.func211, Tryd.ntmps211
  go_wp2_with fail
  go_loopw [5] (fun j wr => (∃ k : Nat, k ≤ n ∧ j = .int .i64 k ∧ hasTo p s k = true) ∧ Below w.heap.size w wr) (fun j _ => n - (intOf j).toNat)
  case atStart => exact ⟨⟨0, Nat.zero_le _, rfl, rfl⟩, Below.refl _ _⟩
  case round =>
    obtain ⟨⟨k, hk, rfl, hto⟩, hW⟩ := hrel
    have Hto := Lib.hid hto
    clear hto
    by_cases hlt : k < n
    · have hlt2 : k < t.size := by omega
      have hv := Hget.out k hlt2
      have hnx : hasTo p s (k + 1) = (hasTo p s k && fitB (p k) (s.testBit k)) := rfl
      rw [Hto.out, Bool.true_and] at hnx
      cases hp : p k with
      | none =>
        rw [hp] at hv hnx
        have hv2 : ((t[k].toNat : Int) != 42) = false := by rw [hv]; rfl
        have Hnx := Lib.hid hnx
        clear hv hnx hp
        go_wp2_with fail
        go_quiet (fail)
        go_wp2_with fail
        first
          | (go_roundw
             case rel => exact ⟨⟨k + 1, by omega, by go_num, Hnx.out⟩, below_drewN hW _⟩
             case measure => simp [intOf] <;> omega)
          | exact ⟨⟨⟨k + 1, by omega, by go_num, Hnx.out⟩, below_drewN hW _⟩, by simp [intOf] <;> omega⟩
      | some c =>
        rw [hp] at hv hnx
        have hsb := hasP_bad (n := n) (p := p) (s := s) (i := k) hlt
        rw [hp] at hsb
        have cB := fun wx => l1Bit_any s k (by omega) (by omega) wx
        have q0 : IntKind.i64.wrap 0 = 0 := rfl
        have q1 : IntKind.i64.wrap 1 = 1 := rfl
        have q2 : IntKind.i64.wrap 48 = 48 := rfl
        have q3 : IntKind.i64.wrap 49 = 49 := rfl
        cases c <;> cases hb : s.testBit k <;> rw [hb] at cB hnx hsb
        all_goals
          simp only [letterT, Bool.toNat_true, Bool.toNat_false, Int.natCast_zero, Int.natCast_one] at hv cB
          have hv2 : (t[k].toNat : Int) = _ := congrArg (fun x : UInt8 => (x.toNat : Int)) hv
          simp only [show ((48 : UInt8).toNat : Int) = 48 from rfl, show ((49 : UInt8).toNat : Int) = 49 from rfl] at hv2
          have Hnx := Lib.hid hnx
          have Hsb := Lib.hid hsb
          have CB := Lib.hid cB
          clear hv hnx hp hsb hb cB
          go_wp2_with fail
          go_quiet ((go_at_call 165; exact quiet_left (CB.out _)))
          go_wp2_with fail
          first
            | (go_ret; exact ⟨below_drewN hW _, by rw [Hsb.out rfl]; rfl⟩)
            | (go_roundw
               case rel => exact ⟨⟨k + 1, by omega, by go_num, by rw [Hnx.out]; rfl⟩, below_drewN hW _⟩
               case measure => simp [intOf] <;> omega)
            | exact ⟨⟨⟨k + 1, by omega, by go_num, by rw [Hnx.out]; rfl⟩, below_drewN hW _⟩, by simp [intOf] <;> omega⟩
    · obtain rfl : k = n := by omega
      go_wp2_with fail
      go_ret
      exact ⟨hW, by rw [Hr.out, Hto.out]; rfl⟩

/-- numbers as Go's -/
def natL (l : List Nat) : List Int := l.map Int.ofNat
theorem natL_length (l : List Nat) : (natL l).length = l.length := by simp [natL]
theorem natL_snoc (l : List Nat) (s : Nat) : natL (l ++ [s]) = natL l ++ [(s : Int)] := by simp [natL]
theorem natL_get (l : List Nat) (j : Nat) (h : j < l.length) : (natL l)[j]'(by rw [natL_length]; exact h) = ((l[j] : Nat) : Int) := by simp [natL]
theorem intsL_cell {w : World} {B : Nat} {a : Option Addr} {L : List Nat} (h : IntsAt w B a (natL L)) {k : Nat} (hk : k < L.length) : ∃ g, a = some ⟨g, 0, none⟩ ∧ g < w.heap.size ∧ w.cell? ⟨g, k, none⟩ = some (.int .i64 (L[k] : Nat)) := by
  obtain ⟨g, cur, tt, e, hB, hc, hcs, hj⟩ := h.at' (by rw [natL_length]; omega)
  exact ⟨g, e, block_lt hc, by rw [cell_of_row w _ _ _ _ _ hc, hj k (by rw [natL_length]; exact hk), natL_get]⟩

theorem l6States_any (n : Nat) (p : Trm) (hn : n ≤ 5) (w : World) :
    Calls Tryd.prog 180 #[.string (termT n p)] w fun e w' => Below w.heap.size w w' ∧ ∃ a cap, e = .returned (.slice a (statesP n p).length cap) ∧ IntsAt w' w.heap.size a (natL (statesP n p)) := by
  have hp := pw_le hn
  have h2 := pow2_le n hn
  have hpc := pw_cast n
  have hsz : (termT n p).size = n := termT_size n p
  have c := Lib.hid (fun s (hs : s < 32) wx => l2Has_any n s p hn hs wx)
  have hr : statesP n p = statesTo n p (pw n) := rfl
  have Hr := Lib.hid hr
  clear hr
  go_enter Tryd.func180, Tryd.ntmps180
  go_wp2_with ((with_reducible show wpList _ _ _ (⟨_, .buildSlice 26 0 _, _, _, _, _⟩ :: _) _ _); refine wpList_buildSlice' rfl _ _ _ rfl rfl (int_none _) ?_)
  go_loopw [3, 4] (fun out j wr => ∃ k : Nat, k ≤ pw n ∧ j = .int .i64 k ∧ wr.ownsRow w.heap.size 3 1 out (natL (statesTo n p k)).length (ints (natL (statesTo n p k))) ∧ Below w.heap.size w wr) (fun _ j _ => pw n - (intOf j).toNat)
  case atStart => exact ⟨0, Nat.zero_le _, rfl, World.ownsRow_made w #[] 0 (Nat.le_refl _) (by unfold maxLen; omega) rfl, (Below.refl _ _).alloc (Nat.le_refl _) _⟩
  case round =>
    obtain ⟨k, hk, rfl, hown, hW⟩ := hrel
    have Hown := Lib.hid hown
    have hlen := statesTo_length n p k
    have hlen2 : (natL (statesTo n p k)).length ≤ 32 := by rw [natL_length]; omega
    have hWs := hW.size
    clear hown
    by_cases hlt : k < pw n
    · have c1 := c.out k (by omega) wr
      have hnx : statesTo n p (k + 1) = if hasP n p k then statesTo n p k ++ [k] else statesTo n p k := rfl
      cases hh : hasP n p k <;> rw [hh] at c1 hnx
      · rw [if_neg (by decide)] at hnx
        have C1 := Lib.hid c1
        have Hnx := Lib.hid hnx
        clear c1 hnx hh
        go_wp2_with fail
        refine C1.out.mono ?_
        rintro e w2 ⟨hW2, rfl⟩
        go_wp2_with fail
        go_roundw
        case rel => exact ⟨k + 1, by omega, by go_num, by rw [Hnx.out]; exact own_below Hown.out hW2, hW.trans (hW2.mono hWs)⟩
        case measure => simp [intOf] <;> omega
      · rw [if_pos rfl] at hnx
        have C1 := Lib.hid c1
        have hnx2 : natL (statesTo n p (k + 1)) = natL (statesTo n p k) ++ [(k : Int)] := by rw [hnx, natL_snoc]
        have Hnx := Lib.hid hnx2
        clear c1 hnx hnx2 hh
        go_wp2_with fail
        refine C1.out.mono ?_
        rintro e w2 ⟨hW2, rfl⟩
        have hB2 := hW.trans (hW2.mono hWs)
        have hB2s := hB2.size
        go_wp2_with (first | ((with_reducible show wpList _ _ _ (⟨_, .buildSlice 26 1 _, _, _, _, _⟩ :: _) _ _); refine wpList_buildSlice' rfl _ _ _ rfl rfl (int_one (k : Int) _) ?_) | (at_builtin; refine wpList_int_append rfl _ _ rfl w.heap.size _ (natL (statesTo n p k)) rfl (((own_below Hown.out hW2).alloc _)) _ _ rfl (cell_new ?_) (by omega) (hB2.alloc (by omega) _) ?_ ?_ ?_))
        · rfl
        · exact Nat.le_refl _
        · first | omega | (simp; omega)
        · intro v' w3 hown3 hB3
          have hown4 : w3.ownsRow w.heap.size 3 1 v' (natL (statesTo n p (k + 1))).length (ints (natL (statesTo n p (k + 1)))) := by rw [Hnx.out, List.length_append]; exact hown3
          have Hown3 := Lib.hid hown4
          have HB3 := Lib.hid hB3
          clear hown3 hown4 hB3
          go_wp2_with fail
          go_roundw
          case rel => exact ⟨k + 1, by omega, by go_num, Hown3.out, HB3.out⟩
          case measure => simp [intOf] <;> omega
    · obtain rfl : k = pw n := by omega
      obtain ⟨a, cp, rfl, hcp, hI⟩ := intsAt_of_own Hown.out
      have HI := Lib.hid hI
      have hl2 := natL_length (statesTo n p (pw n))
      have Hl2 := Lib.hid hl2
      clear hI hl2
      go_wp2_with fail
      go_ret
      exact ⟨hW, a, cp, by rw [Hr.out, ← Hl2.out]; rfl, by rw [Hr.out]; exact HI.out⟩

end Go.Proofs.YtkfagolmpbbckaaDoor
