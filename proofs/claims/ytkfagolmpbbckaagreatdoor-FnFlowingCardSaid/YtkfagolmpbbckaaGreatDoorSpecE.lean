/- The reference's digits, terms and their states. -/
import Derived.Test.YtkfagolmpbbckaaGreatDoorSpecT
import Derived.Test.YtkfagolmpbbckaaGreatDoorP1
import Derived.Deep.RegionHeld3
import Derived.Deep.AppendLies
import Derived.Deep.LoopGhost
import Derived.Laws.BytesArg
import Derived.OwnWalk
namespace Go.Proofs.YtkfagolmpbbckaaGreatDoor
open Go Go.RowKit Go.Sw
set_option maxRecDepth 100000
set_option linter.unusedVariables false

theorem quiet_left {P : Program} {f : FuncId} {args : Array Value} {w : World} {n : Nat} {v : Value}
    (h : Calls P f args (w.drewN n) fun e w' => e = .returned v ∧ w.drewN n = w') : Calls P f args (w.drewN n) fun e w'' => e = .returned v ∧ ∃ m, w'' = w.drewN m :=
  h.mono fun _ _ ⟨he, hm⟩ => ⟨he, n, hm.symm⟩
/-- the text of a digit -/
def decT (d : Nat) : ByteArray := bs [UInt8.ofNat (48 + d)]

theorem l14Dec_any (d : Nat) (hd : d ≤ 9) (w : World) :
    Calls Tryz.prog 112 #[.int .i64 d] w fun e w' => Below w.heap.size w w' ∧ e = .returned (.string (decT d)) := by
  have hcv := run_convert_bytes_arg (P := Tryz.prog) (w.alloc (.cells #[.int .u8 (48 + (d : Int))] 5)) 22 5 Tryz.underlying22 Tryz.underlying5 w.heap.size 0 1 1 [48 + (d : Int)] rfl (fun i hi => by
    obtain rfl : i = 0 := by omega
    rw [cell_of_row _ _ _ _ _ _ (heap_alloc_last _ _)]; rfl) 9 Tryz.underlying9
  have hs : strOfNums [48 + (d : Int)] = decT d := by
    apply ba_ext
    simp only [strOfNums, decT, bs_data, List.map_cons, List.map_nil]
    congr 2
  rw [hs] at hcv
  have hsz : (decT d).size = 1 := rfl
  have he : decT d ++ ⟨#[]⟩ = decT d := by apply ba_ext; simp [ByteArray.data_append]
  have He := Lib.hid he
  obtain ⟨t, ht⟩ : ∃ t, decT d = t := ⟨_, rfl⟩
  rw [ht] at hcv hsz He ⊢
  have hsz2 : t.size ≤ 1 := by omega
  clear hs he ht hsz
  go_enter Tryz.func112, Tryz.ntmps112
  go_wp2_with fail
  go_loop [0, 3] (fun x out => x = .int .i64 d ∧ out = .string ⟨#[]⟩) (fun _ _ => 0)
  case atStart => exact ⟨rfl, rfl⟩
  case round =>
    obtain ⟨rfl, rfl⟩ := hrel
    go_wp2_with fail
    go_ret
    exact ⟨(Below.refl _ _).alloc (Nat.le_refl _) _, by rw [He.out]; rfl⟩

/-- the index of a byte in a text, or -1 -/
def findI (s : ByteArray) (v : UInt8) : Int := firstI (fun i => s.data.toList.getD i 0 == v) s.size
theorem byte_getD (s : ByteArray) (i : Nat) (h : i < s.size) : s.data.toList.getD i 0 = s[i] := by
  rw [List.getD_eq_getElem?_getD, List.getElem?_eq_getElem (by simpa using h), Option.getD_some, Sw.byte_at s i h]
theorem findI_neg (s : ByteArray) (v : UInt8) : decide (findI s v < 0) = !s.data.toList.contains v := by
  unfold findI
  rcases firstI_cases (fun i => s.data.toList.getD i 0 == v) s.size with ⟨h, hall⟩ | ⟨k, hk, h, hp, _⟩
  · rw [h]
    have : s.data.toList.contains v = false := by
      rw [List.contains_eq_mem, decide_eq_false_iff_not]
      intro hm
      obtain ⟨i, hi, rfl⟩ := List.getElem_of_mem hm
      have hi' : i < s.size := by simpa using hi
      have := hall i hi'
      rw [byte_getD s i hi', Sw.byte_at s i hi'] at this
      simp at this
    rw [this]; rfl
  · rw [h]
    have : s.data.toList.contains v = true := by
      rw [List.contains_eq_mem, decide_eq_true_iff]
      rw [byte_getD s k hk, beq_iff_eq] at hp
      rw [← hp, ← Sw.byte_at s k hk]; exact List.getElem_mem _
    rw [this]
    simp

theorem l14Find_any (s : ByteArray) (v : UInt8) (hs : s.size ≤ 1048576) (w : World) :
    Calls Tryz.prog 142 #[.string s, .int .u8 v.toNat] w fun e w' => e = .returned (.int .i64 (findI s v)) ∧ w = w' := by
  have hr : findI s v = firstI (fun i => s.data.toList.getD i 0 == v) s.size := rfl
  have Hr := Lib.hid hr
  clear hr
  go_enter Tryz.func142, Tryz.ntmps142
  go_wp2_with fail
  go_loop [5] (fun j => ∃ k : Nat, k ≤ s.size ∧ j = .int .i64 k ∧ ∀ i, i < k → (s.data.toList.getD i 0 == v) = false) (fun j => s.size - (intOf j).toNat)
  case atStart => exact ⟨0, Nat.zero_le _, rfl, fun i h => absurd h (Nat.not_lt_zero _)⟩
  case round =>
    obtain ⟨k, hk, rfl, hall⟩ := hrel
    have Hall := Lib.hid hall
    clear hall
    by_cases hlt : k < s.size
    · have hb := byte_getD s k hlt
      obtain ⟨x, hx⟩ : ∃ x, s[k] = x := ⟨_, rfl⟩
      rw [hx] at hb
      by_cases e : x = v
      · have hres : findI s v = k := by rw [Hr.out]; exact firstI_some hlt (by rw [hb, e]; simp) Hall.out
        have heq : ((x.toNat : Int) == (v.toNat : Int)) = true := by rw [e]; simp
        have Hres := Lib.hid hres
        clear hres hb e
        go_wp2_with fail
        go_ret
        exact ⟨ret_int Hres.out.symm, rfl⟩
      · have heq : ((x.toNat : Int) == (v.toNat : Int)) = false := by
          rw [beq_eq_false_iff_ne]; intro h; exact e (UInt8.toNat_inj.1 (by omega))
        have hn : (s.data.toList.getD k 0 == v) = false := by rw [hb]; simpa using e
        have Hn := Lib.hid hn
        clear hn hb e
        go_wp2_with fail
        go_round
        case rel => exact ⟨k + 1, by omega, by go_num, fun i hi => by
            by_cases e : i = k
            · subst e; exact Hn.out
            · exact Hall.out i (by omega)⟩
        case measure => simp [intOf] <;> omega
    · obtain rfl : k = s.size := by omega
      have hres : findI s v = -1 := by rw [Hr.out]; exact firstI_none Hall.out
      have Hres := Lib.hid hres
      clear hres
      go_wp2_with fail
      go_ret
      exact ⟨ret_int Hres.out.symm, rfl⟩


theorem termT_some (n : Nat) (p : Trm) (t : ByteArray) (h : termT n p = t) : t.size = n ∧ ∀ k (hk : k < t.size), t[k] = letterT (p k) := by
  have hs : t.size = n := by rw [← h]; exact termT_size n p
  exact ⟨hs, fun k hk => by subst h; exact termT_get n p k (by omega)⟩


/-- numbers as Go's -/
def natL (l : List Nat) : List Int := l.map Int.ofNat
theorem natL_length (l : List Nat) : (natL l).length = l.length := by simp [natL]
theorem natL_snoc (l : List Nat) (s : Nat) : natL (l ++ [s]) = natL l ++ [(s : Int)] := by simp [natL]
theorem natL_get (l : List Nat) (j : Nat) (h : j < l.length) : (natL l)[j]'(by rw [natL_length]; exact h) = ((l[j] : Nat) : Int) := by simp [natL]
theorem intsL_cell {w : World} {B : Nat} {a : Option Addr} {L : List Nat} (h : IntsAt w B a (natL L)) {k : Nat} (hk : k < L.length) : ∃ g, a = some ⟨g, 0, none⟩ ∧ g < w.heap.size ∧ w.cell? ⟨g, k, none⟩ = some (.int .i64 (L[k] : Nat)) := by
  obtain ⟨g, cur, tt, e, hB, hc, hcs, hj⟩ := h.at' (by rw [natL_length]; omega)
  exact ⟨g, e, block_lt hc, by rw [cell_of_row w _ _ _ _ _ hc, hj k (by rw [natL_length]; exact hk), natL_get]⟩


end Go.Proofs.YtkfagolmpbbckaaGreatDoor
