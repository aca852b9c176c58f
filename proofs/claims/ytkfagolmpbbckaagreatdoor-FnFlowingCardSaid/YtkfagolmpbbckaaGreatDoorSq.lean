/- Plain: what a term spreads to. The reference's forced values. The program's spreading of a term. The reference's spreading of a term. -/
import Derived.Test.YtkfagolmpbbckaaGreatDoorMk
import Derived.Test.YtkfagolmpbbckaaGreatDoorSpecF
import Derived.Deep.RegionHeld3
import Derived.Test.YtkfagolmpbbckaaGreatDoorImplG
namespace Go.Sw
open Go
set_option linter.unusedVariables false

/-- the value that all states of a term give a switch -/
def frcP (N : Net) (p : Trm) (i : Nat) : Option Bool :=
  if (statesP N.n p).all (fun s => N.f i s == N.f i ((statesP N.n p).headD 0)) then some (N.f i ((statesP N.n p).headD 0)) else none
/-- once over all switches -/
def sprP (N : Net) (p : Trm) : Trm := fun i => match p i with | none => frcP N p i | some b => some b
def sprF : Nat → Net → Trm → Trm
  | 0, _, p => p
  | f + 1, N, p => sprF f N (sprP N p)
theorem frcP_some {N : Net} {p : Trm} {i : Nat} {b : Bool} (h : frcP N p i = some b) {s : Nat} (hs : s < pw N.n) (hp : hasP N.n p s = true) : N.f i s = b := by
  unfold frcP at h
  split at h
  · rename_i ha
    have := List.all_eq_true.1 ha s ((statesP_mem _ _ _).2 ⟨hs, hp⟩)
    rw [beq_iff_eq] at this
    rw [this]
    exact Option.some.inj h
  · cases h
theorem ins_spr (N : Net) (p : Trm) : insTo (sprP N p) p N.n = true := by
  rw [insTo_iff]
  intro i hi
  cases h : p i with
  | none => exact .inl rfl
  | some b => exact .inr (by unfold sprP; rw [h])
theorem spr_has {N : Net} {p : Trm} {s : Nat} (hs : s < pw N.n) (hp : hasP N.n p s = true) (h : ∀ i, i < N.n → p i = none → N.f i s = s.testBit i) : hasP N.n (sprP N p) s = true := by
  rw [hasP_iff]
  intro i hi
  have h1 := (hasP_iff _ _ _).1 hp i hi
  unfold sprP
  cases hpi : p i with
  | some b => rw [hpi] at h1; exact h1
  | none =>
    simp only
    cases hf : frcP N p i with
    | none => rfl
    | some b =>
      have := frcP_some hf hs hp
      rw [h i hi hpi] at this
      rw [this]
      simp [fitB]
theorem spr_point {N : Net} {p : Trm} {s : Nat} (hs : s < pw N.n) (hp : hasP N.n p s = true) (h : stepN N s = s) : hasP N.n (sprP N p) s = true :=
  spr_has hs hp fun i hi _ => fix_bit h hi
theorem spr_trap {N : Net} {p : Trm} (h : trapP N p = true) : trapP N (sprP N p) = true := by
  rw [trapP_iff]
  intro s hs hsp
  have hp : hasP N.n p s = true := by
    rw [hasP_iff] at hsp ⊢
    intro i hi
    have := hsp i hi
    unfold sprP at this
    cases hpi : p i with
    | none => rfl
    | some b => rw [hpi] at this; exact this
  have hq := (trapP_iff _ _).1 h s hs hp
  rw [hasP_iff] at hq ⊢
  intro i hi
  have := hq i hi
  unfold sprP
  cases hpi : p i with
  | some b => rw [hpi] at this; exact this
  | none =>
    simp only
    cases hf : frcP N p i with
    | none => rfl
    | some b =>
      rw [stepN_testBit, decide_eq_true hi, Bool.true_and, frcP_some hf hs hp]
      simp [fitB]
theorem sprF_point {N : Net} {s : Nat} (hs : s < pw N.n) (h : stepN N s = s) (f : Nat) : ∀ p, hasP N.n p s = true → hasP N.n (sprF f N p) s = true := by
  induction f with
  | zero => intro p hp; exact hp
  | succ f ih => intro p hp; exact ih _ (spr_point hs hp h)
theorem sprF_trap {N : Net} (f : Nat) : ∀ p, trapP N p = true → trapP N (sprF f N p) = true := by
  induction f with
  | zero => intro p hp; exact hp
  | succ f ih => intro p hp; exact ih _ (spr_trap hp)
/-- nothing changes any more -/
def sprD (N : Net) (p : Trm) : Prop := ∀ i, i < N.n → sprP N p i = p i
theorem frcP_congr {N : Net} {p q : Trm} (h : ∀ i, i < N.n → p i = q i) (i : Nat) : frcP N p i = frcP N q i := by
  unfold frcP
  rw [statesP_congr h]
theorem sprP_congr {N : Net} {p q : Trm} (h : ∀ i, i < N.n → p i = q i) {i : Nat} (hi : i < N.n) : sprP N p i = sprP N q i := by
  unfold sprP
  rw [h i hi, frcP_congr h]
theorem sprD_next {N : Net} {p : Trm} (h : sprD N p) : sprD N (sprP N p) := fun i hi => by
  rw [sprP_congr h hi]
theorem sprF_done {N : Net} (f : Nat) : ∀ p, sprD N p → ∀ i, i < N.n → sprF f N p i = p i := by
  induction f with
  | zero => intro p _ i _; rfl
  | succ f ih =>
    intro p h i hi
    rw [sprF, ih _ (sprD_next h) i hi, h i hi]
theorem spr_star {N : Net} {p : Trm} (h : ¬ sprD N p) : starN N.n (sprP N p) < starN N.n p := by
  have : ∃ i, i < N.n ∧ sprP N p i ≠ p i := by
    apply Classical.byContradiction
    intro hc
    exact h fun i hi => Classical.byContradiction fun e => hc ⟨i, hi, e⟩
  obtain ⟨i, hi, he⟩ := this
  have hpi : p i = none := by
    cases hp : p i with
    | none => rfl
    | some b => exact absurd (by unfold sprP; rw [hp]) he
  unfold starN
  refine filter_lt (i := i) (fun j hj hp => ?_) (List.mem_range.2 hi) ?_ (by rw [hpi]; rfl)
  · cases hq : p j with
    | none => rfl
    | some b => unfold sprP at hp; rw [hq] at hp; exact hp
  · cases hq : sprP N p i with
    | none => exact absurd (hq.trans hpi.symm) he
    | some b => rfl
theorem sprF_end {N : Net} (f : Nat) : ∀ p, starN N.n p ≤ f → sprD N (sprF f N p) := by
  induction f with
  | zero =>
    intro p h
    apply Classical.byContradiction
    intro hc
    have := spr_star hc
    have e : sprF 0 N p = p := rfl
    rw [e] at this
    omega
  | succ f ih =>
    intro p h
    by_cases hd : sprD N p
    · intro i hi
      have h1 := sprF_done f _ (sprD_next hd)
      have h2 := fun j (hj : j < N.n) => (h1 j hj).trans (hd j hj)
      show sprP N (sprF f N (sprP N p)) i = sprF f N (sprP N p) i
      rw [sprP_congr h2 hi, h2 i hi, hd i hi]
    · exact ih _ (by have := spr_star hd; omega)
end Go.Sw
namespace Go.Proofs.YtkfagolmpbbckaaGreatDoor
open Go Go.RowKit Go.Sw
set_option maxRecDepth 100000
set_option linter.unusedVariables false

/-- the value that all states of a term give a rule, or -1 -/
def frcI (n : Nat) (p : Trm) (f : Nat → Bool) : Int :=
  if (statesP n p).all (fun s => f s == f ((statesP n p).headD 0)) then (((f ((statesP n p).headD 0)).toNat : Nat) : Int) else -1
theorem frcI_of {N : Net} {p : Trm} {i : Nat} : frcI N.n p (N.f i) = match frcP N p i with | none => -1 | some b => ((b.toNat : Nat) : Int) := by
  unfold frcI frcP
  split <;> rfl
theorem natL_cell {w : World} {B : Nat} {a : Option Addr} {L : List Nat} (h : IntsAt w B a (natL L)) (h0 : 0 < L.length) : ∃ g, a = some ⟨g, 0, none⟩ ∧ g < w.heap.size ∧ ∀ wx : World, Below w.heap.size w wx → ∀ k (hk : k < L.length), wx.cell? ⟨g, k, none⟩ = some (.int .i64 ((L[k]'hk : Nat) : Int)) := by
  obtain ⟨g, cur, tt, e, hB, hc, hcs, hj⟩ := h.at' (by simpa [natL] using h0)
  refine ⟨g, e, block_lt hc, fun wx hb k hk => ?_⟩
  rw [cell_of_row wx _ _ _ _ _ ((hb.block g (block_lt hc)).trans hc), hj k (by simpa [natL] using hk)]
  simp [natL]
end Go.Proofs.YtkfagolmpbbckaaGreatDoor
namespace Go.Proofs.YtkfagolmpbbckaaGreatDoor
open Go Go.RowKit Go.Sw
set_option maxRecDepth 100000
set_option linter.unusedVariables false

theorem sprF_front (N : Net) (f : Nat) : ∀ p, sprF (f + 1) N p = sprP N (sprF f N p) := by
  induction f with
  | zero => intro p; rfl
  | succ f ih => intro p; exact ih (sprP N p)
theorem starN_len (n : Nat) (p : Trm) : starN n p ≤ n := by
  unfold starN
  exact Nat.le_trans (List.length_filter_le _ _) (by rw [List.length_range]; exact Nat.le_refl _)
/-- once more changes nothing in the end -/
theorem spr_next (N : Net) (p : Trm) : termT N.n (sprF N.n N (sprP N p)) = termT N.n (sprF N.n N p) := by
  have h1 : sprF N.n N (sprP N p) = sprP N (sprF N.n N p) := sprF_front N N.n p
  rw [h1]
  exact termT_congr (sprF_end N.n p (starN_len _ _))
theorem spr_stop {N : Net} {p : Trm} (h : sprD N p) : termT N.n (sprF N.n N p) = termT N.n p := termT_congr (sprF_done N.n p h)
theorem sprD_text (N : Net) (p : Trm) : (termT N.n (sprP N p)).toList == (termT N.n p).toList ↔ sprD N p := by
  rw [beq_iff_eq, ByteArray.toList_eq, ByteArray.toList_eq]
  constructor
  · intro h
    exact termT_inj (by apply ba_ext; exact h)
  · intro h
    rw [termT_congr h]
/-- how many stars a text has -/
def starV : Value → Nat
  | .string s => (s.data.toList.filter fun b => b == 42).length
  | _ => 0
theorem starV_term (n : Nat) (p : Trm) : starV (.string (termT n p)) = starN n p := by
  show ((termT n p).data.toList.filter fun b => b == 42).length = starN n p
  unfold termT starN
  rw [bs_data, List.filter_map, List.length_map]
  congr 1
  apply List.filter_congr
  intro i _
  simp only [Function.comp]
  cases p i with
  | none => rfl
  | some b => cases b <;> rfl
/-- the first k switches are done -/
def sprTo (N : Net) (p : Trm) (k : Nat) : Trm := fun j => if j < k then sprP N p j else p j
def anyF (N : Net) (i : Nat) (L : List Nat) (v : Bool) (m : Nat) : Bool := (L.take m).any fun s => N.f i s == v
theorem anyF_succ (N : Net) (i : Nat) (L : List Nat) (v : Bool) (m : Nat) (h : m < L.length) : anyF N i L v (m + 1) = (anyF N i L v m || N.f i L[m] == v) := by
  unfold anyF
  rw [List.take_succ_eq_append_getElem h, List.any_append]; simp
theorem frc_list (g : Nat → Bool) (x : Nat) (r : List Nat) : (if ((x :: r).all fun s => g s == g x) = true then some (g x) else none) =
    if ((x :: r).any fun s => g s == false) = false then some true else if ((x :: r).any fun s => g s == true) = false then some false else none := by
  have key : ∀ b : Bool, ((x :: r).any fun s => g s == !b) = false → ∀ s ∈ x :: r, g s = b := fun b h s hs => by
    rw [List.any_eq_false] at h
    have := h s hs
    cases hb : g s <;> cases b <;> simp_all
  by_cases hf : ((x :: r).any fun s => g s == false) = false
  · have h := key true hf
    have hx := h x (by simp)
    have ha : ((x :: r).all fun s => g s == g x) = true := by
      rw [List.all_eq_true]; intro s hs; rw [h s hs, hx]; rfl
    rw [if_pos hf, if_pos ha, hx]
  · rw [if_neg hf]
    by_cases ht : ((x :: r).any fun s => g s == true) = false
    · have h := key false ht
      have hx := h x (by simp)
      have ha : ((x :: r).all fun s => g s == g x) = true := by
        rw [List.all_eq_true]; intro s hs; rw [h s hs, hx]; rfl
      rw [if_pos ht, if_pos ha, hx]
    · have ha : ¬ ((x :: r).all fun s => g s == g x) = true := fun ha => by
        rw [List.all_eq_true] at ha
        rw [Bool.not_eq_false, List.any_eq_true] at hf ht
        obtain ⟨a, h1, h2⟩ := hf
        obtain ⟨b, h3, h4⟩ := ht
        have e1 := ha a h1
        have e2 := ha b h3
        rw [beq_iff_eq] at h2 h4 e1 e2
        rw [h2] at e1
        rw [h4, ← e1] at e2
        cases e2
      rw [if_neg ht, if_neg ha]
theorem frc_any {N : Net} {p : Trm} {i : Nat} : frcP N p i =
    if anyF N i (statesP N.n p) false (statesP N.n p).length = false then some true else if anyF N i (statesP N.n p) true (statesP N.n p).length = false then some false else none := by
  have hne := statesP_ne N.n p
  unfold frcP anyF
  rw [List.take_length]
  obtain ⟨L, hL⟩ : ∃ L, statesP N.n p = L := ⟨_, rfl⟩
  rw [hL] at hne ⊢
  cases L with
  | nil => exact absurd rfl hne
  | cons x r => exact frc_list (N.f i) x r
theorem sprTo_skip {N : Net} {p : Trm} {k : Nat} (h : sprP N p k = p k) (j : Nat) : sprTo N p k j = sprTo N p (k + 1) j := by
  unfold sprTo
  by_cases e : j = k
  · subst e; rw [if_neg (Nat.lt_irrefl _), if_pos (Nat.lt_succ_self _), h]
  · by_cases e2 : j < k
    · rw [if_pos e2, if_pos (by omega)]
    · rw [if_neg e2, if_neg (by omega)]
theorem sprTo_put {N : Net} {p : Trm} {k : Nat} {o : Option Bool} (h : sprP N p k = o) (j : Nat) : (if j = k then o else sprTo N p k j) = sprTo N p (k + 1) j := by
  unfold sprTo
  by_cases e : j = k
  · subst e; rw [if_pos rfl, if_pos (Nat.lt_succ_self _), h]
  · rw [if_neg e]
    by_cases e2 : j < k
    · rw [if_pos e2, if_pos (by omega)]
    · rw [if_neg e2, if_neg (by omega)]
set_option maxHeartbeats 8000000 in
theorem spread_any (b cap : Nat) (N : Net) (hn : N.n ≤ 5) (p0 : Trm) (w : World) (hat : NetAt w b N.n N.f) (hb : b < w.heap.size) :
    Calls Tryz.prog 69 #[.slice (some ⟨b, 0, none⟩) N.n cap, .string (termT N.n p0)] w fun e w' => Below w.heap.size w w' ∧ e = .returned (.string (termT N.n (sprF N.n N p0))) := by
  have Hat := Lib.hid hat
  have hpw := pw_le hn
  clear hat
  go_enter Tryz.func69, Tryz.ntmps69
  go_wp2_with fail
  go_loopw [1, 5, 6, 7, 9, 14, 26, 39, 46] (fun t _ _ _ _ _ _ _ _ wr => ∃ p : Trm, t = .string (termT N.n p) ∧ termT N.n (sprF N.n N p) = termT N.n (sprF N.n N p0) ∧ Below w.heap.size w wr) (fun t _ _ _ _ _ _ _ _ _ => starV t)
  case atStart => exact ⟨p0, rfl, rfl, Below.refl _ _⟩
  case round =>
    obtain ⟨p, rfl, heq, hW⟩ := hrel
    have hWs := hW.size
    have Heq := Lib.hid heq
    obtain ⟨wo, rfl⟩ : ∃ wo : World, wo = wr := ⟨_, rfl⟩
    obtain ⟨cp, w2, hcv, hT, hW2, hsz2⟩ := termAt_new wo N.n p
    have hB2 : Below w.heap.size w w2 := hW.trans (hW2.mono hWs)
    have HT := Lib.hid hT
    have HT0 := Lib.hid (hT.congr (q := sprTo N p 0) fun i hi => by unfold sprTo; rw [if_neg (by omega)])
    have cS := Lib.hid (fun wx => statesOf_any N.n p hn wx)
    have hstop := Lib.hid (fun h : sprD N p => spr_stop h)
    have hnext := Lib.hid (spr_next N p)
    have hstar := Lib.hid (fun h : ¬ sprD N p => spr_star h)
    have hfrc := Lib.hid (fun i => frc_any (N := N) (p := p) (i := i))
    have hsv := Lib.hid (starV_term N.n p)
    have hsv2 := Lib.hid (starV_term N.n (sprP N p))
    have hspr := Lib.hid (fun i => (rfl : sprP N p i = match p i with | none => frcP N p i | some b => some b))
    clear hT heq
    have hB2s := hW2.size
    go_wp2_with fail
    clear hcv
    go_loopw [6, 7, 9, 14, 26, 39, 46] (fun _ _ _ j _ _ _ wx => ∃ k : Nat, k ≤ N.n ∧ j = .int .i64 k ∧ TermAt wx wo.heap.size N.n (sprTo N p k) ∧ Below wo.heap.size wo wx) (fun _ _ _ j _ _ _ _ => N.n - (intOf j).toNat)
    case atStart => exact ⟨0, Nat.zero_le _, rfl, HT0.out, hW2⟩
    case round =>
      obtain ⟨k, hk, rfl, hTk, hWk⟩ := hrel
      have hWks := hWk.size
      have HTk := Lib.hid hTk
      have hgl := hTk.lt
      by_cases hlt : k < N.n
      · obtain ⟨hck, hfk⟩ := hTk.cell hlt
        have hself : sprTo N p k k = p k := by unfold sprTo; rw [if_neg (Nat.lt_irrefl _)]
        rw [hself] at hck
        clear hTk
        cases hpk : p k with
        | some b =>
          rw [hpk] at hck
          have hlv : ((lv (some b) : Nat) : Int) ≠ 42 := by cases b <;> decide
          have Hnx := Lib.hid (HTk.out.congr (q := sprTo N p (k + 1)) fun j _ => sprTo_skip (by unfold sprP; rw [hpk]) j)
          obtain ⟨lb, hlb⟩ : ∃ x, lv (some b) = x := ⟨_, rfl⟩
          rw [hlb] at hck hlv
          clear hlb hself hpk
          go_wp2_with fail
          go_roundw
          case rel => exact ⟨k + 1, by omega, by go_num, Hnx.out, hWk⟩
          case measure => simp [intOf] <;> omega
        | none =>
          rw [hpk] at hck
          have hlv : lv none = 42 := rfl
          rw [hlv] at hck
          clear hself
          go_wp2_with fail
          obtain ⟨w1, hw1⟩ : ∃ x, wr.alloc (.cells #[.bool false, .bool false] 111) = x := ⟨_, rfl⟩
          have hnew : w1.heap[wr.heap.size]? = some (.cells #[.bool false, .bool false] 111 (0, 0)) := by rw [← hw1]; exact heap_alloc_new _ _
          have hsz1 : w1.heap.size = wr.heap.size + 1 := by rw [← hw1, World.size_alloc]
          have hB1 : Below wr.heap.size wr w1 := by rw [← hw1]; exact (Below.refl _ _).alloc (Nat.le_refl _) _
          rw [hw1]
          clear hw1
          refine (cS.out _).mono ?_
          rintro e w3 ⟨hW3, aS, rfl, hI⟩
          have hnew3 := (hW3.block wr.heap.size (by omega)).trans hnew
          have hB3 : Below wr.heap.size wr w3 := hB1.trans (hW3.mono (by omega))
          have hW3s := hW3.size
          have Hnew3 := Lib.hid hnew3
          have HI := Lib.hid hI
          have hfk' := hfrc.out k
          obtain ⟨wk, rfl⟩ : ∃ wk : World, wk = wr := ⟨_, rfl⟩
          have hSlt := Lib.hid (fun j (h : j < (statesP N.n p).length) => ((statesP_mem _ _ _).1 (List.getElem_mem h)).1)
          have hSlen : (statesP N.n p).length ≤ 32 := by
            have := statesP_length N.n p
            omega
          have hsprn : sprP N p k = frcP N p k := by unfold sprP; rw [hpk]
          have Hsprn := Lib.hid hsprn
          have Hpk := Lib.hid hpk
          obtain ⟨S, hS⟩ : ∃ S, statesP N.n p = S := ⟨_, rfl⟩
          rw [hS] at HI hSlt hSlen hfk' ⊢
          have Hfk := Lib.hid hfk'
          clear hnew3 hnew hI hfk' hsprn hpk hS hspr
          go_wp2_with fail
          go_loopw [9, 26] (fun _ j wx => ∃ m : Nat, m ≤ S.length ∧ j = .int .i64 m ∧ wx.heap[wk.heap.size]? = some (.cells #[.bool (anyF N k S false m), .bool (anyF N k S true m)] 111 (0, 0)) ∧ (∀ q, q ≠ wk.heap.size → wx.heap[q]? = w3.heap[q]?) ∧ Below wk.heap.size w3 wx) (fun _ j _ => S.length - (intOf j).toNat)
          case atStart => exact ⟨0, Nat.zero_le _, rfl, by exact Hnew3.out, fun _ _ => rfl, Below.refl _ _⟩
          case round =>
            obtain ⟨m, hm, rfl, hseen, hoth, hBx⟩ := hrel
            obtain ⟨wx, rfl⟩ : ∃ wx : World, wx = wr := ⟨_, rfl⟩
            have hBxs := hBx.size
            have Hseen := Lib.hid hseen
            have Hoth := Lib.hid hoth
            by_cases hmlt : m < S.length
            · obtain ⟨g, cur, tt, rfl, hBg, hcur, hcs, hcells⟩ := HI.out.at' (by rw [natI_length]; omega)
              have hgb : g ≠ wk.heap.size := by omega
              have hcl : wx.cell? ⟨g, m, none⟩ = some (.int .i64 ((S[m] : Nat) : Int)) := by
                rw [cell_of_row wx _ _ _ _ _ ((hoth g hgb).trans hcur), hcells m (by rw [natI_length]; exact hmlt), natI_get]
              have hslt := hSlt.out m hmlt
              have hbb : b < wk.heap.size := by have := hW.size; omega
              have hnet : NetAt wx b N.n N.f := fun i hi j v hv => by
                have e : wx.heap[b]? = w.heap[b]? := by
                  rw [hoth b (by omega), hB3.block b hbb, hWk.block b (by have := hW.size; omega), hW.block b hb]
                rw [World.cell?_of_block e]
                exact Hat.out i hi j v hv
              have hbit : wx.cell? ⟨b, k * 33 + 1 + S[m], none⟩ = some (.int .u8 (b2 (N.f k S[m]))) := by
                rw [Nat.add_assoc]
                exact hnet k hlt (1 + S[m]) _ (by have := tcells_bit N.n (N.f k) S[m] (by omega); rwa [tcells, List.getElem?_toArray] at this)
              have hc0 : wx.cell? ⟨wk.heap.size, 0, none⟩ = some (.bool (anyF N k S false m)) := by rw [cell_of_row wx _ _ _ _ _ hseen]; rfl
              have hc1 : wx.cell? ⟨wk.heap.size, 1, none⟩ = some (.bool (anyF N k S true m)) := by rw [cell_of_row wx _ _ _ _ _ hseen]; rfl
              have hf0 : wx.frozen? ⟨wk.heap.size, 0, none⟩ = false := frozen_of_row wx _ _ _ _ hseen
              have hf1 : wx.frozen? ⟨wk.heap.size, 1, none⟩ = false := frozen_of_row wx _ _ _ _ hseen
              have s0 := anyF_succ N k S false m hmlt
              have s1 := anyF_succ N k S true m hmlt
              obtain ⟨s, hs⟩ : ∃ s, S[m] = s := ⟨_, rfl⟩
              rw [hs] at hcl hslt hbit s0 s1
              obtain ⟨bv, hbv⟩ : ∃ x, N.f k s = x := ⟨_, rfl⟩
              rw [hbv] at hbit s0 s1
              have S0 := Lib.hid s0
              have S1 := Lib.hid s1
              have hmi : (m : Int) < (S.length : Int) := by omega
              clear hcells hcur hs hbv s0 s1 hnet hseen hoth
              cases bv
              all_goals
                simp only [b2_true, b2_false] at hbit
                go_wp2_with fail
                go_roundw
                case rel => exact ⟨m + 1, by omega, by go_num, by rw [S0.out, S1.out]; exact (heap_setCell_same _ _ _ _ _ _ Hseen.out).trans (by simp), fun q hq => (Below.heap_setCell _ _ _ _ (by exact hq)).trans (Hoth.out q hq), hBx.setCell (Nat.le_refl _) _⟩
                case measure => simp [intOf] <;> omega
            · obtain rfl : m = S.length := by omega
              have hc0 : wx.cell? ⟨wk.heap.size, 0, none⟩ = some (.bool (anyF N k S false S.length)) := by rw [cell_of_row wx _ _ _ _ _ hseen]; rfl
              have hc1 : wx.cell? ⟨wk.heap.size, 1, none⟩ = some (.bool (anyF N k S true S.length)) := by rw [cell_of_row wx _ _ _ _ _ hseen]; rfl
              have hgw : wo.heap.size < wk.heap.size := hgl
              have hTx : TermAt wx wo.heap.size N.n (sprTo N p k) := HTk.out.same ((hoth _ (by omega)).trans (hB3.block _ hgw))
              obtain ⟨hckx, hfkx⟩ := hTx.cell hlt
              have HTx := Lib.hid hTx
              have hBf := Lib.hid (hWk.trans ((hB3.trans hBx).mono hWks))
              have hfk2 := Hfk.out
              obtain ⟨a0, ha0⟩ : ∃ x, anyF N k S false S.length = x := ⟨_, rfl⟩
              obtain ⟨a1, ha1⟩ : ∃ x, anyF N k S true S.length = x := ⟨_, rfl⟩
              rw [ha0] at hc0 hfk2
              rw [ha1] at hc1 hfk2
              have Hfk2 := Lib.hid (Hsprn.out.trans hfk2)
              obtain ⟨lk, hlk⟩ : ∃ x, lv (sprTo N p k k) = x := ⟨_, rfl⟩
              rw [hlk] at hckx
              clear ha0 ha1 hfk2 hseen hoth hTx hlk
              cases a0
              · have Hnx := Lib.hid ((HTx.out.set hlt (some true)).congr (q := sprTo N p (k + 1)) fun j _ => sprTo_put (Hfk2.out) j)
                go_wp2_with fail
                go_roundw
                case rel => exact ⟨k + 1, by omega, by go_num, Hnx.out, hBf.out.setCell (Nat.le_refl _) _⟩
                case measure => simp [intOf] <;> omega
              · cases a1
                · have Hnx := Lib.hid ((HTx.out.set hlt (some false)).congr (q := sprTo N p (k + 1)) fun j _ => sprTo_put (Hfk2.out) j)
                  go_wp2_with fail
                  go_roundw
                  case rel => exact ⟨k + 1, by omega, by go_num, Hnx.out, hBf.out.setCell (Nat.le_refl _) _⟩
                  case measure => simp [intOf] <;> omega
                · have Hnx := Lib.hid (HTx.out.congr (q := sprTo N p (k + 1)) fun j _ => sprTo_skip (Hfk2.out.trans Hpk.out.symm) j)
                  go_wp2_with fail
                  go_roundw
                  case rel => exact ⟨k + 1, by omega, by go_num, Hnx.out, hBf.out⟩
                  case measure => simp [intOf] <;> omega
      · obtain rfl : k = N.n := by omega
        have Hfin := Lib.hid (hTk.congr (q := sprP N p) fun j hj => by unfold sprTo; rw [if_pos hj])
        have hcv2 := Hfin.out.text cp
        have Hd := Lib.hid (sprD_text N p)
        have hBo := Lib.hid (hW.trans (hWk.mono hWs))
        obtain ⟨tN, htN⟩ : ∃ x, termT N.n (sprP N p) = x := ⟨_, rfl⟩
        rw [htN] at hcv2 Hd
        obtain ⟨tp, htp⟩ : ∃ x, termT N.n p = x := ⟨_, rfl⟩
        rw [htp] at Hd ⊢
        have HtN := Lib.hid htN
        have Htp := Lib.hid htp
        clear hTk htN htp
        by_cases hd : sprD N p
        · have hb2 := eq_of_beq (Hd.out.2 hd)
          have Hst := Lib.hid (hstop.out hd)
          clear hd
          go_wp2_with fail
          go_ret
          exact ⟨hBo.out, by rw [← Heq.out, Hst.out, Htp.out]; rfl⟩
        · have hb2 : (tN.toList == tp.toList) = false := by
            cases h : (tN.toList == tp.toList)
            · rfl
            · exact absurd (Hd.out.1 h) hd
          have Hst := Lib.hid (hstar.out hd)
          clear hd
          go_wp2_with fail
          go_roundw
          case rel => exact ⟨sprP N p, by rw [HtN.out], hnext.out.trans Heq.out, hBo.out⟩
          case measure =>
            rw [← HtN.out, starV_term, starV_term]
            exact Hst.out
/-- what a term spreads to -/
def sprT (t u : ByteArray) : ByteArray := if termOk t u then termT (netOf t).n (sprF (netOf t).n (netOf t) (ofT u)) else ByteArray.empty
theorem spreadTerm_impl (t u : ByteArray) (w : World) (hs : t.size ≤ 1048576) (hu : u.size ≤ 1048576) :
    Calls Tryz.prog 26 #[.string t, .string u] w fun e w' => Below w.heap.size w w' ∧ e = .returned (.tuple #[.string (sprT t u), .bool (termOk t u)]) := by
  cases hok : termOk t u
  · have hr : sprT t u = ByteArray.empty := by rw [sprT, hok]; rfl
    rw [hr]
    have c := Lib.hid (termOf_no t u w hs hu hok)
    clear hr hok
    go_enter Tryz.func26, Tryz.ntmps26
    go_wp2_with fail
    refine c.out.mono ?_
    rintro e w1 ⟨hW1, v, rfl⟩
    go_wp2_with fail
    go_ret2
    exact ⟨hW1, rfl⟩
  · have hr : sprT t u = termT (netOf t).n (sprF (netOf t).n (netOf t) (ofT u)) := by rw [sprT, hok]; rfl
    have hok2 := hok
    unfold termOk at hok2
    rw [Bool.and_eq_true] at hok2
    have hn := netOf_ok hok2.1
    have hut : termT (netOf t).n (ofT u) = u := termT_of hok2.2
    have c := termOf_yes t u w hs hu hok
    rw [hr]
    obtain ⟨p0, hp0⟩ : ∃ p0, ofT u = p0 := ⟨_, rfl⟩
    rw [hp0] at hut ⊢
    rw [← hut]
    rw [← hut] at c
    obtain ⟨N, hN⟩ : ∃ N, netOf t = N := ⟨_, rfl⟩
    rw [hN] at hn c ⊢
    have C := Lib.hid c
    clear hr hok hok2 hut c hN hp0 hu
    go_enter Tryz.func26, Tryz.ntmps26
    go_wp2_with fail
    refine C.out.mono ?_
    rintro e w1 ⟨hW1, b, cap, rfl, hb1, hb2, hat⟩
    have c2 := Lib.hid (spread_any b cap N hn.2 p0 w1 hat hb2)
    clear hat
    go_wp2_with fail
    refine c2.out.mono ?_
    rintro e w2 ⟨hW2, rfl⟩
    go_wp2_with fail
    go_ret2
    exact ⟨hW1.trans (hW2.mono hW1.size), rfl⟩
end Go.Proofs.YtkfagolmpbbckaaGreatDoor
namespace Go.Proofs.YtkfagolmpbbckaaGreatDoor
open Go Go.RowKit Go.Sw
set_option maxRecDepth 100000
set_option linter.unusedVariables false
/-- did one of the first k switches change? -/
def chB (N : Net) (p : Trm) : Nat → Bool
  | 0 => false
  | k + 1 => chB N p k || ((p k).isNone && (frcP N p k).isSome)
theorem chB_iff (N : Net) (p : Trm) (k : Nat) : chB N p k = false ↔ ∀ j, j < k → sprP N p j = p j := by
  induction k with
  | zero => exact ⟨fun _ j h => absurd h (Nat.not_lt_zero _), fun _ => rfl⟩
  | succ k ih =>
    rw [chB, Bool.or_eq_false_iff, ih]
    have hk : ((p k).isNone && (frcP N p k).isSome) = false ↔ sprP N p k = p k := by
      unfold sprP
      cases h1 : p k with
      | some b => simp
      | none => cases h2 : frcP N p k <;> simp
    rw [hk]
    constructor
    · rintro ⟨h1, h2⟩ j hj
      by_cases e : j = k
      · subst e; exact h2
      · exact h1 j (by omega)
    · intro h
      exact ⟨fun j hj => h j (by omega), h k (by omega)⟩
theorem termT_snoc (k : Nat) (q : Trm) : termT (k + 1) q = termT k q ++ bs [letterT (q k)] := by
  apply ba_ext
  simp [termT, bs_data, ByteArray.data_append, List.range_succ]
theorem termT_zero (q : Trm) : termT 0 q = ⟨#[]⟩ := rfl
theorem termT_cut (n : Nat) (p : Trm) (k : Nat) (h : k < n) : (termT n p).extract k (k + 1) = bs [letterT (p k)] := by
  apply ba_ext
  simp only [ByteArray.data_extract, Array.toList_extract, termT, bs_data]
  rw [List.extract_eq_take_drop, Nat.add_sub_cancel_left]
  rw [List.drop_eq_getElem_cons (by simpa using h)]
  simp
def mesV (q ag : Value) : Nat := match ag with | .bool true => starV q + 1 | _ => 0
end Go.Proofs.YtkfagolmpbbckaaGreatDoor
