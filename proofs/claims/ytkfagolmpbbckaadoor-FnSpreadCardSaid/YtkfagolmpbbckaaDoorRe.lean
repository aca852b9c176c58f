/- Plain words and lemmas: removing the least free switch again and again. -/
import Derived.Test.YtkfagolmpbbckaaDoorTu
namespace Go.Sw
open Go

/-- the first switch that can be removed, or -1 -/
def ffI (N : Net) : Int := firstI (freeB N) N.n
theorem ffI_cases (N : Net) : (ffI N = -1 ∧ ∀ k, k < N.n → freeB N k = false) ∨ ∃ k : Nat, k < N.n ∧ ffI N = (k : Int) ∧ freeB N k = true ∧ ∀ j, j < k → freeB N j = false := firstI_cases _ _
theorem firstI_congr {p q : Nat → Bool} {m : Nat} (h : ∀ s, s < m → p s = q s) : firstI p m = firstI q m := by
  induction m with
  | zero => rfl
  | succ m ih => rw [firstI, firstI, ih fun s hs => h s (by omega), h m (by omega)]
theorem Net.eqv.ff {N M : Net} (h : N.eqv M) : ffI N = ffI M := by
  unfold ffI
  rw [← h.1]
  exact firstI_congr fun i hi => h.free hi
/-- what is removed, what is left, a state with all removed switches put in -/
def redG : Nat → Net → List Int
  | 0, _ => []
  | f + 1, N => if ffI N < 0 then [] else ffI N :: redG f (remN N (ffI N).toNat)
def redN : Nat → Net → Net
  | 0, N => N
  | f + 1, N => if ffI N < 0 then N else redN f (remN N (ffI N).toNat)
def redP : Nat → Net → Nat → Nat
  | 0, _, s => s
  | f + 1, N, s => if ffI N < 0 then s else liftN N (ffI N).toNat (redP f (remN N (ffI N).toNat) s)
theorem freeB_two {N : Net} {k : Nat} (h : freeB N k = true) : 2 ≤ N.n := by
  simp only [freeB, Bool.and_eq_true, decide_eq_true_eq] at h; exact h.1
theorem redG_none {N : Net} (h : ffI N = -1) (f : Nat) : redG f N = [] := by cases f <;> simp [redG, h]
theorem redN_none {N : Net} (h : ffI N = -1) (f : Nat) : redN f N = N := by cases f <;> simp [redN, h]
theorem redP_none {N : Net} (h : ffI N = -1) (f s : Nat) : redP f N s = s := by cases f <;> simp [redP, h]
theorem redG_some {N : Net} {k : Nat} (h : ffI N = (k : Int)) (f : Nat) : redG (f + 1) N = (k : Int) :: redG f (remN N k) := by
  rw [redG, h, if_neg (by omega), Int.toNat_natCast]
theorem redN_some {N : Net} {k : Nat} (h : ffI N = (k : Int)) (f : Nat) : redN (f + 1) N = redN f (remN N k) := by
  rw [redN, h, if_neg (by omega), Int.toNat_natCast]
theorem redP_some {N : Net} {k : Nat} (h : ffI N = (k : Int)) (f s : Nat) : redP (f + 1) N s = liftN N k (redP f (remN N k) s) := by
  rw [redP, h, if_neg (by omega), Int.toNat_natCast]
theorem remN_n (N : Net) (k : Nat) : (remN N k).n = N.n - 1 := rfl
theorem redG_length (f : Nat) (N : Net) : (redG f N).length ≤ f := by
  induction f generalizing N with
  | zero => exact Nat.le_refl _
  | succ f ih =>
    rcases ffI_cases N with ⟨h, _⟩ | ⟨k, _, h, _⟩
    · rw [redG_none h]; simp
    · rw [redG_some h]; have := ih (remN N k); simp; omega
/-- enough steps -/
theorem redN_pos (f : Nat) (N : Net) (h1 : 1 ≤ N.n) : 1 ≤ (redN f N).n ∧ (redN f N).n ≤ N.n := by
  induction f generalizing N with
  | zero => exact ⟨h1, Nat.le_refl _⟩
  | succ f ih =>
    rcases ffI_cases N with ⟨h, _⟩ | ⟨k, hk, h, hf, _⟩
    · rw [redN_none h]; exact ⟨h1, Nat.le_refl _⟩
    · rw [redN_some h]
      have := ih (remN N k) (by rw [remN_n]; have := freeB_two hf; omega)
      rw [remN_n] at this; omega
theorem redN_done (f : Nat) (N : Net) (h : N.n ≤ f) : ffI (redN f N) = -1 := by
  induction f generalizing N with
  | zero =>
    show firstI _ N.n = -1
    rw [show N.n = 0 by omega]; rfl
  | succ f ih =>
    rcases ffI_cases N with ⟨h, _⟩ | ⟨k, hk, h', hf, _⟩
    · rw [redN_none h]; exact h
    · rw [redN_some h']; exact ih _ (by rw [remN_n]; omega)
theorem redP_lt (f : Nat) (N : Net) (s : Nat) (hs : s < pw (redN f N).n) : redP f N s < pw N.n := by
  induction f generalizing N with
  | zero => exact hs
  | succ f ih =>
    rcases ffI_cases N with ⟨h, _⟩ | ⟨k, hk, h, hf, _⟩
    · rw [redP_none h]; rwa [redN_none h] at hs
    · rw [redP_some h]
      rw [redN_some h] at hs
      exact liftN_lt N k _ hk (ih (remN N k) hs)
theorem Net.eqv.redG {N M : Net} (h : N.eqv M) (f : Nat) : redG f N = redG f M := by
  induction f generalizing N M with
  | zero => rfl
  | succ f ih =>
    rcases ffI_cases N with ⟨h', _⟩ | ⟨k, hk, h', hf, _⟩
    · rw [redG_none h', redG_none (h.ff ▸ h')]
    · rw [redG_some h', redG_some (h.ff ▸ h'), ih (h.rem hk)]
theorem Net.eqv.redN {N M : Net} (h : N.eqv M) (f : Nat) : (redN f N).eqv (redN f M) := by
  induction f generalizing N M with
  | zero => exact h
  | succ f ih =>
    rcases ffI_cases N with ⟨h', _⟩ | ⟨k, hk, h', hf, _⟩
    · rw [redN_none h', redN_none (h.ff ▸ h')]; exact h
    · rw [redN_some h', redN_some (h.ff ▸ h')]; exact ih (h.rem hk)
theorem Net.eqv.redP {N M : Net} (h : N.eqv M) (f s : Nat) (hs : s < pw (Go.Sw.redN f N).n) : redP f N s = redP f M s := by
  induction f generalizing N M with
  | zero => rfl
  | succ f ih =>
    rcases ffI_cases N with ⟨h', _⟩ | ⟨k, hk, h', hf, _⟩
    · rw [redP_none h', redP_none (h.ff ▸ h')]
    · rw [redP_some h', redP_some (h.ff ▸ h')]
      rw [redN_some h'] at hs
      rw [← ih (h.rem hk) hs, h.lift hk (redP_lt f (remN N k) s hs)]
/-- a state lifted along a list of networks, the last one first -/
def liftAllN : List Net → List Nat → Nat → Nat
  | M :: Ms, k :: G, s => liftN M k (liftAllN Ms G s)
  | _, _, s => s
theorem liftAllN_snoc (Ms : List Net) (G : List Nat) (M : Net) (k s : Nat) (h : Ms.length = G.length) : liftAllN (Ms ++ [M]) (G ++ [k]) s = liftAllN Ms G (liftN M k s) := by
  induction Ms generalizing G with
  | nil =>
    cases G with
    | nil => rfl
    | cons a G => simp at h
  | cons A Ms ih =>
    cases G with
    | nil => simp at h
    | cons a G =>
      show liftN A a (liftAllN (Ms ++ [M]) (G ++ [k]) s) = liftN A a (liftAllN Ms G (liftN M k s))
      rw [ih G (by simpa using h)]
/-- removing from N0 on through the networks Ms the switches G leads to M -/
inductive Path (N0 : Net) : List Net → List Nat → Net → Prop
  | nil : Path N0 [] [] N0
  | snoc {Ms : List Net} {G : List Nat} {M M' : Net} {k : Nat} : Path N0 Ms G M → ffI M = (k : Int) → M'.eqv (remN M k) → Path N0 (Ms ++ [M]) (G ++ [k]) M'
theorem ff_lt {N : Net} {k : Nat} (h : ffI N = (k : Int)) : k < N.n ∧ freeB N k = true := by
  rcases ffI_cases N with ⟨h', _⟩ | ⟨j, hj, h', hf, _⟩
  · rw [h'] at h; omega
  · have : j = k := by rw [h'] at h; omega
    subst this; exact ⟨hj, hf⟩
theorem Path.lens {N0 M : Net} {Ms : List Net} {G : List Nat} (h : Path N0 Ms G M) : Ms.length = G.length ∧ M.n + G.length = N0.n := by
  induction h with
  | nil => simp
  | snoc hp hk he ih =>
    have h1 := ff_lt hk
    have h2 := freeB_two h1.2
    have h3 := he.1
    rw [remN_n] at h3
    simp only [List.length_append, List.length_singleton]
    omega
/-- each network of the way, and its switch -/
theorem Path.get {N0 M : Net} {Ms : List Net} {G : List Nat} (h : Path N0 Ms G M) : ∀ j (h1 : j < Ms.length) (h2 : j < G.length), G[j] < Ms[j].n ∧ 2 ≤ Ms[j].n ∧ Ms[j].n + j = N0.n := by
  induction h with
  | nil => intro j h1; simp at h1
  | @snoc Ms G M M' k hp hk he ih =>
    intro j h1 h2
    have hl := hp.lens
    by_cases e : j < Ms.length
    · rw [List.getElem_append_left e, List.getElem_append_left (by omega)]
      exact ih j e (by omega)
    · simp only [List.length_append, List.length_singleton] at h1
      have e1 : j = Ms.length := by omega
      have h3 := ff_lt hk
      have h4 := freeB_two h3.2
      rw [List.getElem_append_right (by omega), List.getElem_append_right (by omega)]
      simp only [List.getElem_singleton]
      exact ⟨h3.1, h4, by omega⟩
theorem Path.red {N0 M : Net} {Ms : List Net} {G : List Nat} (h : Path N0 Ms G M) (f : Nat) (hf : G.length ≤ f) :
    redG f N0 = G.map Int.ofNat ++ redG (f - G.length) M ∧ (redN f N0).eqv (redN (f - G.length) M) ∧ ∀ s, s < pw (redN (f - G.length) M).n → redP f N0 s = liftAllN Ms G (redP (f - G.length) M s) := by
  induction h with
  | nil => exact ⟨rfl, Net.eqv.refl _, fun s _ => rfl⟩
  | @snoc Ms G M M' k hp hk he ih =>
    simp only [List.length_append, List.length_singleton] at hf
    obtain ⟨h1, h2, h3⟩ := ih (by omega)
    have e : f - G.length = (f - (G ++ [k]).length) + 1 := by simp; omega
    obtain ⟨m, hm⟩ : ∃ m, f - (G ++ [k]).length = m := ⟨_, rfl⟩
    rw [hm] at e ⊢
    rw [e, redG_some hk] at h1
    rw [e, redN_some hk] at h2
    have h4 := he.symm.redN m
    refine ⟨?_, h2.trans h4, fun s hs => ?_⟩
    · rw [h1, he.redG m]; simp
    · have hs' : s < pw (redN m (remN M k)).n := by rw [h4.1]; exact hs
      have h5 := h3 s (by rw [e, redN_some hk]; exact hs')
      rw [e, redP_some hk] at h5
      rw [h5, liftAllN_snoc _ _ _ _ _ hp.lens.1, he.symm.redP m s hs']
/-- what ReduceNetwork and LiftPoint say -/
def redT (w : ByteArray) : ByteArray := if netOk w then netText (redN (netOf w).n (netOf w)) else ByteArray.empty
def redL (w : ByteArray) : List Int := if netOk w then redG (netOf w).n (netOf w) else []
theorem redL_length (w : ByteArray) : (redL w).length ≤ 5 := by
  unfold redL
  split
  · rename_i h
    have := redG_length (netOf w).n (netOf w)
    have := (netOf_ok h).2
    omega
  · simp
def liftPB (w : ByteArray) (s : Int) : Bool := netOk w && (decide (0 ≤ s) && decide (s < (pw (redN (netOf w).n (netOf w)).n : Nat)))
def liftPI (w : ByteArray) (s : Int) : Int := if liftPB w s then (redP (netOf w).n (netOf w) s.toNat : Nat) else -1
end Go.Sw
