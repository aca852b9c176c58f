/- Plain facts: the fixed points by way of the reduced network, sorted. -/
import Derived.Test.YtkfagolmpbbckaaDoorPg
import Derived.Test.YtkfagolmpbbckaaDoorImplB
import Derived.Test.YtkfagolmpbbckaaDoorSpecE
import Derived.Test.YtkfagolmpbbckaaDoorAt
namespace Go.Sw
open Go
theorem redP_inj : ∀ (f : Nat) (N : Net) (s u : Nat), redP f N s = redP f N u → s = u
  | 0, _, _, _, h => h
  | f + 1, N, s, u, h => by
    rw [redP, redP] at h
    by_cases e : ffI N < 0
    · rwa [if_pos e, if_pos e] at h
    · rw [if_neg e, if_neg e] at h
      have h2 := congrArg (fun x => dropN x (ffI N).toNat) h
      simp only [drop_lift] at h2
      exact redP_inj f _ s u h2
end Go.Sw
namespace Go.Proofs.YtkfagolmpbbckaaDoor
open Go Go.RowKit Go.Sw
/-- the fixed points of the reduced network, lifted -/
def redQ (t : ByteArray) : List Nat := (pointsL (redT t)).map (redP (netOf t).n (netOf t))
/-- .. in order -/
def ptsR (t : ByteArray) : List Nat := if netOk t then pickL (fun s => (redQ t).contains s) 32 else []
theorem fixL_eqvR {N M : Net} (h : N.eqv M) : fixL N = fixL M := by
  unfold fixL
  rw [← h.1]
  exact pickL_congr fun s hs => by unfold fixB; rw [h.step hs]
theorem fixL_text {M : Net} (h1 : 1 ≤ M.n) (h5 : M.n ≤ 5) : pointsL (netText M) = fixL M := by
  rw [pointsL, netOk_text h1 h5, if_pos rfl]
  exact fixL_eqvR (netOf_text h1)
theorem pointsR {t : ByteArray} (h : netOk t = true) : pointsL (redT t) = fixL (redN (netOf t).n (netOf t)) := by
  have hn := netOf_ok h
  have h1 := redN_pos (netOf t).n (netOf t) hn.1
  have : redT t = netText (redN (netOf t).n (netOf t)) := by rw [redT, h]; rfl
  rw [this]
  exact fixL_text h1.1 (Nat.le_trans h1.2 hn.2)
theorem pointsR_no {t : ByteArray} (h : netOk t = false) : pointsL (redT t) = [] := by
  have : redT t = ByteArray.empty := by rw [redT, h]; rfl
  rw [this]; decide +kernel
theorem pointsR_lift {t : ByteArray} (h : netOk t = true) : ∀ x ∈ pointsL (redT t), liftPI t (x : Int) = ((redP (netOf t).n (netOf t) x : Nat) : Int) ∧ redP (netOf t).n (netOf t) x < 32 := fun x hx => by
  have hn := netOf_ok h
  rw [pointsR h] at hx
  have hlt := (fixL_mem.1 hx).1
  have h1 := redP_lt (netOf t).n (netOf t) x hlt
  have h2 := (pw_le hn.2).2
  refine ⟨?_, by omega⟩
  rw [liftPI, liftPB, h, decide_eq_true (show (0 : Int) ≤ x by omega), decide_eq_true (show (x : Int) < ((pw (redN (netOf t).n (netOf t)).n : Nat) : Int) by omega)]
  rfl
theorem redQ_nodup (t : ByteArray) : (redQ t).Nodup := by
  unfold redQ
  cases h : netOk t
  · rw [pointsR_no h]; exact List.nodup_nil
  · rw [pointsR h]
    exact nodup_map (pickL_nodup _ _) fun x _ y _ e => redP_inj _ _ _ _ e
theorem redQ_lt {t : ByteArray} (h : netOk t = true) : ∀ x ∈ redQ t, x < 32 := fun x hx => by
  obtain ⟨y, hy, rfl⟩ := List.mem_map.1 hx
  exact (pointsR_lift h y hy).2
theorem sort_pickL {L : List Nat} (hnd : L.Nodup) (hlt : ∀ x ∈ L, x < 32) : ((nats L).mergeSort fun x y => decide (x ≤ y)) = nats (pickL (fun s => L.contains s) 32) := by
  have hp : (nats L).Perm (nats (pickL (fun s => L.contains s) 32)) :=
    List.Perm.map _ ((List.perm_ext_iff_of_nodup hnd (pickL_nodup _ _)).2 fun x => by
      rw [pickL_mem, List.contains_eq_mem, decide_eq_true_eq]
      exact ⟨fun h => ⟨hlt x h, h⟩, fun h => h.2⟩)
  refine List.Perm.eq_of_pairwise (le := fun x y : Int => x ≤ y) (fun a b _ _ h1 h2 => by omega) ?_ ?_ ((List.mergeSort_perm _ _).trans hp)
  · have := List.pairwise_mergeSort (le := fun x y : Int => decide (x ≤ y)) (fun a b c h1 h2 => by rw [decide_eq_true_eq] at *; omega) (fun a b => by rw [Bool.or_eq_true, decide_eq_true_eq, decide_eq_true_eq]; omega) (nats L)
    exact this.imp fun h => by simpa using h
  · unfold nats
    rw [List.pairwise_map]
    exact (pickL_sorted _ _).imp fun h => by
      show Int.ofNat _ ≤ Int.ofNat _
      exact Int.ofNat_le.2 (Nat.le_of_lt h)
theorem natL_nats (L : List Nat) : natL L = nats L := rfl
end Go.Proofs.YtkfagolmpbbckaaDoor
