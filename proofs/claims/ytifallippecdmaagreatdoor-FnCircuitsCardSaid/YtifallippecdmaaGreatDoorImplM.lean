/- The program's arrows. -/
import Derived.Test.YtifallippecdmaaGreatDoorImplA
import Derived.Test.YtifallippecdmaaGreatDoorSx
import Derived.Test.YtifallippecdmaaGreatDoorP2
import Derived.Test.YtifallippecdmaaGreatDoorShelf
namespace Go.Proofs.YtifallippecdmaaGreatDoor
open Go Go.RowKit Go.Sw
set_option maxRecDepth 100000
set_option linter.unusedVariables false

/-- the text of a digit, as the library writes it -/
def itoT (d : Nat) : ByteArray := bs [UInt8.ofNat (48 + d)]
theorem itoa_any (i : Nat) (hi : i < 10) (w : World) :
    Calls Tryz.prog 17 #[.int .i64 i] w fun e w' => e = .returned (.string (itoT i)) ∧ w' = w := by
  have hd : (⟨(Lib.decDigits i).toArray⟩ : ByteArray) = itoT i := by
    have : i = 0 ∨ i = 1 ∨ i = 2 ∨ i = 3 ∨ i = 4 ∨ i = 5 ∨ i = 6 ∨ i = 7 ∨ i = 8 ∨ i = 9 := by omega
    rcases this with rfl | rfl | rfl | rfl | rfl | rfl | rfl | rfl | rfl | rfl <;> (apply ba_ext; decide +kernel)
  have c := Lib.hid (fun wx => Tryz.internal_strconv_Itoa_small i (by omega) wx)
  rw [hd] at c
  go_enter Tryz.func17, Tryz.ntmps17
  go_wp2_with fail
  refine (c.out _).mono ?_
  rintro e w' ⟨rfl, rfl⟩
  go_wp2_with fail
  go_ret
  exact ⟨rfl, rfl⟩
theorem arrT_join (N : Net) (i k : Nat) : ((itoT i ++ (⟨#[62]⟩ : ByteArray)) ++ itoT k) ++ (⟨#[signT (edgeC N i k)]⟩ : ByteArray) = arrT N i k := by
  apply ba_ext
  simp [itoT, arrT, ByteArray.data_append, bs_data]
theorem sign_zero (c : Nat) (h : c ≤ 3) : ((⟨#[signT c]⟩ : ByteArray).toList == [48]) = !decide (0 < c) := by
  have : c = 0 ∨ c = 1 ∨ c = 2 ∨ c = 3 := by omega
  rw [ByteArray.toList_eq]
  rcases this with rfl | rfl | rfl | rfl <;> decide
end Go.Proofs.YtifallippecdmaaGreatDoor
