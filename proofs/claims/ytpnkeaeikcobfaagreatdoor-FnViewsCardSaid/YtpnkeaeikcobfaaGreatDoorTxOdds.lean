/- OddsText: the contracts of the program and the reference. No condition but that the table of powers lies as it is listed. -/
import Derived.Test.YtpnkeaeikcobfaaGreatDoorTxNum
import Derived.Test.YtpnkeaeikcobfaaGreatDoorTr
import Derived.Test.YtpnkeaeikcobfaaGreatDoorCvOdds
namespace Go.Proofs.YtpnkeaeikcobfaaGreatDoor
set_option linter.unusedVariables false
set_option linter.unusedSimpArgs false
open Go.RowKit
attribute [local irreducible] wpQuiet
theorem numB_sizeI {m : Int} (h0 : 0 ≤ m) (h1 : m ≤ 9223372036854775807) : (numB m).size ≤ 20 := by
  obtain ⟨k, rfl⟩ := Int.eq_ofNat_of_zero_le h0
  exact numB_size (by omega)
theorem l1NumI_c (m : Int) (h0 : 0 ≤ m) (h1 : m ≤ 9223372036854775807) (w : World) : Calls Tryz.prog 59 #[.int .i64 m] w (Ret (.string (numB m)) w) := by
  obtain ⟨k, rfl⟩ := Int.eq_ofNat_of_zero_le h0
  exact l1Num_c k w (by omega)
def otS (a b : Int) : ByteArray := numB a ++ ⟨#[58]⟩ ++ numB b
def otV (a b : Int) : ByteArray := if isOd a b = true then otS a b else ⟨#[]⟩
theorem otV_no {a b : Int} (h : isOd a b = false) : otV a b = ⟨#[]⟩ := by simp [otV, h]
theorem otV_yes {a b : Int} (h : isOd a b = true) : otV a b = otS a b := by simp [otV, h]
theorem ret_tb {a a' : ByteArray} {b b' : Bool} (h : a = a') (hb : b = b') : Ending.returned (.tuple #[.string a, .bool b]) = .returned (.tuple #[.string a', .bool b']) := by rw [h, hb]
end Go.Proofs.YtpnkeaeikcobfaaGreatDoor
