/- Contracts of the small functions on trials and odds. No condition of its own. -/
import Derived.Test.YtpnkeaeikcobfaaGreatDoorNum
namespace Go.Proofs.YtpnkeaeikcobfaaGreatDoor
set_option linter.unusedVariables false
set_option linter.unusedSimpArgs false
open Go.RowKit
def isTr (a b c : Int) : Bool := inR a 1 99 && inR b 1 99 && (a != b) && inR c 0 1000
def isOd (a b : Int) : Bool := inR a 1 1000 && inR b 1 1000 && (gc a b == 1)
def helpV (a b c : Int) : Value := .tuple #[.bool (isTr a b c && decide (b < a)), .bool (isTr a b c)]
theorem od_iff (a b : Int) (ha : 1 ≤ a) (hb : 1 ≤ b) : (a / gc a b == a) = (gc a b == 1) := by
  have hg := gc_pos a b (by omega)
  rw [Bool.eq_iff_iff]
  simp only [beq_iff_eq]
  constructor
  · intro h
    have h1 : a / gc a b * gc a b = a := Int.ediv_mul_cancel (by unfold gc; exact Int.gcd_dvd_left ..)
    rw [h] at h1
    have : a * (gc a b - 1) = 0 := by rw [Int.mul_sub, h1]; omega
    rcases Int.mul_eq_zero.1 this with h | h <;> omega
  · intro h; rw [h]; simp
def shareV (a b : Int) : Value := if isOd a b then .tuple #[.int .i64 (a / gc a (a + b)), .int .i64 ((a + b) / gc a (a + b)), .bool true] else .tuple #[.int .i64 0, .int .i64 0, .bool false]
theorem isOd_bd {a b : Int} (h : isOd a b = true) : 1 ≤ a ∧ a ≤ 1000 ∧ 1 ≤ b ∧ b ≤ 1000 := by
  simp [isOd, inR] at h; omega
end Go.Proofs.YtpnkeaeikcobfaaGreatDoor
