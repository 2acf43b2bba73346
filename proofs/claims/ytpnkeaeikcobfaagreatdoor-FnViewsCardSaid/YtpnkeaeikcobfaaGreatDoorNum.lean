/- Contracts of the functions that only compute with numbers: ranges, the greatest common divisor, fractions. No condition but that the numbers are not too large. -/
import Derived.Test.YtpnkeaeikcobfaaGreatDoorProg
import Derived.Test.YtpnkeaeikcobfaaGreatDoorLib
namespace Go.Proofs.YtpnkeaeikcobfaaGreatDoor
set_option linter.unusedVariables false
set_option linter.unusedSimpArgs false
open Go.RowKit
def inR (n a b : Int) : Bool := decide (a ≤ n) && decide (n ≤ b)
theorem inR_iff {n a b : Int} : inR n a b = true ↔ a ≤ n ∧ n ≤ b := by simp [inR]
theorem inRange_c (n a b : Int) (w : World) : Calls Tryz.prog 49 #[.int .i64 n, .int .i64 a, .int .i64 b] w (Pure (.bool (inR n a b)) w) := by
  by_cases h : a ≤ n
  all_goals
    go_enter Tryz.func49, Tryz.ntmps49
    go_wp2
    go_ret
    exact ⟨ret_bool (by simp [inR]; try omega), rfl⟩
theorem l1In_c (n a b : Int) (w : World) : Calls Tryz.prog 50 #[.int .i64 n, .int .i64 a, .int .i64 b] w (Pure (.bool (inR n a b)) w) := by
  by_cases h : a ≤ n
  all_goals
    go_enter Tryz.func50, Tryz.ntmps50
    go_wp2
    go_ret
    exact ⟨ret_bool (by simp [inR]; try omega), rfl⟩
/-- The greatest common divisor, as a number. -/
def gc (a b : Int) : Int := (Int.gcd a b : Nat)
theorem gc_zero (a : Int) (h : 0 ≤ a) : gc a 0 = a := by simp [gc]; omega
theorem gc_step (a b : Int) (ha : 0 ≤ a) (hb : 0 < b) : gc b (a % b) = gc a b := by
  obtain ⟨m, rfl⟩ := Int.eq_ofNat_of_zero_le ha
  obtain ⟨n, rfl⟩ := Int.eq_ofNat_of_zero_le (Int.le_of_lt hb)
  unfold gc
  rw [show ((m : Int) % (n : Int)) = ((m % n : Nat) : Int) from by omega]
  simp only [Int.gcd, Int.natAbs_natCast]
  rw [Nat.gcd_comm n, ← Nat.gcd_rec, Nat.gcd_comm]
theorem gc_pos (a b : Int) (hb : 0 < b) : 0 < gc a b := by
  unfold gc
  have : 0 < Int.gcd a b := Int.gcd_pos_of_ne_zero_right _ (by omega)
  omega
theorem gc_le (a b : Int) (ha : 0 ≤ a) (hb : 0 ≤ b) : gc a b ≤ a + b := by
  unfold gc
  by_cases h : b = 0
  · subst h; simp; omega
  · have := Int.gcd_le_right (a := a) (b := b) (by omega)
    omega
theorem l1Most_c (a b : Int) (w : World) : Calls Tryz.prog 62 #[.int .i64 a, .int .i64 b] w (Pure (.int .i64 (max a b)) w) := by
  by_cases h : b < a
  all_goals
    go_enter Tryz.func62, Tryz.ntmps62
    go_wp2
    go_ret
    exact ⟨ret_int (by omega), rfl⟩
end Go.Proofs.YtpnkeaeikcobfaaGreatDoor
