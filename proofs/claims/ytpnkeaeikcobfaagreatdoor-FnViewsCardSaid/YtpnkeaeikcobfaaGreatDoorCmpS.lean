/- Contracts of cmp.Compare at string. No condition of its own. -/
import Derived.Test.YtpnkeaeikcobfaaGreatDoorCmp
import Derived.Laws.Cover1
namespace Go.Proofs.YtpnkeaeikcobfaaGreatDoor
set_option linter.unusedVariables false
set_option linter.unusedSimpArgs false
open Go.RowKit
def sLt (x y : ByteArray) : Bool := Op.bytesLess x.toList y.toList
def cmpS (x y : ByteArray) : Int := if sLt x y = true then -1 else if x = y then 0 else 1
theorem toList_beq (x y : ByteArray) : (x.toList == y.toList) = decide (x = y) := by
  by_cases h : x = y
  · subst h; simp
  · rw [decide_eq_false h, beq_eq_false_iff_ne]
    intro h2
    exact h (by
      have h3 : x.data.toList = y.data.toList := by rw [← ByteArray.toList_eq, ← ByteArray.toList_eq]; exact h2
      cases x; cases y; simpa using h3)
theorem isNaNS_c (x : ByteArray) (w : World) : Calls Tryz.prog 73 #[.string x] w (Pure (.bool false) w) := by
  go_enter Tryz.func73, Tryz.ntmps73
  go_wp2_with fail
  go_returns
  exact ⟨ret_bool (by simp), rfl⟩
theorem compareS_c (x y : ByteArray) (w : World) : Calls Tryz.prog 56 #[.string x, .string y] w (Pure (.int .i64 (cmpS x y)) w) := by
  by_cases h1 : sLt x y = true
  · have HV := Lib.hid (show cmpS x y = -1 by simp [cmpS, h1])
    have h1' : Op.bytesLess x.toList y.toList = true := h1
    go_enter Tryz.func56, Tryz.ntmps56
    go_wp2_with (go_at_call 73; refine (isNaNS_c _ _).mono ?_; rintro e w' ⟨rfl, rfl⟩)
    go_returns
    exact ⟨ret_int HV.out.symm, rfl⟩
  · have h1' : Op.bytesLess x.toList y.toList = false := by simpa [sLt] using h1
    by_cases h2 : x = y
    · have HV := Lib.hid (show cmpS x y = 0 by rw [cmpS, if_neg h1, if_pos h2])
      have h3 : (x.toList == y.toList) = true := by rw [toList_beq]; simpa using h2
      clear h2
      go_enter Tryz.func56, Tryz.ntmps56
      go_wp2_with (go_at_call 73; refine (isNaNS_c _ _).mono ?_; rintro e w' ⟨rfl, rfl⟩)
      go_returns
      exact ⟨ret_int HV.out.symm, rfl⟩
    · have HV := Lib.hid (show cmpS x y = 1 by rw [cmpS, if_neg h1, if_neg h2])
      have h3 : (x.toList == y.toList) = false := by rw [toList_beq]; simpa using h2
      clear h2
      go_enter Tryz.func56, Tryz.ntmps56
      go_wp2_with (go_at_call 73; refine (isNaNS_c _ _).mono ?_; rintro e w' ⟨rfl, rfl⟩)
      go_returns
      exact ⟨ret_int HV.out.symm, rfl⟩
end Go.Proofs.YtpnkeaeikcobfaaGreatDoor
