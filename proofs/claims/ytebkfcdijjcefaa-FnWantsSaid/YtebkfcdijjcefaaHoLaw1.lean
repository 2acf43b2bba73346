/- Contracts of AreHolds: the program's and the reference's. No condition but the sizes. -/
import Derived.Test.YtebkfcdijjcefaaHoGood3
namespace Go.Proofs.Ytebkfcdijjcefaa
set_option linter.unusedVariables false
set_option linter.unusedSimpArgs false
open Go.RowKit
theorem specAreHolds_c (xs : List Hold) (A : Option Addr) (c : Nat) (w : World) (hr : Rd encHold 3 w.heap.size w A xs) (hn : xs.length ≤ 1048576) (hw : ∀ x ∈ xs, x.owner.size ≤ 9223372036854775807) :
    Calls Try.prog 22 #[.slice A xs.length c] w (Ret (.bool (goodH xs)) w) := by
  have HW := Lib.hid hw
  clear hw
  go_enter Try.func22, Try.ntmps22
  go_wp2_with fail
  refine (l19Good_c xs _ _ _ hr hn HW.out).mono ?_
  rintro e w1 ⟨rfl, hb1⟩
  go_wp2_with fail
  go_returns
  exact ⟨rfl, hb1⟩
theorem implAreHolds_c (xs : List Hold) (A : Option Addr) (c : Nat) (w : World) (hr : Rd encHold 3 w.heap.size w A xs) (hn : xs.length ≤ 1048576) (hw : ∀ x ∈ xs, x.owner.size ≤ 9223372036854775807) :
    Calls Try.prog 21 #[.slice A xs.length c] w (Ret (.bool (goodH xs)) w) := by
  have HW := Lib.hid hw
  clear hw
  go_enter Try.func21, Try.ntmps21
  go_wp2_with fail
  refine (areHolds_c xs _ _ _ hr hn HW.out).mono ?_
  rintro e w1 ⟨rfl, hb1⟩
  go_wp2_with fail
  go_returns
  exact ⟨rfl, hb1⟩
end Go.Proofs.Ytebkfcdijjcefaa
