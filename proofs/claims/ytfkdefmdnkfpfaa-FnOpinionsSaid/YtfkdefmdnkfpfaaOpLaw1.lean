/- Contracts of AreOpinions: the program's and the reference's. No condition but the sizes. -/
import Derived.Test.YtfkdefmdnkfpfaaOpGood3
namespace Go.Proofs.Ytfkdefmdnkfpfaa
set_option linter.unusedVariables false
set_option linter.unusedSimpArgs false
open Go.RowKit
theorem specAreOpinions_c (xs : List Opinion) (A : Option Addr) (c : Nat) (w : World) (hr : Rd encOpinion 5 w.heap.size w A xs) (hn : xs.length ≤ 1048576) (hw : ∀ x ∈ xs, x.expert.size ≤ 9223372036854775807) :
    Calls Try.prog 22 #[.slice A xs.length c] w (Ret (.bool (goodO xs)) w) := by
  have HW := Lib.hid hw
  clear hw
  go_enter Try.func22, Try.ntmps22
  go_wp2_with fail
  refine (l17Good_c xs _ _ _ hr hn HW.out).mono ?_
  rintro e w1 ⟨rfl, hb1⟩
  go_wp2_with fail
  go_returns
  exact ⟨rfl, hb1⟩
theorem implAreOpinions_c (xs : List Opinion) (A : Option Addr) (c : Nat) (w : World) (hr : Rd encOpinion 5 w.heap.size w A xs) (hn : xs.length ≤ 1048576) (hw : ∀ x ∈ xs, x.expert.size ≤ 9223372036854775807) :
    Calls Try.prog 21 #[.slice A xs.length c] w (Ret (.bool (goodO xs)) w) := by
  have HW := Lib.hid hw
  clear hw
  go_enter Try.func21, Try.ntmps21
  go_wp2_with fail
  refine (areOpinions_c xs _ _ _ hr hn HW.out).mono ?_
  rintro e w1 ⟨rfl, hb1⟩
  go_wp2_with fail
  go_returns
  exact ⟨rfl, hb1⟩
end Go.Proofs.Ytfkdefmdnkfpfaa
