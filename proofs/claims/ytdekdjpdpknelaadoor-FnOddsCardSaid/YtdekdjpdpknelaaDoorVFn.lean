/- Contracts of the small functions by which the laws compare what they got. No condition but the sizes. -/
import Derived.Test.YtdekdjpdpknelaaDoorOver
import Derived.Test.YtdekdjpdpknelaaDoorScal
import Derived.Test.YtdekdjpdpknelaaDoorApp
namespace Go.Proofs.YtdekdjpdpknelaaDoor
set_option linter.unusedVariables false
set_option linter.unusedSimpArgs false
open Go.RowKit
attribute [local irreducible] wpQuiet
theorem vBig_c (n : Nat) (A : Option Addr) (c : Nat) (w : World) : Calls Tryd.prog 4 #[.slice A n c] w (Pure (.bool (decide (65536 < n))) w) := by
  go_enter Tryd.func4, Tryd.ntmps4
  go_wp2_with fail
  go_returns
  exact ⟨ret_bool (by simp; omega), rfl⟩
end Go.Proofs.YtdekdjpdpknelaaDoor
