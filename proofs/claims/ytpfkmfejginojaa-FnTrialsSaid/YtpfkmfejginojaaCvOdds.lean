/- Contracts of the functions by which the laws copy, compare, count and mark records of the type Odds. No condition but the size that the laws ask. -/
import Derived.Test.YtpfkmfejginojaaRecOdds
import Derived.Test.YtpfkmfejginojaaMark
namespace Go.Proofs.Ytpfkmfejginojaa
set_option linter.unusedVariables false
set_option linter.unusedSimpArgs false
open Go.RowKit
theorem toOdds_c (t : Odds) (w : World) : Calls Try.prog 9 #[.agg #[.int .i64 t.real, .int .i64 t.fake]] w (Ret (.agg #[.int .i64 t.real, .int .i64 t.fake]) w) := by
  go_enter Try.func9, Try.ntmps9
  go_wp2_with fail
  go_returns
  exact ⟨rfl, by go_grown⟩
end Go.Proofs.Ytpfkmfejginojaa
