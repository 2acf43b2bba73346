/- Contracts of the functions by which the laws copy, compare, count and mark records of the type Odds. No condition but the size that the laws ask. -/
import Derived.Test.YtlhfelfahcmnnaaRecOdds
import Derived.Test.YtlhfelfahcmnnaaMark
namespace Go.Proofs.Ytlhfelfahcmnnaa
set_option linter.unusedVariables false
set_option linter.unusedSimpArgs false
open Go.RowKit
theorem toOdds_c (t : Odds) (w : World) : Calls Try.prog 17 #[.agg #[.int .i64 t.real, .int .i64 t.fake]] w (Ret (.agg #[.int .i64 t.real, .int .i64 t.fake]) w) := by
  go_enter Try.func17, Try.ntmps17
  go_wp2_with fail
  go_returns
  exact ⟨rfl, by go_grown⟩
theorem eqOdds_c (t : Odds) (w : World) : Calls Try.prog 34 #[.agg #[.int .i64 t.real, .int .i64 t.fake], .agg #[.int .i64 t.real, .int .i64 t.fake]] w (Ret (.bool true) w) := by
  go_enter Try.func34, Try.ntmps34
  go_wp2
  go_returns
  exact ⟨rfl, by go_grown⟩
end Go.Proofs.Ytlhfelfahcmnnaa
