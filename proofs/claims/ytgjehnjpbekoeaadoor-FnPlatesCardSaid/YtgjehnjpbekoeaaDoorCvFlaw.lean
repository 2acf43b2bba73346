/- Contracts of the functions by which the laws copy, compare, count and mark records of the type Flaw. No condition but the size that the laws ask. -/
import Derived.Test.YtgjehnjpbekoeaaDoorRecFlaw
import Derived.Test.YtgjehnjpbekoeaaDoorMark
namespace Go.Proofs.YtgjehnjpbekoeaaDoor
set_option linter.unusedVariables false
set_option linter.unusedSimpArgs false
open Go.RowKit
theorem infoFlaw : (Tryd.prog.info? 43).map (fun i => (i.zero, i.size, i.bytes)) = some (some (.agg #[.int .i64 0, .int .i64 0, .int .i64 0, .int .i64 0]), 4, 32) := by kernel_rfl
end Go.Proofs.YtgjehnjpbekoeaaDoor
