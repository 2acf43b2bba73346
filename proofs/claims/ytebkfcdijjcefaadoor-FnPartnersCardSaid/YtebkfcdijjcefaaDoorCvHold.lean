/- Contracts of the functions by which the laws copy, compare, count and mark records of the type Hold. No condition but the size that the laws ask. -/
import Derived.Test.YtebkfcdijjcefaaDoorRecHold
import Derived.Test.YtebkfcdijjcefaaDoorMark
namespace Go.Proofs.YtebkfcdijjcefaaDoor
set_option linter.unusedVariables false
set_option linter.unusedSimpArgs false
open Go.RowKit
theorem infoHold : (Tryd.prog.info? 30).map (fun i => (i.zero, i.size, i.bytes)) = some (some (.agg #[.string ⟨#[]⟩, .int .i64 0, .int .i64 0]), 3, 32) := by kernel_rfl
end Go.Proofs.YtebkfcdijjcefaaDoor
