/- Contracts of the functions by which the laws copy, compare, count and mark records of the type Trial. No condition but the size that the laws ask. -/
import Derived.Test.YtdekdjpdpknelaaDoorRecTrial
import Derived.Test.YtdekdjpdpknelaaDoorMark
namespace Go.Proofs.YtdekdjpdpknelaaDoor
set_option linter.unusedVariables false
set_option linter.unusedSimpArgs false
open Go.RowKit
theorem infoTrial : (Tryd.prog.info? 35).map (fun i => (i.zero, i.size, i.bytes)) = some (some (.agg #[.int .i64 0, .int .i64 0, .int .i64 0]), 3, 24) := by kernel_rfl
end Go.Proofs.YtdekdjpdpknelaaDoor
