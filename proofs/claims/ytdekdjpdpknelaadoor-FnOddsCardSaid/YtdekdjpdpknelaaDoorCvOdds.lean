/- Contracts of the functions by which the laws copy, compare, count and mark records of the type Odds. No condition but the size that the laws ask. -/
import Derived.Test.YtdekdjpdpknelaaDoorRecOdds
import Derived.Test.YtdekdjpdpknelaaDoorMark
namespace Go.Proofs.YtdekdjpdpknelaaDoor
set_option linter.unusedVariables false
set_option linter.unusedSimpArgs false
open Go.RowKit
end Go.Proofs.YtdekdjpdpknelaaDoor
