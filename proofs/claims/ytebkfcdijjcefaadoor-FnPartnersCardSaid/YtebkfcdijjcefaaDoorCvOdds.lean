/- Contracts of the functions by which the laws copy, compare, count and mark records of the type Odds. No condition but the size that the laws ask. -/
import Derived.Test.YtebkfcdijjcefaaDoorRecOdds
import Derived.Test.YtebkfcdijjcefaaDoorMark
namespace Go.Proofs.YtebkfcdijjcefaaDoor
set_option linter.unusedVariables false
set_option linter.unusedSimpArgs false
open Go.RowKit
end Go.Proofs.YtebkfcdijjcefaaDoor
