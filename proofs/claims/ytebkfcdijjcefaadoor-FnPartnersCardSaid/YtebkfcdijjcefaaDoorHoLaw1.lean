/- Contracts of AreHolds: the program's and the reference's. No condition but the sizes. -/
import Derived.Test.YtebkfcdijjcefaaDoorHoGood3
namespace Go.Proofs.YtebkfcdijjcefaaDoor
set_option linter.unusedVariables false
set_option linter.unusedSimpArgs false
open Go.RowKit
end Go.Proofs.YtebkfcdijjcefaaDoor
