/- Contract of slices.BinarySearchFunc at flaws. No condition but the sizes. -/
import Derived.Test.YtedehldojicimaaFlPlain
import Derived.Laws.Shifts
namespace Go.Proofs.Ytedehldojicimaa
set_option linter.unusedVariables false
set_option linter.unusedSimpArgs false
open Go.RowKit
attribute [local irreducible] wpQuiet
end Go.Proofs.Ytedehldojicimaa
