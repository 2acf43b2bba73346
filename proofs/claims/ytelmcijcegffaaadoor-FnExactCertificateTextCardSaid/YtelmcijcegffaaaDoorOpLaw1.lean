/- Contracts of AreOpinions: the program's and the reference's. No condition but the sizes. -/
import Derived.Test.YtelmcijcegffaaaDoorOpGood3
namespace Go.Proofs.YtelmcijcegffaaaDoor
set_option linter.unusedVariables false
set_option linter.unusedSimpArgs false
open Go.RowKit
end Go.Proofs.YtelmcijcegffaaaDoor
