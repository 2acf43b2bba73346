/- Contracts of the functions by which the laws copy, compare, count and mark records of the type Opinion. No condition but the size that the laws ask. -/
import Derived.Test.YtpnkeaeikcobfaaGreatDoorRecOpinion
import Derived.Test.YtpnkeaeikcobfaaGreatDoorMark
namespace Go.Proofs.YtpnkeaeikcobfaaGreatDoor
set_option linter.unusedVariables false
set_option linter.unusedSimpArgs false
open Go.RowKit
end Go.Proofs.YtpnkeaeikcobfaaGreatDoor
