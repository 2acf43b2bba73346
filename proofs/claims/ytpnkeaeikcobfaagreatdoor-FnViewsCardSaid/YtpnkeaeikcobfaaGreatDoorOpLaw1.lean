/- Contracts of AreOpinions: the program's and the reference's. No condition but the sizes. -/
import Derived.Test.YtpnkeaeikcobfaaGreatDoorOpGood3
namespace Go.Proofs.YtpnkeaeikcobfaaGreatDoor
set_option linter.unusedVariables false
set_option linter.unusedSimpArgs false
open Go.RowKit
end Go.Proofs.YtpnkeaeikcobfaaGreatDoor
