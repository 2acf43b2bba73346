/- The walks of the laws on DoesHelp, AreOdds and ShareReal: the program and the reference give the same. No condition. -/
import Derived.Test.YtdekdjpdpknelaaDoorTr
import Derived.Test.YtdekdjpdpknelaaDoorCvTrial
import Derived.Test.YtdekdjpdpknelaaDoorCvOdds
namespace Go.Proofs.YtdekdjpdpknelaaDoor
set_option linter.unusedVariables false
set_option linter.unusedSimpArgs false
open Go.RowKit
def share1 (a b : Int) : Int := if isOd a b then a / gc a (a + b) else 0
def share2 (a b : Int) : Int := if isOd a b then (a + b) / gc a (a + b) else 0
theorem shareV_eq (a b : Int) : shareV a b = .tuple #[.int .i64 (share1 a b), .int .i64 (share2 a b), .bool (isOd a b)] := by
  unfold shareV share1 share2; split <;> simp_all
end Go.Proofs.YtdekdjpdpknelaaDoor
