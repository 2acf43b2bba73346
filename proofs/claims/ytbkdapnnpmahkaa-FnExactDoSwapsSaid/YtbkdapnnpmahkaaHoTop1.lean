/- Contracts of CountOf: the program's and the reference's. No condition but the sizes. -/
import Derived.Test.YtbkdapnnpmahkaaHoCnt
namespace Go.Proofs.Ytbkdapnnpmahkaa
set_option linter.unusedVariables false
set_option linter.unusedSimpArgs false
open Go.RowKit
def cntB (xs : List Hold) (o : ByteArray) (z : Int) : Bool := goodH xs && isW o && inR z 1 99
def cntV (xs : List Hold) (o : ByteArray) (z : Int) : Int := if cntB xs o z = true then cntH xs o z else 0
end Go.Proofs.Ytbkdapnnpmahkaa
