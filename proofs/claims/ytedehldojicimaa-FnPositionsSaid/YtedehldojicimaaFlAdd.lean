/- Contracts of AddFlaw: the program's and the reference's. No condition but the sizes. -/
import Derived.Test.YtedehldojicimaaFlBin
import Derived.Test.YtedehldojicimaaInsFlaw
import Derived.Test.YtedehldojicimaaAppH
import Derived.Deep.DeepCutAuto
namespace Go.Proofs.Ytedehldojicimaa
set_option linter.unusedVariables false
set_option linter.unusedSimpArgs false
open Go.RowKit
attribute [local irreducible] wpQuiet
def afB (xs : List Flaw) (x : Flaw) : Bool := goodFl xs && x.ok && goodFl (insFl xs x)
def afL (xs : List Flaw) (x : Flaw) : List Flaw := if afB xs x = true then insFl xs x else []
theorem afL_len (xs : List Flaw) (x : Flaw) : (afL xs x).length ≤ 2097152 := by
  unfold afL; split
  · rename_i h
    simp only [afB, Bool.and_eq_true] at h
    have := goodFl_len h.2
    omega
  · simp
end Go.Proofs.Ytedehldojicimaa
