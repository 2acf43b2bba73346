/- PartOf: the reference's contract. No condition but the sizes. -/
import Derived.Test.YtehoocnhooemoaaAlPart
namespace Go.Proofs.Ytehoocnhooemoaa
set_option linter.unusedVariables false
set_option linter.unusedSimpArgs false
open Go.RowKit
attribute [local irreducible] wpQuiet
def paV (xs : List Page) (z : Int) : List Int := if lvB xs z = true then partA xs z else []
theorem paV_no {xs : List Page} {z : Int} (h : lvB xs z = false) : paV xs z = [] := by simp [paV, h]
theorem paV_yes {xs : List Page} {z : Int} (h : lvB xs z = true) : paV xs z = partA xs z := by simp [paV, h]
theorem paV_le (xs : List Page) (z : Int) : (paV xs z).length ≤ xs.length := by
  unfold paV
  split
  · exact partK_len xs z xs.length
  · simp
end Go.Proofs.Ytehoocnhooemoaa
