/- MovePage: the plain words and the contracts of the program and the reference. No condition but the sizes. -/
import Derived.Test.YthhdajmnidjhjaaAlRes
namespace Go.Proofs.Ythhdajmnidjhjaa
set_option linter.unusedVariables false
set_option linter.unusedSimpArgs false
open Go.RowKit
attribute [local irreducible] wpQuiet
def mvF (u : Int) (p : Page) : Page := ⟨p.id, p.title, u, p.items⟩
def mvL (xs : List Page) (z u : Int) : List Page := atL xs (idxI (idP z) xs) (mvF u)
def mvB (xs : List Page) (z u : Int) : Bool := lvB xs z && goodA (mvL xs z u)
def mvV (xs : List Page) (z u : Int) : List Page := ifA (mvL xs z u) (mvB xs z u)
section
variable {xs : List Page} {z u : Int}
theorem mvB_good (h : mvB xs z u = true) : goodA (mvL xs z u) = true := by unfold mvB at h; exact (Bool.and_eq_true _ _ ▸ h).2
theorem mvV_len (xs : List Page) (z u : Int) : (mvV xs z u).length ≤ 2097152 := ifA_len mvB_good
theorem mvV_sum (xs : List Page) (z u : Int) : sumI (mvV xs z u) ≤ 2097152 := ifA_sum mvB_good
theorem mvV_no (h : mvB xs z u = false) : mvV xs z u = [] := ifA_no h
theorem mvV_yes (h : mvB xs z u = true) : mvV xs z u = mvL xs z u := ifA_yes h
theorem mvB_lv (h : lvB xs z = false) : mvB xs z u = false := by simp [mvB, h]
theorem mvB_at (h : lvB xs z = true) : mvB xs z u = goodA (mvL xs z u) := by simp [mvB, h]
theorem lvB_bad (h : goodA xs = false) : lvB xs z = false := by simp [lvB, h]
end
end Go.Proofs.Ythhdajmnidjhjaa
