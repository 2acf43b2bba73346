/- Contracts of slices.Clone and slices.Insert at records of the type Flaw. No condition but the sizes. -/
import Derived.Test.YtedehldojicimaaCvFlaw
import Derived.Test.YtedehldojicimaaCopyK
import Derived.Shelf.Spec.SlicesInsert
import Derived.Lib.AppendZerosOnto
namespace Go.Proofs.Ytedehldojicimaa
set_option linter.unusedVariables false
set_option linter.unusedSimpArgs false
open Go.RowKit
attribute [local irreducible] wpQuiet
theorem oneFlaw_ (x : Flaw) : ∀ u ∈ encFlaw x, u.oneCell' = true := by
  intro u hu
  simp [encFlaw] at hu
  rcases hu with rfl | rfl | rfl | rfl <;> rfl
theorem oneLFlaw_ (xs : List Flaw) : ∀ u ∈ xs.flatMap encFlaw, u.oneCell' = true := by
  intro u hu
  obtain ⟨x, _, hx⟩ := List.mem_flatMap.1 hu
  exact oneFlaw_ x u hx
theorem fits_insFlaw (n : Nat) (cap : Nat) (h : cap < n + 1) (hb : (n + 1) * 32 ≤ 140737488355328) : Builtin.nextslicecap (n + 1) cap * 32 ≤ 281474976710656 := growslice_fits h hb
end Go.Proofs.Ytedehldojicimaa
