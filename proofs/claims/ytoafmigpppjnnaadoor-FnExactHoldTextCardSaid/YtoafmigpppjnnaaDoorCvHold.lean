/- Contracts of the functions by which the laws copy, compare, count and mark records of the type Hold. No condition but the size that the laws ask. -/
import Derived.Test.YtoafmigpppjnnaaDoorRecHold
import Derived.Test.YtoafmigpppjnnaaDoorMark
namespace Go.Proofs.YtoafmigpppjnnaaDoor
set_option linter.unusedVariables false
set_option linter.unusedSimpArgs false
open Go.RowKit
theorem toHold_c (t : Hold) (w : World) : Calls Tryd.prog 10 #[.agg #[.string t.owner, .int .i64 t.item, .int .i64 t.count]] w (Ret (.agg #[.string t.owner, .int .i64 t.item, .int .i64 t.count]) w) := by
  go_enter Tryd.func10, Tryd.ntmps10
  go_wp2_with fail
  go_returns
  exact ⟨rfl, by go_grown⟩
theorem szHold_c (t : Hold) (l : Int) (w : World) (hm : t.owner.size ≤ 9223372036854775807) (h0 : 0 ≤ l) (h1 : l ≤ 1048576) :
    Calls Tryd.prog 8 #[.agg #[.string t.owner, .int .i64 t.item, .int .i64 t.count], .int .i64 l] w fun e w' => ∃ r : Int, e = .returned (.int .i64 r) ∧ Below w.heap.size w w' ∧ (r = -1 ∨ (0 ≤ r ∧ r ≤ l ∧ t.owner.size ≤ 1048576)) := by
  by_cases h : l < t.owner.size
  · go_enter Tryd.func8, Tryd.ntmps8
    go_wp2
    go_returns
    exact ⟨_, rfl, by go_grown, .inl rfl⟩
  · go_enter Tryd.func8, Tryd.ntmps8
    go_wp2
    go_returns
    exact ⟨_, rfl, by go_grown, .inr ⟨by omega, by omega, by omega⟩⟩
end Go.Proofs.YtoafmigpppjnnaaDoor
