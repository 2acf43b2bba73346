/- Contracts of AreFlaws: the program's and the reference's. No condition but the size. -/
import Derived.Test.YtedehldojicimaaFlGood3
namespace Go.Proofs.Ytedehldojicimaa
set_option linter.unusedVariables false
set_option linter.unusedSimpArgs false
open Go.RowKit
attribute [local irreducible] wpQuiet
theorem implAreFlaws_c (xs : List Flaw) (A : Option Addr) (c : Nat) (w : World) (hr : Rd encFlaw 4 w.heap.size w A xs) (hn : xs.length ≤ 1048576) :
    Calls Try.prog 8 #[.slice A xs.length c] w (Ret (.bool (goodFl xs)) w) := by
  go_enter Try.func8, Try.ntmps8
  go_wp2_with fail
  refine (areFlaws_c xs A c _ hr hn).mono ?_
  rintro e w1 ⟨rfl, hb⟩
  go_wp2_with fail
  go_returns
  exact ⟨rfl, hb⟩
theorem specAreFlaws_c (xs : List Flaw) (A : Option Addr) (c : Nat) (w : World) (hr : Rd encFlaw 4 w.heap.size w A xs) (hn : xs.length ≤ 1048576) :
    Calls Try.prog 9 #[.slice A xs.length c] w (Ret (.bool (goodFl xs)) w) := by
  go_enter Try.func9, Try.ntmps9
  go_wp2_with fail
  refine (l15Good_c xs A c _ hr hn).mono ?_
  rintro e w1 ⟨rfl, hb⟩
  go_wp2_with fail
  go_returns
  exact ⟨rfl, hb⟩
end Go.Proofs.Ytedehldojicimaa
