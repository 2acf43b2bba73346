/- Contracts of AreWishes: the program's and the reference's. No condition but the sizes. -/
import Derived.Test.YtbjgldfifbhjjaaWiGood
namespace Go.Proofs.Ytbjgldfifbhjjaa
set_option linter.unusedVariables false
set_option linter.unusedSimpArgs false
open Go.RowKit
theorem specAreWishes_c (n : Int) (xs : List Wish) (A : Option Addr) (c : Nat) (w : World) (hr : Rd encWish 3 w.heap.size w A xs) (hn : xs.length ≤ 1048576) (hz : -9223372036854775808 ≤ n ∧ n ≤ 9223372036854775807) :
    Calls Try.prog 46 #[.int .i64 n, .slice A xs.length c] w (Ret (.bool (goodW n xs)) w) := by
  go_enter Try.func46, Try.ntmps46
  go_wp2_with fail
  refine (l20Good_c _ xs _ _ _ hr hn hz).mono ?_
  rintro e w1 ⟨rfl, hb1⟩
  go_wp2_with fail
  go_returns
  exact ⟨rfl, hb1⟩
theorem implAreWishes_c (n : Int) (xs : List Wish) (A : Option Addr) (c : Nat) (w : World) (hr : Rd encWish 3 w.heap.size w A xs) (hn : xs.length ≤ 1048576) (hz : -9223372036854775808 ≤ n ∧ n ≤ 9223372036854775807) :
    Calls Try.prog 48 #[.int .i64 n, .slice A xs.length c] w (Ret (.bool (goodW n xs)) w) := by
  go_enter Try.func48, Try.ntmps48
  go_wp2_with fail
  refine (areWishes_c _ xs _ _ _ hr hn hz).mono ?_
  rintro e w1 ⟨rfl, hb1⟩
  go_wp2_with fail
  go_returns
  exact ⟨rfl, hb1⟩
end Go.Proofs.Ytbjgldfifbhjjaa
