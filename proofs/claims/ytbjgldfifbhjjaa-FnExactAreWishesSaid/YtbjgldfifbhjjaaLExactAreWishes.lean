/- The walk of the law on AreWishes: the program and the reference give the same. No condition but that the arguments are such as can be. -/
import Derived.Test.YtbjgldfifbhjjaaWiLaw1
namespace Go.Proofs.Ytbjgldfifbhjjaa
set_option linter.unusedVariables false
set_option linter.unusedSimpArgs false
open Go.RowKit
set_option maxRecDepth 100000 in
set_option maxHeartbeats 4000000 in
theorem lawAreWishes_c (z0 : Int) (xs1 : List Wish) (A1 : Option Addr) (c1 : Nat) (w : World) (hz0 : -9223372036854775808 ≤ z0 ∧ z0 ≤ 9223372036854775807) (hr1 : Rd encWish 3 w.heap.size w A1 xs1) (hm1 : xs1.length ≤ 9223372036854775807) :
    Calls Try.prog 7 #[.int .i64 z0, .slice A1 xs1.length c1] w (Ret (.bool true) w) := by
  have hx : Below w.heap.size w w := Below.refl _ _
  go_enter Try.func7, Try.ntmps7
  go_wp2_with fail
  refine (szWishS_c xs1 _ _ _ _ hm1 (by omega) (by omega)).mono ?_
  rintro e w1 ⟨r1, rfl, hb1, hq1⟩
  have sz1 := hb1.size
  have hx := below_step hx hb1
  rcases hq1 with rfl | ⟨g10, g11, hn1⟩
  · go_wp2_with fail
    go_returns
    exact ⟨rfl, hx⟩
  have g12 : ¬ r1 < 0 := by omega
  go_wp2_with fail
  refine (toWishS_c xs1 _ _ _ (hr1.go hx) hn1).mono ?_
  rintro e w2 ⟨B1, rfl, hb2, o1⟩
  have sz2 := hb2.size
  have hx := below_step hx hb2
  go_wp2_with fail
  refine (specAreWishes_c z0 xs1 _ _ _ o1.rd hn1 hz0).mono ?_
  rintro e w3 ⟨rfl, hb3⟩
  have sz3 := hb3.size
  have hx := below_step hx hb3
  have o1 := o1.go hb3
  go_wp2_with fail
  refine (toWishS_c xs1 _ _ _ (hr1.go hx) hn1).mono ?_
  rintro e w4 ⟨B3, rfl, hb4, o3⟩
  have sz4 := hb4.size
  have hx := below_step hx hb4
  go_wp2_with fail
  refine (implAreWishes_c z0 xs1 _ _ _ o3.rd hn1 hz0).mono ?_
  rintro e w5 ⟨rfl, hb5⟩
  have sz5 := hb5.size
  have hx := below_step hx hb5
  have o3 := o3.go hb5
  go_wp2_with fail
  refine (toWishS_c xs1 _ _ _ (hr1.go hx) hn1).mono ?_
  rintro e w6 ⟨B5, rfl, hb6, o5⟩
  have sz6 := hb6.size
  have hx := below_step hx hb6
  have o3 := o3.go hb6
  go_wp2_with fail
  refine (eqWishS_c xs1 _ _ _ _ _ o3.rd o5.rd (by omega)).mono ?_
  rintro e w7 ⟨rfl, hb7⟩
  have sz7 := hb7.size
  have hx := below_step hx hb7
  have o3 := o3.go hb7
  have o5 := o5.go hb7
  go_wp2_with fail
  all_goals (go_returns; exact ⟨rfl, hx⟩)
end Go.Proofs.Ytbjgldfifbhjjaa
