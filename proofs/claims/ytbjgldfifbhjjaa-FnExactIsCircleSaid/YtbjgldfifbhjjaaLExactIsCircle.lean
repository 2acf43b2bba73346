/- The walk of the law on IsCircle: the program and the reference give the same. No condition but that the arguments are such as can be. -/
import Derived.Test.YtbjgldfifbhjjaaWiCirc
namespace Go.Proofs.Ytbjgldfifbhjjaa
set_option linter.unusedVariables false
set_option linter.unusedSimpArgs false
open Go.RowKit
set_option maxRecDepth 100000 in
set_option maxHeartbeats 4000000 in
theorem lawIsCircle_c (z0 : Int) (xs1 : List Wish) (A1 : Option Addr) (c1 : Nat) (xs2 : List Int) (A2 : Option Addr) (c2 : Nat) (w : World) (hz0 : -9223372036854775808 ≤ z0 ∧ z0 ≤ 9223372036854775807) (hr1 : Rd encWish 3 w.heap.size w A1 xs1) (hm1 : xs1.length ≤ 9223372036854775807) (hr2 : Rd encI 1 w.heap.size w A2 xs2) (hm2 : xs2.length ≤ 9223372036854775807) :
    Calls Try.prog 8 #[.int .i64 z0, .slice A1 xs1.length c1, .slice A2 xs2.length c2] w (Ret (.bool true) w) := by
  have hx : Below w.heap.size w w := Below.refl _ _
  by_cases hl2 : (1048576 : Int) < xs2.length
  · go_enter Try.func8, Try.ntmps8
    go_wp2_with fail
    go_returns
    exact ⟨rfl, hx⟩
  have hn2 : xs2.length ≤ 1048576 := by omega
  go_enter Try.func8, Try.ntmps8
  go_wp2_with fail
  refine (szWishS_c xs1 _ _ _ _ hm1 (by omega) (by omega)).mono ?_
  rintro e w1 ⟨r1, rfl, hb1, hq1⟩
  have sz1 := hb1.size
  have hx := below_step hx hb1
  rcases hq1 with rfl | ⟨g10, g11, hn1⟩
  · go_wp2_with fail
    go_returns
    exact ⟨rfl, hx⟩
  have g12 : ¬ r1 < 0 := by omega
  go_wp2_with fail
  refine (toWishS_c xs1 _ _ _ (hr1.go hx) (by omega)).mono ?_
  rintro e w2 ⟨B1, rfl, hb2, o1⟩
  have sz2 := hb2.size
  have hx := below_step hx hb2
  go_wp2_with fail
  refine (toIntS_c xs2 _ _ _ (hr2.go hx) (by omega)).mono ?_
  rintro e w3 ⟨B2, rfl, hb3, o2⟩
  have sz3 := hb3.size
  have hx := below_step hx hb3
  have o1 := o1.go hb3
  go_wp2_with fail
  refine (specIsCircle_c z0 xs1 _ _ xs2 _ _ o1.rd hn1 o2.rd hn2 hz0).mono ?_
  rintro e w4 ⟨rfl, hb4⟩
  have sz4 := hb4.size
  have hx := below_step hx hb4
  have o1 := o1.go hb4
  have o2 := o2.go hb4
  go_wp2_with fail
  refine (toWishS_c xs1 _ _ _ (hr1.go hx) (by omega)).mono ?_
  rintro e w5 ⟨B4, rfl, hb5, o4⟩
  have sz5 := hb5.size
  have hx := below_step hx hb5
  go_wp2_with fail
  refine (toIntS_c xs2 _ _ _ (hr2.go hx) (by omega)).mono ?_
  rintro e w6 ⟨B5, rfl, hb6, o5⟩
  have sz6 := hb6.size
  have hx := below_step hx hb6
  have o4 := o4.go hb6
  go_wp2_with fail
  refine (implIsCircle_c z0 xs1 _ _ xs2 _ _ o4.rd hn1 o5.rd hn2 hz0).mono ?_
  rintro e w7 ⟨rfl, hb7⟩
  have sz7 := hb7.size
  have hx := below_step hx hb7
  have o4 := o4.go hb7
  have o5 := o5.go hb7
  go_wp2_with fail
  refine (toWishS_c xs1 _ _ _ (hr1.go hx) (by omega)).mono ?_
  rintro e w8 ⟨B7, rfl, hb8, o7⟩
  have sz8 := hb8.size
  have hx := below_step hx hb8
  have o4 := o4.go hb8
  have o5 := o5.go hb8
  go_wp2_with fail
  refine (eqWishS_c xs1 _ _ _ _ _ o4.rd o7.rd (by omega)).mono ?_
  rintro e w9 ⟨rfl, hb9⟩
  have sz9 := hb9.size
  have hx := below_step hx hb9
  have o4 := o4.go hb9
  have o5 := o5.go hb9
  have o7 := o7.go hb9
  go_wp2_with fail
  refine (toIntS_c xs2 _ _ _ (hr2.go hx) (by omega)).mono ?_
  rintro e w10 ⟨B8, rfl, hb10, o8⟩
  have sz10 := hb10.size
  have hx := below_step hx hb10
  have o4 := o4.go hb10
  have o5 := o5.go hb10
  go_wp2_with fail
  refine (eqIntS_c xs2 _ _ _ _ _ o5.rd o8.rd (by omega)).mono ?_
  rintro e w11 ⟨rfl, hb11⟩
  have sz11 := hb11.size
  have hx := below_step hx hb11
  have o4 := o4.go hb11
  have o5 := o5.go hb11
  have o8 := o8.go hb11
  go_wp2_with fail
  all_goals (go_returns; exact ⟨rfl, hx⟩)
end Go.Proofs.Ytbjgldfifbhjjaa
