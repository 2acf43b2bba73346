/- The walk of the law on SheetState: the program and the reference give the same. No condition but that the arguments are such as can be. -/
import Derived.Test.YtnedkgiahkjnnaaFlSheet2
import Derived.Test.YtnedkgiahkjnnaaCvFlaw
import Derived.Test.YtnedkgiahkjnnaaCvSS
namespace Go.Proofs.Ytnedkgiahkjnnaa
set_option linter.unusedVariables false
set_option linter.unusedSimpArgs false
open Go.RowKit
set_option maxRecDepth 100000 in
set_option maxHeartbeats 4000000 in
theorem lawSheetState_c (xs0 : List Flaw) (A0 : Option Addr) (c0 : Nat) (xs1 : List Int) (A1 : Option Addr) (c1 : Nat) (xs2 : List (List Int)) (A2 : Option Addr) (c2 : Nat) (w : World) (hr0 : Rd encFlaw 4 w.heap.size w A0 xs0) (hm0 : xs0.length ≤ 9223372036854775807) (hr1 : Rd encI 1 w.heap.size w A1 xs1) (hm1 : xs1.length ≤ 9223372036854775807) (hr2 : RdSS w.heap.size w A2 xs2) (hm2 : xs2.length ≤ 9223372036854775807) (hw2 : ∀ x ∈ xs2, x.length ≤ 9223372036854775807 ∧ ∀ z ∈ x, Fits z) :
    Calls Try.prog 3 #[.slice A0 xs0.length c0, .slice A1 xs1.length c1, .slice A2 xs2.length c2] w (Ret (.bool true) w) := by
  have hx : Below w.heap.size w w := Below.refl _ _
  by_cases hl1 : (1048576 : Int) < xs1.length
  · go_enter Try.func3, Try.ntmps3
    go_wp2_with fail
    go_returns
    exact ⟨rfl, hx⟩
  have hn1 : xs1.length ≤ 1048576 := by omega
  go_enter Try.func3, Try.ntmps3
  go_wp2_with fail
  refine (szFlawS_c xs0 _ _ _ _ hm0 (by omega) (by omega)).mono ?_
  rintro e w1 ⟨r0, rfl, hb1, hq0⟩
  have sz1 := hb1.size
  have hx := below_step hx hb1
  rcases hq0 with rfl | ⟨g00, g01, hn0⟩
  · go_wp2_with fail
    go_returns
    exact ⟨rfl, hx⟩
  have g02 : ¬ r0 < 0 := by omega
  go_wp2_with fail
  refine (szIntSS_c xs2 _ _ _ _ (hr2.go hx) hm2 hw2 g00 g01).mono ?_
  rintro e w2 ⟨r2, rfl, hb2, hq2⟩
  have sz2 := hb2.size
  have hx := below_step hx hb2
  rcases hq2 with rfl | ⟨g20, g21, hn2, hS2⟩
  · go_wp2_with fail
    go_returns
    exact ⟨rfl, hx⟩
  have g22 : ¬ r2 < 0 := by omega
  go_wp2_with fail
  refine (toFlawS_c xs0 _ _ _ (hr0.go hx) (by omega)).mono ?_
  rintro e w3 ⟨B1, rfl, hb3, o1⟩
  have sz3 := hb3.size
  have hx := below_step hx hb3
  go_wp2_with fail
  refine (toIntS_c xs1 _ _ _ (hr1.go hx) (by omega)).mono ?_
  rintro e w4 ⟨B2, rfl, hb4, o2⟩
  have sz4 := hb4.size
  have hx := below_step hx hb4
  have o1 := o1.go hb4
  go_wp2_with fail
  refine (toIntSS_c xs2 _ _ _ (hr2.go hx) (by omega) (by omega)).mono ?_
  rintro e w5 ⟨B3, rfl, hb5, o3⟩
  have sz5 := hb5.size
  have hx := below_step hx hb5
  have o1 := o1.go hb5
  have o2 := o2.go hb5
  go_wp2_with fail
  refine (specSheetState_c xs0 _ _ xs1 _ _ xs2 _ _ _ o1.rd hn0 o2.rd hn1 o3.rd hn2 hS2).mono ?_
  rintro e w6 ⟨rfl, hb6⟩
  have sz6 := hb6.size
  have hx := below_step hx hb6
  have o1 := o1.go hb6
  have o2 := o2.go hb6
  have o3 := o3.go hb6
  go_wp2_with fail
  refine (toFlawS_c xs0 _ _ _ (hr0.go hx) (by omega)).mono ?_
  rintro e w7 ⟨B5, rfl, hb7, o5⟩
  have sz7 := hb7.size
  have hx := below_step hx hb7
  go_wp2_with fail
  refine (toIntS_c xs1 _ _ _ (hr1.go hx) (by omega)).mono ?_
  rintro e w8 ⟨B6, rfl, hb8, o6⟩
  have sz8 := hb8.size
  have hx := below_step hx hb8
  have o5 := o5.go hb8
  go_wp2_with fail
  refine (toIntSS_c xs2 _ _ _ (hr2.go hx) (by omega) (by omega)).mono ?_
  rintro e w9 ⟨B7, rfl, hb9, o7⟩
  have sz9 := hb9.size
  have hx := below_step hx hb9
  have o5 := o5.go hb9
  have o6 := o6.go hb9
  go_wp2_with fail
  refine (implSheetState_c xs0 _ _ xs1 _ _ xs2 _ _ _ o5.rd hn0 o6.rd hn1 o7.rd hn2 hS2).mono ?_
  rintro e w10 ⟨rfl, hb10⟩
  have sz10 := hb10.size
  have hx := below_step hx hb10
  have o5 := o5.go hb10
  have o6 := o6.go hb10
  have o7 := o7.go hb10
  go_wp2_with fail
  refine (toFlawS_c xs0 _ _ _ (hr0.go hx) (by omega)).mono ?_
  rintro e w11 ⟨B9, rfl, hb11, o9⟩
  have sz11 := hb11.size
  have hx := below_step hx hb11
  have o5 := o5.go hb11
  have o6 := o6.go hb11
  have o7 := o7.go hb11
  go_wp2_with fail
  refine (eqFlawS_c xs0 _ _ _ _ _ o5.rd o9.rd (by omega)).mono ?_
  rintro e w12 ⟨rfl, hb12⟩
  have sz12 := hb12.size
  have hx := below_step hx hb12
  have o5 := o5.go hb12
  have o6 := o6.go hb12
  have o7 := o7.go hb12
  have o9 := o9.go hb12
  go_wp2_with fail
  refine (toIntS_c xs1 _ _ _ (hr1.go hx) (by omega)).mono ?_
  rintro e w13 ⟨B10, rfl, hb13, o10⟩
  have sz13 := hb13.size
  have hx := below_step hx hb13
  have o5 := o5.go hb13
  have o6 := o6.go hb13
  have o7 := o7.go hb13
  go_wp2_with fail
  refine (eqIntS_c xs1 _ _ _ _ _ o6.rd o10.rd (by omega)).mono ?_
  rintro e w14 ⟨rfl, hb14⟩
  have sz14 := hb14.size
  have hx := below_step hx hb14
  have o5 := o5.go hb14
  have o6 := o6.go hb14
  have o7 := o7.go hb14
  have o10 := o10.go hb14
  go_wp2_with fail
  refine (toIntSS_c xs2 _ _ _ (hr2.go hx) (by omega) (by omega)).mono ?_
  rintro e w15 ⟨B11, rfl, hb15, o11⟩
  have sz15 := hb15.size
  have hx := below_step hx hb15
  have o5 := o5.go hb15
  have o6 := o6.go hb15
  have o7 := o7.go hb15
  go_wp2_with fail
  refine (eqIntSS_c xs2 _ _ _ _ _ o7.rd o11.rd (by omega) (by omega)).mono ?_
  rintro e w16 ⟨rfl, hb16⟩
  have sz16 := hb16.size
  have hx := below_step hx hb16
  have o5 := o5.go hb16
  have o6 := o6.go hb16
  have o7 := o7.go hb16
  have o11 := o11.go hb16
  go_wp2_with fail
  all_goals (go_returns; exact ⟨rfl, hx⟩)
end Go.Proofs.Ytnedkgiahkjnnaa
