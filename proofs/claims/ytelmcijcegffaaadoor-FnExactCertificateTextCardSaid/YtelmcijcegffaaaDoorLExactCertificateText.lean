/- The walk of the law on CertificateText: the program and the reference give the same. No condition but that the arguments are such as can be. -/
import Derived.Test.YtelmcijcegffaaaDoorTxCert
namespace Go.Proofs.YtelmcijcegffaaaDoor
set_option linter.unusedVariables false
set_option linter.unusedSimpArgs false
open Go.RowKit
set_option maxRecDepth 100000 in
set_option maxHeartbeats 4000000 in
theorem lawCertificateText_c (xs0 : List Opinion) (A0 : Option Addr) (c0 : Nat) (z1 : Int) (z2 : Int) (w : World) (hr0 : Rd encOpinion 5 w.heap.size w A0 xs0) (hm0 : xs0.length ≤ 9223372036854775807) (hw0 : ∀ x ∈ xs0, x.expert.size ≤ 9223372036854775807) (hz1 : -9223372036854775808 ≤ z1 ∧ z1 ≤ 9223372036854775807) (hz2 : -9223372036854775808 ≤ z2 ∧ z2 ≤ 9223372036854775807) (ht : Pow w) :
    Calls Tryd.prog 3 #[.slice A0 xs0.length c0, .int .i64 z1, .int .i64 z2] w (Ret (.bool true) w) := by
  have hx : Below w.heap.size w w := Below.refl _ _
  have HT := Lib.hid ht
  clear ht
  go_enter Tryd.func3, Tryd.ntmps3
  go_wp2_with fail
  refine (szOpinionS_c xs0 _ _ _ _ (hr0.go hx) hm0 hw0 (by omega) (by omega)).mono ?_
  rintro e w1 ⟨r0, rfl, hb1, hq0⟩
  have sz1 := hb1.size
  have hx := below_step hx hb1
  rcases hq0 with rfl | ⟨g00, g01, hn0, hS0⟩
  · go_wp2_with fail
    go_returns
    exact ⟨rfl, hx⟩
  have g02 : ¬ r0 < 0 := by omega
  go_wp2_with fail
  refine (toOpinionS_c xs0 _ _ _ (hr0.go hx) hn0).mono ?_
  rintro e w2 ⟨B1, rfl, hb2, o1⟩
  have sz2 := hb2.size
  have hx := below_step hx hb2
  go_wp2_with fail
  refine (specCertificateText_c xs0 _ _ z1 z2 _ o1.rd hn0 hw0 hz1 hz2).mono ?_
  rintro e w3 ⟨rfl, hb3⟩
  have sz3 := hb3.size
  have hx := below_step hx hb3
  have o1 := o1.go hb3
  go_wp2_with fail
  refine (toOpinionS_c xs0 _ _ _ (hr0.go hx) hn0).mono ?_
  rintro e w4 ⟨B3, rfl, hb4, o3⟩
  have sz4 := hb4.size
  have hx := below_step hx hb4
  go_wp2_with fail
  refine (implCertificateText_c xs0 _ _ z1 z2 _ o3.rd hn0 hw0 hz1 hz2 (HT.out.go hx)).mono ?_
  rintro e w5 ⟨rfl, hb5⟩
  have sz5 := hb5.size
  have hx := below_step hx hb5
  have o3 := o3.go hb5
  go_wp2_with fail
  refine (toOpinionS_c xs0 _ _ _ (hr0.go hx) hn0).mono ?_
  rintro e w6 ⟨B5, rfl, hb6, o5⟩
  have sz6 := hb6.size
  have hx := below_step hx hb6
  have o3 := o3.go hb6
  go_wp2_with fail
  refine (eqOpinionS_c xs0 _ _ _ _ _ o3.rd o5.rd (by omega)).mono ?_
  rintro e w7 ⟨rfl, hb7⟩
  have sz7 := hb7.size
  have hx := below_step hx hb7
  have o3 := o3.go hb7
  have o5 := o5.go hb7
  go_wp2_with fail
  all_goals (go_returns; exact ⟨rfl, hx⟩)
end Go.Proofs.YtelmcijcegffaaaDoor
