/- The walk of the law on ExpertNames: the program and the reference give the same. No condition but that the arguments are such as can be. -/
import Derived.Test.YtlienlflapeghaaExImp
import Derived.Test.YtlienlflapeghaaExSp
import Derived.Test.YtlienlflapeghaaMkOpinion
import Derived.Test.YtlienlflapeghaaMkStr
namespace Go.Proofs.Ytlienlflapeghaa
set_option linter.unusedVariables false
set_option linter.unusedSimpArgs false
open Go.RowKit
set_option maxRecDepth 100000 in
set_option maxHeartbeats 4000000 in
theorem lawExpertNames_c (xs0 : List Opinion) (A0 : Option Addr) (c0 : Nat) (w : World) (hr0 : Rd encOpinion 5 w.heap.size w A0 xs0) (hm0 : xs0.length ≤ 9223372036854775807) (hw0 : ∀ x ∈ xs0, x.expert.size ≤ 9223372036854775807) :
    Calls Try.prog 3 #[.slice A0 xs0.length c0] w (Ret (.bool true) w) := by
  have hx : Below w.heap.size w w := Below.refl _ _
  go_enter Try.func3, Try.ntmps3
  go_wp2_with fail
  refine (szOpinionS_c xs0 _ _ _ _ (hr0.go hx) hm0 hw0 (by omega) (by omega)).mono ?_
  rintro e w1 ⟨r0, rfl, hb1, hq0⟩
  have sz1 := hb1.size
  have hx := below_step hx hb1
  rcases hq0 with rfl | ⟨g00, g01, hn0, hS0⟩
  · go_wp2_with fail
    go_returns
    exact ⟨rfl, hx⟩
  have g02 : ¬ r0 < 0 := by omega
  go_wp2_with fail
  refine (toOpinionS_c xs0 _ _ _ (hr0.go hx) (by omega)).mono ?_
  rintro e w2 ⟨B1, rfl, hb2, o1⟩
  have sz2 := hb2.size
  have hx := below_step hx hb2
  go_wp2_with fail
  refine (specExpertNames_c xs0 _ _ _ o1.rd hn0 hw0).mono ?_
  rintro e w3 ⟨R2_0, c2_0, rfl, hb3, q2_0⟩
  have sz3 := hb3.size
  have hx := below_step hx hb3
  have o1 := o1.go hb3
  go_wp2_with fail
  refine (toOpinionS_c xs0 _ _ _ (hr0.go hx) (by omega)).mono ?_
  rintro e w4 ⟨B3, rfl, hb4, o3⟩
  have sz4 := hb4.size
  have hx := below_step hx hb4
  have q2_0 := q2_0.go hb4
  go_wp2_with fail
  refine (implExpertNames_c xs0 _ _ _ o3.rd hn0 hw0).mono ?_
  rintro e w5 ⟨R4_0, c4_0, rfl, hb5, q4_0⟩
  have sz5 := hb5.size
  have hx := below_step hx hb5
  have q2_0 := q2_0.go hb5
  have o3 := o3.go hb5
  go_wp2_with fail
  refine (eqStringS_c _ _ _ _ _ _ q4_0.rd q2_0.rd exV_len).mono ?_
  rintro e w6 ⟨rfl, hb6⟩
  have sz6 := hb6.size
  have hx := below_step hx hb6
  have q2_0 := q2_0.go hb6
  have o3 := o3.go hb6
  have q4_0 := q4_0.go hb6
  go_wp2_with fail
  refine (toOpinionS_c xs0 _ _ _ (hr0.go hx) (by omega)).mono ?_
  rintro e w7 ⟨B5, rfl, hb7, o5⟩
  have sz7 := hb7.size
  have hx := below_step hx hb7
  have q2_0 := q2_0.go hb7
  have o3 := o3.go hb7
  have q4_0 := q4_0.go hb7
  go_wp2_with fail
  refine (eqOpinionS_c xs0 _ _ _ _ _ o3.rd o5.rd (by omega)).mono ?_
  rintro e w8 ⟨rfl, hb8⟩
  have sz8 := hb8.size
  have hx := below_step hx hb8
  have q2_0 := q2_0.go hb8
  have o3 := o3.go hb8
  have q4_0 := q4_0.go hb8
  have o5 := o5.go hb8
  go_wp2_with fail
  refine (markOpinionS_c xs0 _ _ _ _ _ _ o3 (by omega) (by omega) (by omega)).mono ?_
  rintro e w9 ⟨rfl, hb9, o3⟩
  have sz9 := hb9.size
  have hx := hx.trans (hb9.below (B := w.heap.size) (by have := hx.size; omega) hx.size)
  have q2_0 := q2_0.fr hb9 (by omega)
  have q4_0 := q4_0.fr hb9 (by omega)
  go_wp2_with fail
  refine (eqStringS_c _ _ _ _ _ _ q4_0.rd q2_0.rd exV_len).mono ?_
  rintro e w10 ⟨rfl, hb10⟩
  have sz10 := hb10.size
  have hx := below_step hx hb10
  have q2_0 := q2_0.go hb10
  have q4_0 := q4_0.go hb10
  go_wp2_with fail
  refine (markStringS_c _ _ _ _ _ _ _ q4_0 exV_len (by omega) (by omega)).mono ?_
  rintro e w11 ⟨rfl, hb11, q4_0⟩
  have sz11 := hb11.size
  have hx := hx.trans (hb11.below (B := w.heap.size) (by have := hx.size; omega) hx.size)
  have q2_0 := q2_0.fr hb11 (by omega)
  go_wp2_with fail
  refine (heldStringS_c _ _ _ _ _ q4_0.rd exV_len (by omega) (by omega)).mono ?_
  rintro e w12 ⟨rfl, hb12⟩
  have sz12 := hb12.size
  have hx := below_step hx hb12
  have q2_0 := q2_0.go hb12
  have q4_0 := q4_0.go hb12
  go_wp2_with fail
  refine (toOpinionS_c xs0 _ _ _ (hr0.go hx) (by omega)).mono ?_
  rintro e w13 ⟨B6, rfl, hb13, o6⟩
  have sz13 := hb13.size
  have hx := below_step hx hb13
  have q2_0 := q2_0.go hb13
  have q4_0 := q4_0.go hb13
  go_wp2_with fail
  refine (implExpertNames_c xs0 _ _ _ o6.rd hn0 hw0).mono ?_
  rintro e w14 ⟨R7_0, c7_0, rfl, hb14, q7_0⟩
  have sz14 := hb14.size
  have hx := below_step hx hb14
  have q2_0 := q2_0.go hb14
  have q4_0 := q4_0.go hb14
  have o6 := o6.go hb14
  go_wp2_with fail
  refine (eqStringS_c _ _ _ _ _ _ q7_0.rd q2_0.rd exV_len).mono ?_
  rintro e w15 ⟨rfl, hb15⟩
  have sz15 := hb15.size
  have hx := below_step hx hb15
  have q2_0 := q2_0.go hb15
  have q4_0 := q4_0.go hb15
  have q7_0 := q7_0.go hb15
  go_wp2_with fail
  refine (heldStringS_c _ _ _ _ _ q4_0.rd exV_len (by omega) (by omega)).mono ?_
  rintro e w16 ⟨rfl, hb16⟩
  have sz16 := hb16.size
  have hx := below_step hx hb16
  have q2_0 := q2_0.go hb16
  have q4_0 := q4_0.go hb16
  have q7_0 := q7_0.go hb16
  go_wp2_with fail
  all_goals (go_returns; exact ⟨rfl, hx⟩)
end Go.Proofs.Ytlienlflapeghaa
