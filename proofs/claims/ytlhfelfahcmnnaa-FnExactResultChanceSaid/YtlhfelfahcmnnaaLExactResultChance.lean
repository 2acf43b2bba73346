/- The walk of the law on ResultChance: the program and the reference give the same. No condition but that the arguments are such as can be. -/
import Derived.Test.YtlhfelfahcmnnaaTrChance
import Derived.Deep.RegionHeld3
namespace Go.Proofs.Ytlhfelfahcmnnaa
set_option linter.unusedVariables false
set_option linter.unusedSimpArgs false
open Go.RowKit
theorem keep2 {W1 W2 : World} {p0 p1 : Addr} {a0 a1 : Value} (hb : Below W1.heap.size W1 W2) (h : W1.cell? p0 = some a0 ∧ W1.cell? p1 = some a1) : W2.cell? p0 = some a0 ∧ W2.cell? p1 = some a1 := by
  have lt : ∀ {a : Addr} {v : Value}, W1.cell? a = some v → W2.cell? a = some v := fun {a v} h => by rw [hb.cell (cell_lt h), h]
  exact ⟨lt h.1, lt h.2⟩
set_option maxRecDepth 100000 in
set_option maxHeartbeats 4000000 in
theorem lawResultChance_c (xs0 : List Trial) (A0 : Option Addr) (c0 : Nat) (t1 : Odds) (xs2 : List Bool) (A2 : Option Addr) (c2 : Nat) (w : World) (hr0 : Rd encTrial 3 w.heap.size w A0 xs0) (hm0 : xs0.length ≤ 9223372036854775807) (hr2 : Rd encB 1 w.heap.size w A2 xs2) (hm2 : xs2.length ≤ 9223372036854775807) :
    Calls Try.prog 8 #[.slice A0 xs0.length c0, .agg #[.int .i64 t1.real, .int .i64 t1.fake], .slice A2 xs2.length c2] w (Ret (.bool true) w) := by
  have hx : Below w.heap.size w (w.alloc (.cells #[.int .i64 t1.real, .int .i64 t1.fake] 30)) := by go_grown
  by_cases hl2 : (1048576 : Int) < xs2.length
  · go_enter Try.func8, Try.ntmps8
    go_wp2_with fail
    go_returns
    exact ⟨rfl, hx⟩
  have hn2 : xs2.length ≤ 1048576 := by omega
  go_enter Try.func8, Try.ntmps8
  have hxb := Below.refl (w.alloc (.cells #[.int .i64 t1.real, .int .i64 t1.fake] 30)).heap.size (w.alloc (.cells #[.int .i64 t1.real, .int .i64 t1.fake] 30))
  go_wp2_with fail
  refine (szTrialS_c xs0 _ _ _ _ hm0 (by omega) (by omega)).mono ?_
  rintro e w1 ⟨r0, rfl, hb1, hq0⟩
  have sz1 := hb1.size
  have hx := below_step hx hb1
  have hxb := below_step hxb hb1
  try clear hc hf
  obtain ⟨hc, hf⟩ := bcell hxb
  rcases hq0 with rfl | ⟨g00, g01, hn0⟩
  · go_wp2_with fail
    go_returns
    exact ⟨rfl, hx⟩
  have g02 : ¬ r0 < 0 := by omega
  go_wp2_with fail
  have hcd : w1.drew.cell? ⟨w.heap.size, 0, none⟩ = some (.int .i64 t1.real) ∧ w1.drew.cell? ⟨w.heap.size, 1, none⟩ = some (.int .i64 t1.fake) := ⟨(hc _ _ (by simp)).trans (World.cell?_alloc_new _ _ _ _), (hc _ _ (by simp)).trans (World.cell?_alloc_new _ _ _ _)⟩
  have hS := Lib.hid hcd
  clear hcd hc hf
  have kD : Below w1.heap.size w1 w1.drew := (Below.refl _ _).drew
  go_region_held3 (fun W => W.cell? ⟨w.heap.size, 0, none⟩ = some (.int .i64 t1.real) ∧ W.cell? ⟨w.heap.size, 1, none⟩ = some (.int .i64 t1.fake)) (first | exact hS.out | assumption | (refine keep2 hb2 ?_; assumption) | (refine keep2 hb3 ?_; assumption) | (refine keep2 hb4 ?_; assumption) | (refine keep2 hb5 ?_; assumption))
    (first
      | (go_at_call 23; refine (toTrialS_c xs0 _ _ _ ?_ hn0).mono ?_; (exact hr0.go (below_step hx kD)); rintro e w2 ⟨B1, rfl, hb2, o1⟩; have k2 := below_step kD hb2)
      | (go_at_call 17; refine (toOdds_c t1 _).mono ?_; rintro e w3 ⟨rfl, hb3⟩)
      | (go_at_call 29; refine (toBoolS_c xs2 _ _ _ ?_ (Nat.le_trans hn2 (by decide))).mono ?_; (exact hr2.go (below_step (below_step hx k2) hb3)); rintro e w4 ⟨B2, rfl, hb4, o2⟩)
      | (go_at_call 28; refine (specResultChance_c xs0 _ _ t1 xs2 _ _ _ ?_ hn0 ?_ hn2).mono ?_; (exact ((o1.go hb3).go hb4).rd); (exact o2.rd); rintro e w5 ⟨rfl, hb5⟩))
  have hx := below_step (below_step (below_step (below_step hx k2) hb3) hb4) hb5
  have hxb := below_step (below_step (below_step (below_step hxb k2) hb3) hb4) hb5
  have sz5 := hxb.size
  obtain ⟨hc, hf⟩ := bcell hxb
  go_wp2_with fail
  refine (toTrialS_c xs0 _ _ _ (hr0.go hx) (by omega)).mono ?_
  rintro e w6 ⟨B4, rfl, hb6, o4⟩
  have sz6 := hb6.size
  have hx := below_step hx hb6
  have hxb := below_step hxb hb6
  try clear hc hf
  obtain ⟨hc, hf⟩ := bcell hxb
  go_wp2_with fail
  refine (toBoolS_c xs2 _ _ _ (hr2.go hx) (by omega)).mono ?_
  rintro e w7 ⟨B5, rfl, hb7, o5⟩
  have sz7 := hb7.size
  have hx := below_step hx hb7
  have o4 := o4.go hb7
  have hxb := below_step hxb hb7
  try clear hc hf
  obtain ⟨hc, hf⟩ := bcell hxb
  go_wp2_with fail
  refine (toOdds_c t1 _).mono ?_
  rintro e w8 ⟨rfl, hb8⟩
  have sz8 := hb8.size
  have hx := below_step hx hb8
  have o4 := o4.go hb8
  have o5 := o5.go hb8
  have hxb := below_step hxb hb8
  try clear hc hf
  obtain ⟨hc, hf⟩ := bcell hxb
  go_wp2_with fail
  refine (implResultChance_c xs0 _ _ t1 xs2 _ _ _ o4.rd hn0 o5.rd hn2).mono ?_
  rintro e w9 ⟨rfl, hb9⟩
  have sz9 := hb9.size
  have hx := below_step hx hb9
  have o4 := o4.go hb9
  have o5 := o5.go hb9
  have hxb := below_step hxb hb9
  try clear hc hf
  obtain ⟨hc, hf⟩ := bcell hxb
  go_wp2_with fail
  refine (toTrialS_c xs0 _ _ _ (hr0.go hx) (by omega)).mono ?_
  rintro e w10 ⟨B7, rfl, hb10, o7⟩
  have sz10 := hb10.size
  have hx := below_step hx hb10
  have o4 := o4.go hb10
  have o5 := o5.go hb10
  have hxb := below_step hxb hb10
  try clear hc hf
  obtain ⟨hc, hf⟩ := bcell hxb
  go_wp2_with fail
  refine (eqTrialS_c xs0 _ _ _ _ _ o4.rd o7.rd (by omega)).mono ?_
  rintro e w11 ⟨rfl, hb11⟩
  have sz11 := hb11.size
  have hx := below_step hx hb11
  have o4 := o4.go hb11
  have o5 := o5.go hb11
  have o7 := o7.go hb11
  have hxb := below_step hxb hb11
  try clear hc hf
  obtain ⟨hc, hf⟩ := bcell hxb
  go_wp2_with fail
  refine (toBoolS_c xs2 _ _ _ (hr2.go hx) (by omega)).mono ?_
  rintro e w12 ⟨B8, rfl, hb12, o8⟩
  have sz12 := hb12.size
  have hx := below_step hx hb12
  have o4 := o4.go hb12
  have o5 := o5.go hb12
  have hxb := below_step hxb hb12
  try clear hc hf
  obtain ⟨hc, hf⟩ := bcell hxb
  go_wp2_with fail
  refine (eqBoolS_c xs2 _ _ _ _ _ o5.rd o8.rd (by omega)).mono ?_
  rintro e w13 ⟨rfl, hb13⟩
  have sz13 := hb13.size
  have hx := below_step hx hb13
  have o4 := o4.go hb13
  have o5 := o5.go hb13
  have o8 := o8.go hb13
  have hxb := below_step hxb hb13
  try clear hc hf
  obtain ⟨hc, hf⟩ := bcell hxb
  go_wp2_with fail
  all_goals (go_returns; exact ⟨rfl, hx⟩)
end Go.Proofs.Ytlhfelfahcmnnaa
