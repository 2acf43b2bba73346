/- The walk of the law on AddFlaw: the program and the reference give the same. No condition but that the arguments are such as can be. -/
import Derived.Test.YtnedkgiahkjnnaaFlAdd2
import Derived.Test.YtnedkgiahkjnnaaMkFlaw
import Derived.Test.YtnedkgiahkjnnaaCvFlaw
import Derived.Deep.RegionHeld3
namespace Go.Proofs.Ytnedkgiahkjnnaa
set_option linter.unusedVariables false
set_option linter.unusedSimpArgs false
open Go.RowKit
theorem keep4 {W1 W2 : World} {p0 p1 p2 p3 : Addr} {a0 a1 a2 a3 : Value} (hb : Below W1.heap.size W1 W2) (h : W1.cell? p0 = some a0 ∧ W1.cell? p1 = some a1 ∧ W1.cell? p2 = some a2 ∧ W1.cell? p3 = some a3) : W2.cell? p0 = some a0 ∧ W2.cell? p1 = some a1 ∧ W2.cell? p2 = some a2 ∧ W2.cell? p3 = some a3 := by
  have lt : ∀ {a : Addr} {v : Value}, W1.cell? a = some v → W2.cell? a = some v := fun {a v} h => by rw [hb.cell (cell_lt h), h]
  exact ⟨lt h.1, lt h.2.1, lt h.2.2.1, lt h.2.2.2⟩
set_option maxRecDepth 100000 in
set_option maxHeartbeats 4000000 in
theorem lawAddFlaw_c (xs0 : List Flaw) (A0 : Option Addr) (c0 : Nat) (t1 : Flaw) (w : World) (hr0 : Rd encFlaw 4 w.heap.size w A0 xs0) (hm0 : xs0.length ≤ 9223372036854775807) :
    Calls Try.prog 4 #[.slice A0 xs0.length c0, .agg #[.int .i64 t1.row, .int .i64 t1.col, .int .i64 t1.code, .int .i64 t1.since]] w (Ret (.bool true) w) := by
  have hx : Below w.heap.size w (w.alloc (.cells #[.int .i64 t1.row, .int .i64 t1.col, .int .i64 t1.code, .int .i64 t1.since] 38)) := by go_grown
  go_enter Try.func4, Try.ntmps4
  have hal0 : w.heap.size ≤ (w.alloc (.cells #[.int .i64 t1.row, .int .i64 t1.col, .int .i64 t1.code, .int .i64 t1.since] 38)).heap.size := by simp
  have hxb := Below.refl (w.alloc (.cells #[.int .i64 t1.row, .int .i64 t1.col, .int .i64 t1.code, .int .i64 t1.since] 38)).heap.size (w.alloc (.cells #[.int .i64 t1.row, .int .i64 t1.col, .int .i64 t1.code, .int .i64 t1.since] 38))
  go_wp2_with fail
  refine (szFlawS_c xs0 _ _ _ _ hm0 (by omega) (by omega)).mono ?_
  rintro e w1 ⟨r0, rfl, hb1, hq0⟩
  have sz1 := hb1.size
  have hx := below_step hx hb1
  have hxb := below_step hxb hb1
  try clear hc hf
  obtain ⟨hc, hf⟩ := bcell hxb
  rcases hq0 with rfl | ⟨g00, g01, hn0⟩
  · go_wp2_with fail
    go_returns
    exact ⟨rfl, hx⟩
  have g02 : ¬ r0 < 0 := by omega
  go_wp2_with fail
  have hcd : w1.drew.cell? ⟨w.heap.size, 0, none⟩ = some (.int .i64 t1.row) ∧ w1.drew.cell? ⟨w.heap.size, 1, none⟩ = some (.int .i64 t1.col) ∧ w1.drew.cell? ⟨w.heap.size, 2, none⟩ = some (.int .i64 t1.code) ∧ w1.drew.cell? ⟨w.heap.size, 3, none⟩ = some (.int .i64 t1.since) := ⟨(hc _ _ (by simp)).trans (World.cell?_alloc_new _ _ _ _), (hc _ _ (by simp)).trans (World.cell?_alloc_new _ _ _ _), (hc _ _ (by simp)).trans (World.cell?_alloc_new _ _ _ _), (hc _ _ (by simp)).trans (World.cell?_alloc_new _ _ _ _)⟩
  have hS0 := Lib.hid hcd
  clear hcd hc hf
  have kD0 : Below w1.heap.size w1 w1.drew := (Below.refl _ _).drew
  have HX0 := Lib.hid (below_step hx kD0)
  go_region_held3 (fun W => W.cell? ⟨w.heap.size, 0, none⟩ = some (.int .i64 t1.row) ∧ W.cell? ⟨w.heap.size, 1, none⟩ = some (.int .i64 t1.col) ∧ W.cell? ⟨w.heap.size, 2, none⟩ = some (.int .i64 t1.code) ∧ W.cell? ⟨w.heap.size, 3, none⟩ = some (.int .i64 t1.since)) (first | exact hS0.out | assumption | (refine keep4 hb2 ?_; assumption) | (refine keep4 hb3 ?_; assumption) | (refine keep4 hb4 ?_; assumption))
    (first
      | (go_at_call 9; refine (toFlawS_c xs0 _ _ _ ?_ (by omega)).mono ?_; (exact hr0.go HX0.out); rintro e w2 ⟨B1, rfl, hb2, o1⟩; have k0 := below_step kD0 hb2)
      | (go_at_call 17; refine (toFlaw_c t1 _).mono ?_; rintro e w3 ⟨rfl, hb3⟩)
      | (go_at_call 16; refine (specAddFlaw_c xs0 _ _ t1 _ ?_ (Nat.le_refl _) hn0).mono ?_; (exact (o1.go hb3).rd); rintro e w4 ⟨R2_0, c2_0, rfl, hb4, q2_0⟩))
  have kE0 := below_step (below_step k0 hb3) hb4
  have hx := below_step hx kE0
  have hxb := below_step hxb kE0
  have sz4 := kE0.size
  obtain ⟨hc, hf⟩ := bcell hxb
  go_wp2_with fail
  refine (toFlawS_c xs0 _ _ _ (hr0.go hx) (by omega)).mono ?_
  rintro e w5 ⟨B3, rfl, hb5, o3⟩
  have sz5 := hb5.size
  have hx := below_step hx hb5
  have q2_0 := q2_0.go hb5
  have hxb := below_step hxb hb5
  try clear hc hf
  obtain ⟨hc, hf⟩ := bcell hxb
  go_wp2_with fail
  refine (toFlaw_c t1 _).mono ?_
  rintro e w6 ⟨rfl, hb6⟩
  have sz6 := hb6.size
  have hx := below_step hx hb6
  have q2_0 := q2_0.go hb6
  have o3 := o3.go hb6
  have hxb := below_step hxb hb6
  try clear hc hf
  obtain ⟨hc, hf⟩ := bcell hxb
  go_wp2_with fail
  refine (implAddFlaw_c xs0 _ _ t1 _ o3.rd (Nat.le_refl _) hn0).mono ?_
  rintro e w7 ⟨R4_0, c4_0, rfl, hb7, q4_0⟩
  have sz7 := hb7.size
  have hx := below_step hx hb7
  have q2_0 := q2_0.go hb7
  have o3 := o3.go hb7
  have hxb := below_step hxb hb7
  try clear hc hf
  obtain ⟨hc, hf⟩ := bcell hxb
  go_wp2_with fail
  refine (eqFlawS_c _ _ _ _ _ _ q4_0.rd q2_0.rd (afL_len _ _)).mono ?_
  rintro e w8 ⟨rfl, hb8⟩
  have sz8 := hb8.size
  have hx := below_step hx hb8
  have q2_0 := q2_0.go hb8
  have o3 := o3.go hb8
  have q4_0 := q4_0.go hb8
  have hxb := below_step hxb hb8
  try clear hc hf
  obtain ⟨hc, hf⟩ := bcell hxb
  go_wp2_with fail
  refine (toFlawS_c xs0 _ _ _ (hr0.go hx) (by omega)).mono ?_
  rintro e w9 ⟨B5, rfl, hb9, o5⟩
  have sz9 := hb9.size
  have hx := below_step hx hb9
  have q2_0 := q2_0.go hb9
  have o3 := o3.go hb9
  have q4_0 := q4_0.go hb9
  have hxb := below_step hxb hb9
  try clear hc hf
  obtain ⟨hc, hf⟩ := bcell hxb
  go_wp2_with fail
  refine (eqFlawS_c xs0 _ _ _ _ _ o3.rd o5.rd (by omega)).mono ?_
  rintro e w10 ⟨rfl, hb10⟩
  have sz10 := hb10.size
  have hx := below_step hx hb10
  have q2_0 := q2_0.go hb10
  have o3 := o3.go hb10
  have q4_0 := q4_0.go hb10
  have o5 := o5.go hb10
  have hxb := below_step hxb hb10
  try clear hc hf
  obtain ⟨hc, hf⟩ := bcell hxb
  go_wp2_with fail
  refine (markFlawS_c xs0 _ _ _ _ _ _ o3 (by omega) (by omega) (by omega)).mono ?_
  rintro e w11 ⟨rfl, hb11, o3⟩
  have sz11 := hb11.size
  have hx := hx.trans (hb11.below (B := w.heap.size) (by have := hx.size; omega) hx.size)
  have q2_0 := q2_0.fr hb11 (by omega)
  have q4_0 := q4_0.fr hb11 (by omega)
  have hxb := hxb.trans (hb11.below (B := (w.alloc (.cells #[.int .i64 t1.row, .int .i64 t1.col, .int .i64 t1.code, .int .i64 t1.since] 38)).heap.size) (by omega) (by omega))
  try clear hc hf
  obtain ⟨hc, hf⟩ := bcell hxb
  go_wp2_with fail
  refine (eqFlawS_c _ _ _ _ _ _ q4_0.rd q2_0.rd (afL_len _ _)).mono ?_
  rintro e w12 ⟨rfl, hb12⟩
  have sz12 := hb12.size
  have hx := below_step hx hb12
  have q2_0 := q2_0.go hb12
  have q4_0 := q4_0.go hb12
  have hxb := below_step hxb hb12
  try clear hc hf
  obtain ⟨hc, hf⟩ := bcell hxb
  go_wp2_with fail
  refine (markFlawS_c _ _ _ _ _ _ _ q4_0 (afL_len _ _) (by omega) (by omega)).mono ?_
  rintro e w13 ⟨rfl, hb13, q4_0⟩
  have sz13 := hb13.size
  have hx := hx.trans (hb13.below (B := w.heap.size) (by have := hx.size; omega) hx.size)
  have q2_0 := q2_0.fr hb13 (by omega)
  have hxb := hxb.trans (hb13.below (B := (w.alloc (.cells #[.int .i64 t1.row, .int .i64 t1.col, .int .i64 t1.code, .int .i64 t1.since] 38)).heap.size) (by omega) (by omega))
  try clear hc hf
  obtain ⟨hc, hf⟩ := bcell hxb
  go_wp2_with fail
  refine (heldFlawS_c _ _ _ _ _ q4_0.rd (afL_len _ _) (by omega) (by omega)).mono ?_
  rintro e w14 ⟨rfl, hb14⟩
  have sz14 := hb14.size
  have hx := below_step hx hb14
  have q2_0 := q2_0.go hb14
  have q4_0 := q4_0.go hb14
  have hxb := below_step hxb hb14
  try clear hc hf
  obtain ⟨hc, hf⟩ := bcell hxb
  go_wp2_with fail
  have hcd : w14.drew.cell? ⟨w.heap.size, 0, none⟩ = some (.int .i64 t1.row) ∧ w14.drew.cell? ⟨w.heap.size, 1, none⟩ = some (.int .i64 t1.col) ∧ w14.drew.cell? ⟨w.heap.size, 2, none⟩ = some (.int .i64 t1.code) ∧ w14.drew.cell? ⟨w.heap.size, 3, none⟩ = some (.int .i64 t1.since) := ⟨(hc _ _ (by simp)).trans (World.cell?_alloc_new _ _ _ _), (hc _ _ (by simp)).trans (World.cell?_alloc_new _ _ _ _), (hc _ _ (by simp)).trans (World.cell?_alloc_new _ _ _ _), (hc _ _ (by simp)).trans (World.cell?_alloc_new _ _ _ _)⟩
  have hS1 := Lib.hid hcd
  clear hcd hc hf
  have kD1 : Below w14.heap.size w14 w14.drew := (Below.refl _ _).drew
  have HX1 := Lib.hid (below_step hx kD1)
  go_region_held3 (fun W => W.cell? ⟨w.heap.size, 0, none⟩ = some (.int .i64 t1.row) ∧ W.cell? ⟨w.heap.size, 1, none⟩ = some (.int .i64 t1.col) ∧ W.cell? ⟨w.heap.size, 2, none⟩ = some (.int .i64 t1.code) ∧ W.cell? ⟨w.heap.size, 3, none⟩ = some (.int .i64 t1.since)) (first | exact hS1.out | assumption | (refine keep4 hb15 ?_; assumption) | (refine keep4 hb16 ?_; assumption) | (refine keep4 hb17 ?_; assumption))
    (first
      | (go_at_call 9; refine (toFlawS_c xs0 _ _ _ ?_ (by omega)).mono ?_; (exact hr0.go HX1.out); rintro e w15 ⟨B6, rfl, hb15, o6⟩; have k1 := below_step kD1 hb15)
      | (go_at_call 17; refine (toFlaw_c t1 _).mono ?_; rintro e w16 ⟨rfl, hb16⟩)
      | (go_at_call 18; refine (implAddFlaw_c xs0 _ _ t1 _ ?_ (Nat.le_refl _) hn0).mono ?_; (exact (o6.go hb16).rd); rintro e w17 ⟨R7_0, c7_0, rfl, hb17, q7_0⟩))
  have kE1 := below_step (below_step k1 hb16) hb17
  have hx := below_step hx kE1
  have hxb := below_step hxb kE1
  have sz17 := kE1.size
  have q2_0 := q2_0.go kE1
  have q4_0 := q4_0.go kE1
  obtain ⟨hc, hf⟩ := bcell hxb
  go_wp2_with fail
  refine (eqFlawS_c _ _ _ _ _ _ q7_0.rd q2_0.rd (afL_len _ _)).mono ?_
  rintro e w18 ⟨rfl, hb18⟩
  have sz18 := hb18.size
  have hx := below_step hx hb18
  have q2_0 := q2_0.go hb18
  have q4_0 := q4_0.go hb18
  have q7_0 := q7_0.go hb18
  have hxb := below_step hxb hb18
  try clear hc hf
  obtain ⟨hc, hf⟩ := bcell hxb
  go_wp2_with fail
  refine (heldFlawS_c _ _ _ _ _ q4_0.rd (afL_len _ _) (by omega) (by omega)).mono ?_
  rintro e w19 ⟨rfl, hb19⟩
  have sz19 := hb19.size
  have hx := below_step hx hb19
  have q2_0 := q2_0.go hb19
  have q4_0 := q4_0.go hb19
  have q7_0 := q7_0.go hb19
  have hxb := below_step hxb hb19
  try clear hc hf
  obtain ⟨hc, hf⟩ := bcell hxb
  go_wp2_with fail
  all_goals (go_returns; exact ⟨rfl, hx⟩)
end Go.Proofs.Ytnedkgiahkjnnaa
