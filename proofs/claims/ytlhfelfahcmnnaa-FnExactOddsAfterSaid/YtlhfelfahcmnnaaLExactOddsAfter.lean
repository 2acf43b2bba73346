/- The walk of the law on OddsAfter: the program and the reference give the same. No condition but that the arguments are such as can be. -/
import Derived.Test.YtlhfelfahcmnnaaTrOdds2
import Derived.Deep.RegionHeld3
import Derived.Deep.DeepCutAuto
namespace Go.Proofs.Ytlhfelfahcmnnaa
set_option linter.unusedVariables false
set_option linter.unusedSimpArgs false
open Go.RowKit
theorem keep2 {W1 W2 : World} {p0 p1 : Addr} {a0 a1 : Value} (hb : Below W1.heap.size W1 W2) (h : W1.cell? p0 = some a0 ∧ W1.cell? p1 = some a1) : W2.cell? p0 = some a0 ∧ W2.cell? p1 = some a1 := by
  have lt : ∀ {a : Addr} {v : Value}, W1.cell? a = some v → W2.cell? a = some v := fun {a v} h => by
    have hl : a.block < W1.heap.size := by
      rcases Nat.lt_or_ge a.block W1.heap.size with h1 | h1
      · exact h1
      · unfold World.cell? at h
        rw [Array.getElem?_eq_none h1] at h
        simp at h
    rw [hb.cell hl, h]
  exact ⟨lt h.1, lt h.2⟩
theorem keepA {W : World} {b : Nat} {p0 p1 : Nat} {a0 a1 : Value} {o1 o2 : Obj} (hb : b < W.heap.size) (h : (W.alloc o1).cell? ⟨b, p0, none⟩ = some a0 ∧ (W.alloc o1).cell? ⟨b, p1, none⟩ = some a1) : (W.alloc o2).cell? ⟨b, p0, none⟩ = some a0 ∧ (W.alloc o2).cell? ⟨b, p1, none⟩ = some a1 := by
  rw [World.cell?_alloc_past _ _ _ hb, World.cell?_alloc_past _ _ _ hb] at h
  rw [World.cell?_alloc_past _ _ _ hb, World.cell?_alloc_past _ _ _ hb]
  exact h
theorem zb_new (w : World) (t : TypeId) {lo : Nat} (hlo : lo ≤ w.heap.size) : Own encOdds 2 lo (w.heap.size + 1) (w.alloc (.cells #[.int .i64 0, .int .i64 0] t)) (some ⟨w.heap.size, 0, none⟩) [⟨0, 0⟩] := by
  have h := box2_new w ⟨0, 0⟩ t
  exact ⟨h.1, fun hp => by
    obtain ⟨b, off, hA, h1, h2, h3⟩ := h.2 hp
    exact ⟨b, off, hA, Nat.le_trans hlo h1, h2, h3⟩⟩
theorem zb_newD (w : World) (t : TypeId) {lo : Nat} (hlo : lo ≤ w.heap.size) : Own encOdds 2 lo (w.heap.size + 1) (w.alloc (.cells #[.int .i64 0, .int .i64 0] t)).drew (some ⟨w.heap.size, 0, none⟩) [⟨0, 0⟩] := zb_new w t hlo
theorem zb_at {w : World} {lo hi b : Nat} (h : Own encOdds 2 lo hi w (some ⟨b, 0, none⟩) [⟨0, 0⟩]) : w.cell? ⟨b, 0, none⟩ = some (.int .i64 0) ∧ w.cell? ⟨b, 1, none⟩ = some (.int .i64 0) ∧ w.frozen? ⟨b, 0, none⟩ = false ∧ w.frozen? ⟨b, 1, none⟩ = false ∧ lo ≤ b := by
  have h' := box2 h
  obtain ⟨b', off, hA, hl, _, _, hf⟩ := h.2 (by simp)
  injection hA with hA; injection hA with h1 h2
  subst h1 h2
  exact ⟨h'.1, h'.2, hf 0, hf 1, hl⟩
theorem fin_new (w : World) (o : Odds) (t : TypeId) {lo : Nat} (hlo : lo ≤ w.heap.size) : Own encOdds 2 lo (w.alloc (.cells #[.int .i64 o.real, .int .i64 o.fake] t)).heap.size (w.alloc (.cells #[.int .i64 o.real, .int .i64 o.fake] t)) (some ⟨w.heap.size, 0, none⟩) [o] := by
  have h := box2_new w o t
  refine ⟨Nat.le_refl _, fun hp => ?_⟩
  obtain ⟨b, off, hA, h1, h2, h3⟩ := h.2 hp
  exact ⟨b, off, hA, Nat.le_trans hlo h1, by simp; omega, h3⟩
theorem fin_set {w : World} {lo hi b : Nat} (o : Odds) (h : Own encOdds 2 lo hi w (some ⟨b, 0, none⟩) [⟨0, 0⟩]) : Own encOdds 2 lo ((w.setCell ⟨b, 0, none⟩ (.int .i64 o.real)).setCell ⟨b, 1, none⟩ (.int .i64 o.fake)).heap.size ((w.setCell ⟨b, 0, none⟩ (.int .i64 o.real)).setCell ⟨b, 1, none⟩ (.int .i64 o.fake)) (some ⟨b, 0, none⟩) [o] := by
  obtain ⟨z0, z1, _, _, hl⟩ := zb_at h
  have hh := h.1
  obtain ⟨b', off, hA, _, hb, _, hf⟩ := h.2 (by simp)
  injection hA with hA; injection hA with h1 h2
  subst h1 h2
  obtain ⟨s0, s1⟩ := set2_cells (a := .int .i64 o.real) (b := .int .i64 o.fake) z0 z1
  refine ⟨Nat.le_refl _, fun _ => ⟨b, 0, rfl, hl, by simp; omega, fun i x hx j v hv => ?_, fun o' => by simp [hf]⟩⟩
  match i, hx with
  | 0, hx =>
    simp at hx; subst hx
    match j, hv with
    | 0, hv => simp [encOdds] at hv; subst hv; simpa using s0
    | 1, hv => simp [encOdds] at hv; subst hv; simpa using s1
theorem keepS {W : World} {p b c0 c1 : Nat} {v a0 a1 : Value} {o : Nat} (hp : b ≠ p) (h : W.cell? ⟨b, c0, none⟩ = some a0 ∧ W.cell? ⟨b, c1, none⟩ = some a1) : (W.setCell ⟨p, o, none⟩ v).cell? ⟨b, c0, none⟩ = some a0 ∧ (W.setCell ⟨p, o, none⟩ v).cell? ⟨b, c1, none⟩ = some a1 := by
  rw [World.cell?_setCell_other _ _ _ _ (by simp [hp]), World.cell?_setCell_other _ _ _ _ (by simp [hp])]
  exact h
theorem keepS2 {W : World} {p b c0 c1 : Nat} {v u a0 a1 : Value} {o o' : Nat} (hp : b ≠ p) (h : W.cell? ⟨b, c0, none⟩ = some a0 ∧ W.cell? ⟨b, c1, none⟩ = some a1) : ((W.setCell ⟨p, o, none⟩ v).setCell ⟨p, o', none⟩ u).cell? ⟨b, c0, none⟩ = some a0 ∧ ((W.setCell ⟨p, o, none⟩ v).setCell ⟨p, o', none⟩ u).cell? ⟨b, c1, none⟩ = some a1 := keepS hp (keepS hp h)
set_option maxRecDepth 100000 in
set_option maxHeartbeats 4000000 in
theorem lawOddsAfter_c (xs0 : List Trial) (A0 : Option Addr) (c0 : Nat) (t1 : Odds) (xs2 : List Bool) (A2 : Option Addr) (c2 : Nat) (w : World) (hr0 : Rd encTrial 3 w.heap.size w A0 xs0) (hm0 : xs0.length ≤ 9223372036854775807) (hr2 : Rd encB 1 w.heap.size w A2 xs2) (hm2 : xs2.length ≤ 9223372036854775807) :
    Calls Try.prog 9 #[.slice A0 xs0.length c0, .agg #[.int .i64 t1.real, .int .i64 t1.fake], .slice A2 xs2.length c2] w (Ret (.bool true) w) := by
  have hx : Below w.heap.size w (w.alloc (.cells #[.int .i64 t1.real, .int .i64 t1.fake] 30)) := by go_grown
  by_cases hl2 : (1048576 : Int) < xs2.length
  · go_enter Try.func9, Try.ntmps9
    go_wp2_with fail
    go_returns
    exact ⟨rfl, hx⟩
  have hn2 : xs2.length ≤ 1048576 := by omega
  go_enter Try.func9, Try.ntmps9
  have hxb := Below.refl (w.alloc (.cells #[.int .i64 t1.real, .int .i64 t1.fake] 30)).heap.size (w.alloc (.cells #[.int .i64 t1.real, .int .i64 t1.fake] 30))
  go_wp2_with fail
  refine (szTrialS_c xs0 _ _ _ _ hm0 (by omega) (by omega)).mono ?_
  rintro e w1 ⟨r0, rfl, hb1, hq0⟩
  have sz1 := hb1.size
  have hx := below_step hx hb1
  have hxb := below_step hxb hb1
  try clear hc hf
  obtain ⟨hc, hf⟩ := bcell hxb
  rcases hq0 with rfl | ⟨g00, g01, hn0⟩
  · go_wp2_with fail
    go_returns
    exact ⟨rfl, hx⟩
  have g02 : ¬ r0 < 0 := by omega
  go_upto_region 7 with fail
  have hzz : w.heap.size < w1.heap.size := by have := hxb.size; simp at this; omega
  have hcd : w1.drew.cell? ⟨w.heap.size, 0, none⟩ = some (.int .i64 t1.real) ∧ w1.drew.cell? ⟨w.heap.size, 1, none⟩ = some (.int .i64 t1.fake) := ⟨(hc _ _ (by simp)).trans (World.cell?_alloc_new _ _ _ _), (hc _ _ (by simp)).trans (World.cell?_alloc_new _ _ _ _)⟩
  have hS := Lib.hid hcd
  clear hcd
  go_cut [8, 9] from 22 to 62 (fun u v wx => ∃ p : Nat, u = .pointer (some ⟨p, 0, none⟩) ∧ v = .bool (oddsOk xs0 t1 xs2) ∧ Below w1.heap.size w1 wx ∧ Own encOdds 2 w1.heap.size wx.heap.size wx (some ⟨p, 0, none⟩) [oddsR xs0 t1 xs2])
  case first =>
    clear hc hf
    have kD : Below w1.heap.size w1 w1.drew := (Below.refl _ _).drew
    have kA : Below w1.heap.size w1 (w1.alloc (.cells #[.int .i64 0, .int .i64 0] 32)).drew := ((Below.refl _ _).alloc (Nat.le_refl _) _).drew
    have kAA : Below w1.drew.heap.size w1.drew (w1.alloc (.cells #[.int .i64 0, .int .i64 0] 32)).drew := (Below.refl w1.drew.heap.size w1.drew).alloc (Nat.le_refl _) (.cells #[.int .i64 0, .int .i64 0] 32)
    go_region_held3 (fun W => W.cell? ⟨w.heap.size, 0, none⟩ = some (.int .i64 t1.real) ∧ W.cell? ⟨w.heap.size, 1, none⟩ = some (.int .i64 t1.fake)) (first | exact hS.out | assumption | (refine keep2 kAA ?_; assumption) | (refine keep2 hb2 ?_; assumption) | (refine keep2 hb3 ?_; assumption) | (refine keep2 hb4 ?_; assumption) | (refine keep2 hb5 ?_; assumption) | (refine keep2 (Below.alloc (Below.refl _ _) (Nat.le_refl _) _) ?_; assumption) | (refine keepA (o1 := (.cells #[.int .i64 0, .int .i64 0] 32)) hz5 ?_; assumption) | (refine keepS hlp ?_; assumption) | (refine keepS2 hlp ?_; assumption))
      (first
        | (go_at_call 23; refine (toTrialS_c xs0 _ _ _ ?_ hn0).mono ?_; (first | exact hr0.go (below_step hx kD) | exact hr0.go (below_step hx kA)); rintro e w2 ⟨B1, rfl, hb2, o1⟩; (first | (have k2 := below_step kD hb2) | (have k2 := below_step kA hb2; have bx := (zb_newD w1 32 (lo := w1.heap.size) (Nat.le_refl _)).go hb2)))
        | (go_at_call 17; refine (toOdds_c t1 _).mono ?_; rintro e w3 ⟨rfl, hb3⟩; (first | (have k3 := below_step (Below.refl w2.heap.size w2) hb3; try have bx := bx.go hb3) | (have k3 := below_step (((Below.refl w2.heap.size w2).alloc (Nat.le_refl _) (.cells #[.int .i64 0, .int .i64 0] 32))) hb3; have bx := (zb_new w2 32 k2.size).go hb3)))
        | (go_at_call 29; refine (toBoolS_c xs2 _ _ _ ?_ (Nat.le_trans hn2 (by decide))).mono ?_; (first | exact hr2.go (below_step (below_step hx k2) k3) | exact hr2.go (below_step (below_step (below_step hx k2) k3) (Below.alloc (Below.refl _ _) (Nat.le_refl _) _))); rintro e w4 ⟨B2, rfl, hb4, o2⟩; (first | (have k4 := below_step (Below.refl w3.heap.size w3) hb4; try have bx := bx.go hb4) | (have k4 := below_step (((Below.refl w3.heap.size w3).alloc (Nat.le_refl _) (.cells #[.int .i64 0, .int .i64 0] 32))) hb4; have bx := (zb_new w3 32 (below_step k2 k3).size).go hb4)))
        | (go_at_call 32; refine (specOddsAfter_c xs0 _ _ t1 xs2 _ _ _ ?_ hn0 ?_ hn2).mono ?_; (first | exact ((o1.go k3).go k4).rd | exact (((o1.go k3).go k4).go (Below.alloc (Below.refl _ _) (Nat.le_refl _) _)).rd); (first | exact o2.rd | exact (o2.go (Below.alloc (Below.refl _ _) (Nat.le_refl _) _)).rd); rintro e w5 ⟨rfl, hb5⟩; rw [oddsV_eq]; (first | (have k5 := below_step (Below.refl w4.heap.size w4) hb5; try have bx := bx.go hb5) | (have k5 := below_step (((Below.refl w4.heap.size w4).alloc (Nat.le_refl _) (.cells #[.int .i64 0, .int .i64 0] 32))) hb5; have bx := (zb_new w4 32 (below_step (below_step k2 k3) k4).size).go hb5)); have kk := below_step (below_step (below_step k2 k3) k4) k5; have hz5 := Nat.lt_of_lt_of_le hzz kk.size; try (have zz := zb_at bx; obtain ⟨q0, q1, q2, q3, q4⟩ := zz; have hlp := Nat.ne_of_lt (Nat.lt_of_lt_of_le hzz q4))))
    · (go_wp2_with fail; go_meet; exact ⟨_, rfl, rfl, below_step kk ((Below.refl _ _).alloc (Nat.le_refl _) _), fin_new _ _ _ kk.size⟩)
    all_goals (go_wp2_with fail; go_meet; exact ⟨_, rfl, rfl, (kk.setCell (p := ⟨_, 0, none⟩) q4 _).setCell (p := ⟨_, 1, none⟩) q4 _, fin_set _ bx⟩)
  case rest =>
    obtain ⟨pb, rfl, rfl, hb5, bx3⟩ := hcut
    have hx := below_step hx hb5
    have hxb := below_step hxb hb5
    have szb3 := hb5.size
    try clear hc hf
    obtain ⟨hc, hf⟩ := bcell hxb
    clear hS
    go_wp2_with fail
    refine (toTrialS_c xs0 _ _ _ (hr0.go hx) hn0).mono ?_
    rintro e w6 ⟨B4, rfl, hb6, o4⟩
    have sz6 := hb6.size
    have hx := below_step hx hb6
    have bx3 := bx3.go hb6
    have hxb := below_step hxb hb6
    try clear hc hf
    obtain ⟨hc, hf⟩ := bcell hxb
    go_wp2_with fail
    refine (toBoolS_c xs2 _ _ _ (hr2.go hx) (Nat.le_trans hn2 (by decide))).mono ?_
    rintro e w7 ⟨B5, rfl, hb7, o5⟩
    have sz7 := hb7.size
    have hx := below_step hx hb7
    have bx3 := bx3.go hb7
    have o4 := o4.go hb7
    have hxb := below_step hxb hb7
    try clear hc hf
    obtain ⟨hc, hf⟩ := bcell hxb
    go_wp2_with fail
    refine (toOdds_c t1 _).mono ?_
    rintro e w8 ⟨rfl, hb8⟩
    have sz8 := hb8.size
    have hx := below_step hx hb8
    have bx3 := bx3.go hb8
    have o4 := o4.go hb8
    have o5 := o5.go hb8
    have hxb := below_step hxb hb8
    try clear hc hf
    obtain ⟨hc, hf⟩ := bcell hxb
    go_wp2_with fail
    refine (implOddsAfter_c xs0 _ _ t1 xs2 _ _ _ o4.rd hn0 o5.rd hn2).mono ?_
    rintro e w9 ⟨rfl, hb9⟩
    have sz9 := hb9.size
    have hx := below_step hx hb9
    have bx3 := bx3.go hb9
    have o4 := o4.go hb9
    have o5 := o5.go hb9
    have hxb := below_step hxb hb9
    try clear hc hf
    obtain ⟨hc, hf⟩ := bcell hxb
    rw [oddsV_eq]
    have hal : Below w9.heap.size w9 (w9.alloc (.cells #[.int .i64 (oddsR xs0 t1 xs2).real, .int .i64 (oddsR xs0 t1 xs2).fake] 32)) := (Below.refl _ _).alloc (Nat.le_refl _) _
    have hx := below_step hx hal
    have bx3 := bx3.go hal
    have o4 := o4.go hal
    have o5 := o5.go hal
    have hxb := below_step hxb hal
    try clear hc hf
    obtain ⟨hc, hf⟩ := bcell hxb
    have bx6 := box2_new w9 (oddsR xs0 t1 xs2) 32
    have szb6 : w9.heap.size + 1 ≤ (w9.alloc (.cells #[.int .i64 (oddsR xs0 t1 xs2).real, .int .i64 (oddsR xs0 t1 xs2).fake] 32)).heap.size := by simp
    clear hal
    obtain ⟨p0, p1⟩ := box2 bx3
    obtain ⟨p2, p3⟩ := box2 bx6
    go_wp2_with fail
    refine (eqOdds_c _ _).mono ?_
    rintro e w10 ⟨rfl, hb10⟩
    have sz10 := hb10.size
    have hx := below_step hx hb10
    have bx3 := bx3.go hb10
    have o4 := o4.go hb10
    have o5 := o5.go hb10
    have bx6 := bx6.go hb10
    have hxb := below_step hxb hb10
    try clear hc hf
    obtain ⟨hc, hf⟩ := bcell hxb
    clear p0 p1 p2 p3
    go_wp2_with fail
    refine (toTrialS_c xs0 _ _ _ (hr0.go hx) hn0).mono ?_
    rintro e w11 ⟨B7, rfl, hb11, o7⟩
    have sz11 := hb11.size
    have hx := below_step hx hb11
    have bx3 := bx3.go hb11
    have o4 := o4.go hb11
    have o5 := o5.go hb11
    have bx6 := bx6.go hb11
    have hxb := below_step hxb hb11
    try clear hc hf
    obtain ⟨hc, hf⟩ := bcell hxb
    go_wp2_with fail
    refine (eqTrialS_c xs0 _ _ _ _ _ o4.rd o7.rd (by omega)).mono ?_
    rintro e w12 ⟨rfl, hb12⟩
    have sz12 := hb12.size
    have hx := below_step hx hb12
    have bx3 := bx3.go hb12
    have o4 := o4.go hb12
    have o5 := o5.go hb12
    have bx6 := bx6.go hb12
    have o7 := o7.go hb12
    have hxb := below_step hxb hb12
    try clear hc hf
    obtain ⟨hc, hf⟩ := bcell hxb
    go_wp2_with fail
    refine (toBoolS_c xs2 _ _ _ (hr2.go hx) (Nat.le_trans hn2 (by decide))).mono ?_
    rintro e w13 ⟨B8, rfl, hb13, o8⟩
    have sz13 := hb13.size
    have hx := below_step hx hb13
    have bx3 := bx3.go hb13
    have o4 := o4.go hb13
    have o5 := o5.go hb13
    have bx6 := bx6.go hb13
    have hxb := below_step hxb hb13
    try clear hc hf
    obtain ⟨hc, hf⟩ := bcell hxb
    go_wp2_with fail
    refine (eqBoolS_c xs2 _ _ _ _ _ o5.rd o8.rd (by omega)).mono ?_
    rintro e w14 ⟨rfl, hb14⟩
    have sz14 := hb14.size
    have hx := below_step hx hb14
    have bx3 := bx3.go hb14
    have o4 := o4.go hb14
    have o5 := o5.go hb14
    have bx6 := bx6.go hb14
    have o8 := o8.go hb14
    have hxb := below_step hxb hb14
    try clear hc hf
    obtain ⟨hc, hf⟩ := bcell hxb
    go_wp2_with fail
    all_goals (go_returns; exact ⟨rfl, hx⟩)
end Go.Proofs.Ytlhfelfahcmnnaa
