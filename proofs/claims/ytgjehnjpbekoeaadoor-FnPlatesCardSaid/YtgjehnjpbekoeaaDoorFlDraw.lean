/- Contracts of the draws of a state, a position and a flaw: some within bounds; only the reader's own block is turned. No condition. -/
import Derived.Test.YtgjehnjpbekoeaaDoorDrawK
import Derived.Test.YtgjehnjpbekoeaaDoorCvFlaw
namespace Go.Proofs.YtgjehnjpbekoeaaDoor
set_option linter.unusedVariables false
set_option linter.unusedSimpArgs false
open Go.RowKit
attribute [local irreducible] wpQuiet
def OkF (x : Flaw) : Prop := (-1 ≤ x.row ∧ x.row ≤ 10) ∧ (0 ≤ x.col ∧ x.col ≤ 9) ∧ (0 ≤ x.code ∧ x.code ≤ 100) ∧ (0 ≤ x.since ∧ x.since ≤ 10)
theorem plateState_c (g m : Nat) (w : World) (h : Cur g m w) (hm : m ≤ 1099510000000) :
    Calls Tryd.prog 59 #[.pointer (some ⟨g, 0, none⟩)] w fun e w' => ∃ x : Int, e = .returned (.int .i64 x) ∧ (0 ≤ x ∧ x ≤ 10) ∧ Fr g (g + 1) w w' ∧ Cur g (m + 2) w' := by
  go_enter Tryd.func59, Tryd.ntmps59
  go_wp2_with fail
  refine (among_c g m [1, 2, 2, 3, 5, 9, 0, 10] _ _ _ (h.alloc _) (by omega) (rd_litI _ _ _) (new_ne h.1) (by decide) (by decide)).mono ?_
  rintro e w1 ⟨x, rfl, hx, hf, hc⟩
  have hs : 0 ≤ x ∧ x ≤ 10 := by simp at hx; omega
  go_wp2_with fail
  go_returns
  exact ⟨x, rfl, hs, (fr_alloc (Fr.refl _ _ _) _).trans hf, hc⟩
set_option maxRecDepth 100000 in
set_option maxHeartbeats 400000 in
theorem flaw_c (g m : Nat) (w : World) (h : Cur g m w) (hm : m ≤ 1099510000000) :
    Calls Tryd.prog 49 #[.pointer (some ⟨g, 0, none⟩)] w fun e w' => ∃ x : Flaw, e = .returned (.agg #[.int .i64 x.row, .int .i64 x.col, .int .i64 x.code, .int .i64 x.since]) ∧ OkF x ∧ Fr g (g + 1) w w' ∧ Cur g (m + 12) w' := by
  have hg := h.1
  go_enter Tryd.func49, Tryd.ntmps49
  go_wp2_with fail
  have hb0 := boxV_new g w [.int .i64 0, .int .i64 0, .int .i64 0, .int .i64 0] 43 h.1
  have hc0 := h.alloc (.cells #[.int .i64 0, .int .i64 0, .int .i64 0, .int .i64 0] 43)
  have hf0 := fr_alloc (Fr.refl g (g + 1) w) (.cells #[.int .i64 0, .int .i64 0, .int .i64 0, .int .i64 0] 43)
  simp only [List.toArray] at hb0
  have hW : w.heap.size + 1 = (w.alloc (.cells #[.int .i64 0, .int .i64 0, .int .i64 0, .int .i64 0] 43)).heap.size := by simp
  generalize w.alloc (.cells #[.int .i64 0, .int .i64 0, .int .i64 0, .int .i64 0] 43) = W at *
  refine (among_c g _ [0, 0, 1, 9] _ _ _ (hc0.alloc _) (by omega) (rd_litP _ _ _ _ hW) (new_neP (by omega)) (by decide) (by decide)).mono ?_
  rintro e w1 ⟨a, rfl, ha, hf1, hc1⟩
  have ha : 0 ≤ a ∧ a ≤ 9 := by simp at ha; omega
  have hb1 := (hb0.alloc _).fr hf1
  have hf1 := (fr_alloc hf0 _).trans hf1
  clear hb0 hf0 hc0
  go_wp2_with fail
  refine (among_c g _ [0, 1, 9] _ _ _ (hc1.alloc _) (by omega) (rd_litI _ _ _) (new_ne hc1.1) (by decide) (by decide)).mono ?_
  rintro e w2 ⟨b, rfl, hb, hf2, hc2⟩
  have hb : 0 ≤ b ∧ b ≤ 9 := by simp at hb; omega
  have hb2 := (hb1.alloc _).fr hf2
  have hf2 := (fr_alloc hf1 _).trans hf2
  clear hb1 hf1 hc1
  go_wp2_with fail
  refine (among_c g _ [1, 2, 2, 3, 99] _ _ _ (hc2.alloc _) (by omega) (rd_litI _ _ _) (new_ne hc2.1) (by decide) (by decide)).mono ?_
  rintro e w3 ⟨c, rfl, hc, hf3, hc3⟩
  have hc : 1 ≤ c ∧ c ≤ 99 := by simp at hc; omega
  have hb3 := (hb2.alloc _).fr hf3
  have hf3 := (fr_alloc hf2 _).trans hf3
  clear hb2 hf2 hc2
  go_wp2_with fail
  refine (among_c g _ [1, 2, 2, 3, 5, 9] _ _ _ (hc3.alloc _) (by omega) (rd_litI _ _ _) (new_ne hc3.1) (by decide) (by decide)).mono ?_
  rintro e w4 ⟨d, rfl, hd, hf4, hc4⟩
  have hd : 1 ≤ d ∧ d ≤ 9 := by simp at hd; omega
  have hb4 := (hb3.alloc _).fr hf4
  have hf4 := (fr_alloc hf3 _).trans hf4
  clear hb3 hf3 hc3
  go_wp2_with fail
  have hbx := boxV_new g w4 [.int .i64 a, .int .i64 b, .int .i64 c, .int .i64 d] 43 hc4.1
  have hbq := hb4.alloc (.cells #[.int .i64 a, .int .i64 b, .int .i64 c, .int .i64 d] 43)
  have hc5 := hc4.alloc (.cells #[.int .i64 a, .int .i64 b, .int .i64 c, .int .i64 d] 43)
  have hf5 := fr_alloc hf4 (.cells #[.int .i64 a, .int .i64 b, .int .i64 c, .int .i64 d] 43)
  have hpq : w.heap.size < w4.heap.size := hb4.2.1
  simp only [List.toArray] at hbx
  generalize w4.alloc (.cells #[.int .i64 a, .int .i64 b, .int .i64 c, .int .i64 d] 43) = V at *
  generalize w4.heap.size = p at *
  clear hb4 hf4 hc4 hW
  refine (pick_c g _ 64 _ hc5 (by omega) (by decide)).mono ?_
  rintro e w5 ⟨r, rfl, hr0, _, _, _, hf6, hc6⟩
  have hbx := hbx.fr hf6
  have hbq := hbq.fr hf6
  have hf6 := hf5.trans hf6
  have hn1 : w.heap.size ≠ p := by omega
  have hn2 : p ≠ w.heap.size := by omega
  clear hf5 hc5
  by_cases e0 : r = 0
  · subst e0
    go_wp2_with fail
    refine (among_c g _ [-1, 10] _ _ _ (hc6.alloc _) (by omega) (rd_litI _ _ _) (new_ne hc6.1) (by simp) (by simp)).mono ?_
    rintro e w6 ⟨v, rfl, hv, hf7, hc7⟩
    have hv : -1 ≤ v ∧ v ≤ 10 := by simp at hv; omega
    have hbx := (hbx.alloc _).fr hf7
    have hbq := (hbq.alloc _).fr hf7
    have hf7 := (fr_alloc hf6 _).trans hf7
    clear hf6 hc6
    have HBX := Lib.hid hbx
    obtain ⟨_, _, hz1, hz2⟩ := hbx
    have HBQ := Lib.hid hbq
    obtain ⟨_, _, hz3, hz4⟩ := hbq
    have x0 := hz2 0 _ rfl
    have x1 := hz2 1 _ rfl
    have x2 := hz2 2 _ rfl
    have x3 := hz2 3 _ rfl
    have y0 := hz4 0 _ rfl
    have y1 := hz4 1 _ rfl
    have y2 := hz4 2 _ rfl
    have y3 := hz4 3 _ rfl
    clear hz2 hz4
    go_wp2_with fail
    have hbr := ((((HBQ.out.other (q := p) (j := 0) (u := .int .i64 v) hn1).set 0 (by decide) (.int .i64 v)).set 1 (by simp) (.int .i64 b)).set 2 (by simp) (.int .i64 c)).set 3 (by simp) (.int .i64 d)
    simp only [List.set] at hbr
    have hfr := fr_set (p := w.heap.size) (j := 3) (u := .int .i64 d) (fr_set (p := w.heap.size) (j := 2) (u := .int .i64 c) (fr_set (p := w.heap.size) (j := 1) (u := .int .i64 b) (fr_set (p := w.heap.size) (j := 0) (u := .int .i64 v) (fr_set (p := p) (j := 0) (u := .int .i64 v) hf7 (by omega)) (Nat.le_refl _)) (Nat.le_refl _)) (Nat.le_refl _)) (Nat.le_refl _)
    have hcr := cur_set (p := w.heap.size) (j := 3) (u := .int .i64 d) (cur_set (p := w.heap.size) (j := 2) (u := .int .i64 c) (cur_set (p := w.heap.size) (j := 1) (u := .int .i64 b) (cur_set (p := w.heap.size) (j := 0) (u := .int .i64 v) (cur_set (p := p) (j := 0) (u := .int .i64 v) (hc7.more (m' := m + 12) (by omega)) (by omega)) (by omega)) (by omega)) (by omega)) (by omega)
    generalize ((((w6.setCell ⟨p, 0, none⟩ (.int .i64 v)).setCell ⟨w.heap.size, 0, none⟩ (.int .i64 v)).setCell ⟨w.heap.size, 1, none⟩ (.int .i64 b)).setCell ⟨w.heap.size, 2, none⟩ (.int .i64 c)).setCell ⟨w.heap.size, 3, none⟩ (.int .i64 d) = WR at *
    have r0 := hbr.2.2.2 0 _ rfl
    have r1 := hbr.2.2.2 1 _ rfl
    have r2 := hbr.2.2.2 2 _ rfl
    have r3 := hbr.2.2.2 3 _ rfl
    refine bodyPost_ret (v := .agg #[.int .i64 v, .int .i64 b, .int .i64 c, .int .i64 d]) (by simp [results, Tryd.results49, go_sem, r0, r1, r2, r3]) rfl ?_
    exact ⟨⟨v, b, c, d⟩, rfl, ⟨⟨by simp only; omega, by simp only; omega⟩, ⟨by simp only; omega, by simp only; omega⟩, ⟨by simp only; omega, by simp only; omega⟩, ⟨by simp only; omega, by simp only; omega⟩⟩, hfr, hcr⟩
  by_cases e1 : r = 1
  · subst e1
    go_wp2_with fail
    refine (among_c g _ [0, 100] _ _ _ (hc6.alloc _) (by omega) (rd_litI _ _ _) (new_ne hc6.1) (by simp) (by simp)).mono ?_
    rintro e w6 ⟨v, rfl, hv, hf7, hc7⟩
    have hv : 0 ≤ v ∧ v ≤ 100 := by simp at hv; omega
    have hbx := (hbx.alloc _).fr hf7
    have hbq := (hbq.alloc _).fr hf7
    have hf7 := (fr_alloc hf6 _).trans hf7
    clear hf6 hc6
    have HBX := Lib.hid hbx
    obtain ⟨_, _, hz1, hz2⟩ := hbx
    have HBQ := Lib.hid hbq
    obtain ⟨_, _, hz3, hz4⟩ := hbq
    have x0 := hz2 0 _ rfl
    have x1 := hz2 1 _ rfl
    have x2 := hz2 2 _ rfl
    have x3 := hz2 3 _ rfl
    have y0 := hz4 0 _ rfl
    have y1 := hz4 1 _ rfl
    have y2 := hz4 2 _ rfl
    have y3 := hz4 3 _ rfl
    clear hz2 hz4
    go_wp2_with fail
    have hbr := ((((HBQ.out.other (q := p) (j := 2) (u := .int .i64 v) hn1).set 0 (by decide) (.int .i64 a)).set 1 (by simp) (.int .i64 b)).set 2 (by simp) (.int .i64 v)).set 3 (by simp) (.int .i64 d)
    simp only [List.set] at hbr
    have hfr := fr_set (p := w.heap.size) (j := 3) (u := .int .i64 d) (fr_set (p := w.heap.size) (j := 2) (u := .int .i64 v) (fr_set (p := w.heap.size) (j := 1) (u := .int .i64 b) (fr_set (p := w.heap.size) (j := 0) (u := .int .i64 a) (fr_set (p := p) (j := 2) (u := .int .i64 v) hf7 (by omega)) (Nat.le_refl _)) (Nat.le_refl _)) (Nat.le_refl _)) (Nat.le_refl _)
    have hcr := cur_set (p := w.heap.size) (j := 3) (u := .int .i64 d) (cur_set (p := w.heap.size) (j := 2) (u := .int .i64 v) (cur_set (p := w.heap.size) (j := 1) (u := .int .i64 b) (cur_set (p := w.heap.size) (j := 0) (u := .int .i64 a) (cur_set (p := p) (j := 2) (u := .int .i64 v) (hc7.more (m' := m + 12) (by omega)) (by omega)) (by omega)) (by omega)) (by omega)) (by omega)
    generalize ((((w6.setCell ⟨p, 2, none⟩ (.int .i64 v)).setCell ⟨w.heap.size, 0, none⟩ (.int .i64 a)).setCell ⟨w.heap.size, 1, none⟩ (.int .i64 b)).setCell ⟨w.heap.size, 2, none⟩ (.int .i64 v)).setCell ⟨w.heap.size, 3, none⟩ (.int .i64 d) = WR at *
    have r0 := hbr.2.2.2 0 _ rfl
    have r1 := hbr.2.2.2 1 _ rfl
    have r2 := hbr.2.2.2 2 _ rfl
    have r3 := hbr.2.2.2 3 _ rfl
    refine bodyPost_ret (v := .agg #[.int .i64 a, .int .i64 b, .int .i64 v, .int .i64 d]) (by simp [results, Tryd.results49, go_sem, r0, r1, r2, r3]) rfl ?_
    exact ⟨⟨a, b, v, d⟩, rfl, ⟨⟨by simp only; omega, by simp only; omega⟩, ⟨by simp only; omega, by simp only; omega⟩, ⟨by simp only; omega, by simp only; omega⟩, ⟨by simp only; omega, by simp only; omega⟩⟩, hfr, hcr⟩
  by_cases e2 : r = 2
  · subst e2
    go_wp2_with fail
    refine (among_c g _ [0, 10] _ _ _ (hc6.alloc _) (by omega) (rd_litI _ _ _) (new_ne hc6.1) (by simp) (by simp)).mono ?_
    rintro e w6 ⟨v, rfl, hv, hf7, hc7⟩
    have hv : 0 ≤ v ∧ v ≤ 10 := by simp at hv; omega
    have hbx := (hbx.alloc _).fr hf7
    have hbq := (hbq.alloc _).fr hf7
    have hf7 := (fr_alloc hf6 _).trans hf7
    clear hf6 hc6
    have HBX := Lib.hid hbx
    obtain ⟨_, _, hz1, hz2⟩ := hbx
    have HBQ := Lib.hid hbq
    obtain ⟨_, _, hz3, hz4⟩ := hbq
    have x0 := hz2 0 _ rfl
    have x1 := hz2 1 _ rfl
    have x2 := hz2 2 _ rfl
    have x3 := hz2 3 _ rfl
    have y0 := hz4 0 _ rfl
    have y1 := hz4 1 _ rfl
    have y2 := hz4 2 _ rfl
    have y3 := hz4 3 _ rfl
    clear hz2 hz4
    go_wp2_with fail
    have hbr := ((((HBQ.out.other (q := p) (j := 3) (u := .int .i64 v) hn1).set 0 (by decide) (.int .i64 a)).set 1 (by simp) (.int .i64 b)).set 2 (by simp) (.int .i64 c)).set 3 (by simp) (.int .i64 v)
    simp only [List.set] at hbr
    have hfr := fr_set (p := w.heap.size) (j := 3) (u := .int .i64 v) (fr_set (p := w.heap.size) (j := 2) (u := .int .i64 c) (fr_set (p := w.heap.size) (j := 1) (u := .int .i64 b) (fr_set (p := w.heap.size) (j := 0) (u := .int .i64 a) (fr_set (p := p) (j := 3) (u := .int .i64 v) hf7 (by omega)) (Nat.le_refl _)) (Nat.le_refl _)) (Nat.le_refl _)) (Nat.le_refl _)
    have hcr := cur_set (p := w.heap.size) (j := 3) (u := .int .i64 v) (cur_set (p := w.heap.size) (j := 2) (u := .int .i64 c) (cur_set (p := w.heap.size) (j := 1) (u := .int .i64 b) (cur_set (p := w.heap.size) (j := 0) (u := .int .i64 a) (cur_set (p := p) (j := 3) (u := .int .i64 v) (hc7.more (m' := m + 12) (by omega)) (by omega)) (by omega)) (by omega)) (by omega)) (by omega)
    generalize ((((w6.setCell ⟨p, 3, none⟩ (.int .i64 v)).setCell ⟨w.heap.size, 0, none⟩ (.int .i64 a)).setCell ⟨w.heap.size, 1, none⟩ (.int .i64 b)).setCell ⟨w.heap.size, 2, none⟩ (.int .i64 c)).setCell ⟨w.heap.size, 3, none⟩ (.int .i64 v) = WR at *
    have r0 := hbr.2.2.2 0 _ rfl
    have r1 := hbr.2.2.2 1 _ rfl
    have r2 := hbr.2.2.2 2 _ rfl
    have r3 := hbr.2.2.2 3 _ rfl
    refine bodyPost_ret (v := .agg #[.int .i64 a, .int .i64 b, .int .i64 c, .int .i64 v]) (by simp [results, Tryd.results49, go_sem, r0, r1, r2, r3]) rfl ?_
    exact ⟨⟨a, b, c, v⟩, rfl, ⟨⟨by simp only; omega, by simp only; omega⟩, ⟨by simp only; omega, by simp only; omega⟩, ⟨by simp only; omega, by simp only; omega⟩, ⟨by simp only; omega, by simp only; omega⟩⟩, hfr, hcr⟩
  have c0 : (r == 0) = false := by simpa using e0
  have c1 : (r == 1) = false := by simpa using e1
  have c2 : (r == 2) = false := by simpa using e2
  have HBX := Lib.hid hbx
  obtain ⟨_, _, hz1, hz2⟩ := hbx
  have HBQ := Lib.hid hbq
  obtain ⟨_, _, hz3, hz4⟩ := hbq
  have x0 := hz2 0 _ rfl
  have x1 := hz2 1 _ rfl
  have x2 := hz2 2 _ rfl
  have x3 := hz2 3 _ rfl
  have y0 := hz4 0 _ rfl
  have y1 := hz4 1 _ rfl
  have y2 := hz4 2 _ rfl
  have y3 := hz4 3 _ rfl
  clear hz2 hz4
  go_wp2_with fail
  have hbr := ((((HBQ.out).set 0 (by decide) (.int .i64 a)).set 1 (by simp) (.int .i64 b)).set 2 (by simp) (.int .i64 c)).set 3 (by simp) (.int .i64 d)
  simp only [List.set] at hbr
  have hfr := fr_set (p := w.heap.size) (j := 3) (u := .int .i64 d) (fr_set (p := w.heap.size) (j := 2) (u := .int .i64 c) (fr_set (p := w.heap.size) (j := 1) (u := .int .i64 b) (fr_set (p := w.heap.size) (j := 0) (u := .int .i64 a) (hf6) (Nat.le_refl _)) (Nat.le_refl _)) (Nat.le_refl _)) (Nat.le_refl _)
  have hcr := cur_set (p := w.heap.size) (j := 3) (u := .int .i64 d) (cur_set (p := w.heap.size) (j := 2) (u := .int .i64 c) (cur_set (p := w.heap.size) (j := 1) (u := .int .i64 b) (cur_set (p := w.heap.size) (j := 0) (u := .int .i64 a) (hc6.more (m' := m + 12) (by omega)) (by omega)) (by omega)) (by omega)) (by omega)
  generalize ((((w5).setCell ⟨w.heap.size, 0, none⟩ (.int .i64 a)).setCell ⟨w.heap.size, 1, none⟩ (.int .i64 b)).setCell ⟨w.heap.size, 2, none⟩ (.int .i64 c)).setCell ⟨w.heap.size, 3, none⟩ (.int .i64 d) = WR at *
  have r0 := hbr.2.2.2 0 _ rfl
  have r1 := hbr.2.2.2 1 _ rfl
  have r2 := hbr.2.2.2 2 _ rfl
  have r3 := hbr.2.2.2 3 _ rfl
  refine bodyPost_ret (v := .agg #[.int .i64 a, .int .i64 b, .int .i64 c, .int .i64 d]) (by simp [results, Tryd.results49, go_sem, r0, r1, r2, r3]) rfl ?_
  exact ⟨⟨a, b, c, d⟩, rfl, ⟨⟨by simp only; omega, by simp only; omega⟩, ⟨by simp only; omega, by simp only; omega⟩, ⟨by simp only; omega, by simp only; omega⟩, ⟨by simp only; omega, by simp only; omega⟩⟩, hfr, hcr⟩
end Go.Proofs.YtgjehnjpbekoeaaDoor
