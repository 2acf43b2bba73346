/- Contracts of the functions that ask whether a list are flaws: one flaw, its key, the comparison of two. No condition. -/
import Derived.Test.YtgjehnjpbekoeaaDoorCvFlaw
import Derived.Test.YtgjehnjpbekoeaaDoorCmp
import Derived.Test.YtgjehnjpbekoeaaDoorNum
import Derived.Test.YtgjehnjpbekoeaaDoorOver
import Derived.Deep.RegionHeld3
import Derived.IntWalk
namespace Go.Proofs.YtgjehnjpbekoeaaDoor
set_option linter.unusedVariables false
set_option linter.unusedSimpArgs false
open Go.RowKit
attribute [local irreducible] wpQuiet
def Flaw.ok (x : Flaw) : Bool := inR x.row 0 9 && inR x.col 0 9 && inR x.code 1 99 && inR x.since 1 9
def Flaw.key (x : Flaw) : Int := 100 * (10 * x.row + x.col) + x.code
def cmpFl (a b : Flaw) : Int := orI [cmpI a.row b.row, cmpI a.col b.col, cmpI a.code b.code]
theorem ok_bds {x : Flaw} (h : x.ok = true) : (0 ≤ x.row ∧ x.row ≤ 9) ∧ (0 ≤ x.col ∧ x.col ≤ 9) ∧ (1 ≤ x.code ∧ x.code ≤ 99) ∧ (1 ≤ x.since ∧ x.since ≤ 9) := by
  simp only [Flaw.ok, Bool.and_eq_true, inR_iff] at h
  exact ⟨h.1.1.1, h.1.1.2, h.1.2, h.2⟩
theorem cmpFl_lt {a b : Flaw} (ha : a.ok = true) (hb : b.ok = true) : (cmpFl a b < 0) = (a.key < b.key) := by
  obtain ⟨a1, a2, a3, _⟩ := ok_bds ha
  obtain ⟨b1, b2, b3, _⟩ := ok_bds hb
  apply propext
  unfold cmpFl Flaw.key cmpI
  simp only [orI]
  by_cases h1 : a.row < b.row
  · simp [h1]; omega
  · by_cases h2 : b.row < a.row
    · simp [h1, h2]; omega
    · by_cases h3 : a.col < b.col
      · simp [h1, h2, h3]; omega
      · by_cases h4 : b.col < a.col
        · simp [h1, h2, h3, h4]; omega
        · by_cases h5 : a.code < b.code
          · simp [h1, h2, h3, h4, h5]; omega
          · by_cases h6 : b.code < a.code
            · simp [h1, h2, h3, h4, h5, h6]; omega
            · simp [h1, h2, h3, h4, h5, h6]; omega
theorem cmpFl_zero {a b : Flaw} (ha : a.ok = true) (hb : b.ok = true) : (cmpFl a b = 0) = (a.key = b.key) := by
  obtain ⟨a1, a2, a3, _⟩ := ok_bds ha
  obtain ⟨b1, b2, b3, _⟩ := ok_bds hb
  apply propext
  unfold cmpFl Flaw.key cmpI
  simp only [orI]
  by_cases h1 : a.row < b.row
  · simp [h1]; omega
  · by_cases h2 : b.row < a.row
    · simp [h1, h2]; omega
    · by_cases h3 : a.col < b.col
      · simp [h1, h2, h3]; omega
      · by_cases h4 : b.col < a.col
        · simp [h1, h2, h3, h4]; omega
        · by_cases h5 : a.code < b.code
          · simp [h1, h2, h3, h4, h5]; omega
          · by_cases h6 : b.code < a.code
            · simp [h1, h2, h3, h4, h5, h6]; omega
            · simp [h1, h2, h3, h4, h5, h6]; omega
theorem isState_c (z : Int) (w : World) : Calls Tryd.prog 27 #[.int .i64 z] w (Pure (.bool (inR z 1 9)) w) := by
  go_enter Tryd.func27, Tryd.ntmps27
  go_wp2_with (go_at_call 60; refine (inRange_c _ _ _ _).mono ?_; rintro e w' ⟨rfl, rfl⟩)
  go_returns
  exact ⟨rfl, rfl⟩
theorem l15State_c (z : Int) (w : World) : Calls Tryd.prog 35 #[.int .i64 z] w (Pure (.bool (inR z 1 9)) w) := by
  go_enter Tryd.func35, Tryd.ntmps35
  go_wp2_with (go_at_call 61; refine (l1In_c _ _ _ _).mono ?_; rintro e w' ⟨rfl, rfl⟩)
  go_returns
  exact ⟨rfl, rfl⟩
theorem isPosition_c (z : Int) (w : World) : Calls Tryd.prog 40 #[.int .i64 z] w (Pure (.bool (inR z 0 99)) w) := by
  go_enter Tryd.func40, Tryd.ntmps40
  go_wp2_with (go_at_call 60; refine (inRange_c _ _ _ _).mono ?_; rintro e w' ⟨rfl, rfl⟩)
  go_returns
  exact ⟨rfl, rfl⟩
set_option maxHeartbeats 800000 in
theorem isFlaw_c (x : Flaw) (w : World) : Calls Tryd.prog 50 #[.agg #[.int .i64 x.row, .int .i64 x.col, .int .i64 x.code, .int .i64 x.since]] w (Ret (.bool x.ok) w) := by
  go_enter Tryd.func50, Tryd.ntmps50
  go_wp2_with (first | (go_at_call 60; refine (inRange_c _ _ _ _).mono ?_; rintro e w' ⟨rfl, rfl⟩) | (go_at_call 27; refine (isState_c _ _).mono ?_; rintro e w' ⟨rfl, rfl⟩))
  all_goals
    go_returns
    exact ⟨ret_bool (by simp_all [Flaw.ok]), by go_grown⟩
set_option maxHeartbeats 800000 in
theorem l15One_c (x : Flaw) (w : World) : Calls Tryd.prog 55 #[.agg #[.int .i64 x.row, .int .i64 x.col, .int .i64 x.code, .int .i64 x.since]] w (Ret (.bool x.ok) w) := by
  go_enter Tryd.func55, Tryd.ntmps55
  go_wp2_with (first | (go_at_call 61; refine (l1In_c _ _ _ _).mono ?_; rintro e w' ⟨rfl, rfl⟩) | (go_at_call 35; refine (l15State_c _ _).mono ?_; rintro e w' ⟨rfl, rfl⟩))
  all_goals
    go_returns
    exact ⟨ret_bool (by simp_all [Flaw.ok]), by go_grown⟩
theorem l15Key_c (x : Flaw) (w : World) (h : x.ok = true) : Calls Tryd.prog 56 #[.agg #[.int .i64 x.row, .int .i64 x.col, .int .i64 x.code, .int .i64 x.since]] w (Ret (.int .i64 x.key) w) := by
  obtain ⟨⟨a1, a2⟩, ⟨a3, a4⟩, ⟨a5, a6⟩, _⟩ := ok_bds h
  have HV := Lib.hid (show x.key = 100 * (10 * x.row + x.col) + x.code from rfl)
  clear h
  go_enter Tryd.func56, Tryd.ntmps56
  go_wp2_with fail
  go_returns
  exact ⟨ret_int HV.out.symm, by go_grown⟩
theorem keepU3 (w : World) (A B : Obj) (u v x : Value) (t : TypeId) : (((w.alloc A).alloc B).alloc (.cells #[u, v, x] t)).drew.cell? ⟨w.heap.size + 1 + 1, 0, none⟩ = some u ∧ (((w.alloc A).alloc B).alloc (.cells #[u, v, x] t)).drew.cell? ⟨w.heap.size + 1 + 1, 1, none⟩ = some v ∧ (((w.alloc A).alloc B).alloc (.cells #[u, v, x] t)).drew.cell? ⟨w.heap.size + 1 + 1, 2, none⟩ = some x := by
  have h : ((w.alloc A).alloc B).heap.size = w.heap.size + 1 + 1 := by simp
  rw [← h]
  refine ⟨?_, ?_, ?_⟩
  · simp only [World.cell?_drew]; exact World.cell?_alloc_new _ _ _ _
  · simp only [World.cell?_drew]; exact World.cell?_alloc_new _ _ _ _
  · simp only [World.cell?_drew]; exact World.cell?_alloc_new _ _ _ _
set_option maxRecDepth 100000 in
set_option maxHeartbeats 1600000 in
theorem compareFlaws_c (a b : Flaw) (w : World) : Calls Tryd.prog 52 #[.agg #[.int .i64 a.row, .int .i64 a.col, .int .i64 a.code, .int .i64 a.since], .agg #[.int .i64 b.row, .int .i64 b.col, .int .i64 b.code, .int .i64 b.since]] w (Ret (.int .i64 (cmpFl a b)) w) := by
  have HV := Lib.hid (show cmpFl a b = orI [cmpI a.row b.row, cmpI a.col b.col, cmpI a.code b.code] from rfl)
  go_enter Tryd.func52, Tryd.ntmps52
  go_wp2_with fail
  have KE := Lib.hid (show ∀ W, Below (w.heap.size + 1 + 1) ((w.alloc (.cells #[.int .i64 a.row, .int .i64 a.col, .int .i64 a.code, .int .i64 a.since] 43)).alloc (.cells #[.int .i64 b.row, .int .i64 b.col, .int .i64 b.code, .int .i64 b.since] 43)) W →
      W.cell? ⟨w.heap.size, 0, none⟩ = some (.int .i64 a.row) ∧ W.cell? ⟨w.heap.size, 1, none⟩ = some (.int .i64 a.col) ∧ W.cell? ⟨w.heap.size, 2, none⟩ = some (.int .i64 a.code) ∧ W.cell? ⟨w.heap.size + 1, 0, none⟩ = some (.int .i64 b.row) ∧ W.cell? ⟨w.heap.size + 1, 1, none⟩ = some (.int .i64 b.col) ∧ W.cell? ⟨w.heap.size + 1, 2, none⟩ = some (.int .i64 b.code) from fun W hW => by
    have k1 : ∀ o, W.cell? ⟨w.heap.size, o, none⟩ = _ := fun o => hW.cell (p := ⟨w.heap.size, o, none⟩) (by show w.heap.size < _; omega)
    have k2 : ∀ o, W.cell? ⟨w.heap.size + 1, o, none⟩ = _ := fun o => hW.cell (p := ⟨w.heap.size + 1, o, none⟩) (by show w.heap.size + 1 < _; omega)
    refine ⟨(k1 0).trans ?_, (k1 1).trans ?_, (k1 2).trans ?_, (k2 0).trans ?_, (k2 1).trans ?_, (k2 2).trans ?_⟩ <;> simp)
  have hb0 := (Below.refl (w.heap.size + 1 + 1) ((w.alloc (.cells #[.int .i64 a.row, .int .i64 a.col, .int .i64 a.code, .int .i64 a.since] 43)).alloc (.cells #[.int .i64 b.row, .int .i64 b.col, .int .i64 b.code, .int .i64 b.since] 43))).drew
  have hb1 := fun (o : Obj) => ((Below.refl (w.heap.size + 1 + 1) ((w.alloc (.cells #[.int .i64 a.row, .int .i64 a.col, .int .i64 a.code, .int .i64 a.since] 43)).alloc (.cells #[.int .i64 b.row, .int .i64 b.col, .int .i64 b.code, .int .i64 b.since] 43))).alloc (by simp) o).drew
  have KE0 := Lib.hid (KE.out _ hb0)
  have KE1 := Lib.hid (fun o => KE.out _ (hb1 o))
  clear KE hb0 hb1
  go_region_held3 (fun W => W.cell? ⟨w.heap.size, 0, none⟩ = some (.int .i64 a.row) ∧ W.cell? ⟨w.heap.size, 1, none⟩ = some (.int .i64 a.col) ∧ W.cell? ⟨w.heap.size, 2, none⟩ = some (.int .i64 a.code) ∧ W.cell? ⟨w.heap.size + 1, 0, none⟩ = some (.int .i64 b.row) ∧ W.cell? ⟨w.heap.size + 1, 1, none⟩ = some (.int .i64 b.col) ∧ W.cell? ⟨w.heap.size + 1, 2, none⟩ = some (.int .i64 b.code)) (first | exact KE0.out | assumption | exact KE1.out _) (first | (go_at_call 68; refine (compare_c _ _ _).mono ?_; rintro e w2 ⟨rfl, rfl⟩) | (go_at_call 67; refine (or3_c _ _ _ _ _ _ (keepU3 _ _ _ _ _ _ _).1 (keepU3 _ _ _ _ _ _ _).2.1 (keepU3 _ _ _ _ _ _ _).2.2).mono ?_; rintro e w2 ⟨rfl, rfl⟩))
  all_goals
    go_wp2_with fail
    go_returns
    exact ⟨ret_int HV.out.symm, by go_grown⟩
end Go.Proofs.YtgjehnjpbekoeaaDoor
