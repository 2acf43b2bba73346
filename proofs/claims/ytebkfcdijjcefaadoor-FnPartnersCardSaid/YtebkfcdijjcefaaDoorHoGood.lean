/- Contracts of the functions that ask whether a list are holds. No condition but the sizes. -/
import Derived.Test.YtebkfcdijjcefaaDoorCvHold
import Derived.Test.YtebkfcdijjcefaaDoorWord
import Derived.Test.YtebkfcdijjcefaaDoorCmpS
import Derived.Test.YtebkfcdijjcefaaDoorOver
import Derived.Deep.RegionHeld3
namespace Go.Proofs.YtebkfcdijjcefaaDoor
set_option linter.unusedVariables false
set_option linter.unusedSimpArgs false
open Go.RowKit
def Hold.ok (h : Hold) : Bool := isW h.owner && inR h.item 1 99 && inR h.count 1 99
/-- One place lies before another: by the owner, then by the item. -/
def befI (a o : ByteArray) (i j : Int) : Int := orI [cmpS a o, cmpI i j]
theorem befI_lt (a o : ByteArray) (i j : Int) : (befI a o i j < 0) = (sLt a o = true ∨ (a = o ∧ i < j)) := by
  apply propext
  unfold befI cmpS
  by_cases h1 : sLt a o = true
  · simp [h1, orI]
  · by_cases h2 : a = o
    · rw [if_neg h1, if_pos h2]
      simp only [orI, cmpI, h1, h2, false_or, true_and, if_true]
      split <;> (try split) <;> simp_all <;> omega
    · rw [if_neg h1, if_neg h2]
      simp [orI, h1, h2]
theorem befI_dec (a o : ByteArray) (i j : Int) : decide (befI a o i j < 0) = (sLt a o || (decide (a = o) && decide (i < j))) := by
  rw [Bool.eq_iff_iff]
  simp [befI_lt]
def Hold.bef (a b : Hold) : Bool := decide (befI a.owner b.owner a.item b.item < 0)
theorem keep4 {W1 W2 : World} {p0 p1 p2 p3 : Addr} {a0 a1 a2 a3 : Value} (hb : Below W1.heap.size W1 W2) (h : W1.cell? p0 = some a0 ∧ W1.cell? p1 = some a1 ∧ W1.cell? p2 = some a2 ∧ W1.cell? p3 = some a3) : W2.cell? p0 = some a0 ∧ W2.cell? p1 = some a1 ∧ W2.cell? p2 = some a2 ∧ W2.cell? p3 = some a3 := by
  have lt : ∀ {a : Addr} {v : Value}, W1.cell? a = some v → W2.cell? a = some v := fun {a v} h => by rw [hb.cell (cell_lt h), h]
  exact ⟨lt h.1, lt h.2.1, lt h.2.2.1, lt h.2.2.2⟩
theorem l19Item_c (z : Int) (w : World) : Calls Tryd.prog 38 #[.int .i64 z] w (Pure (.bool (inR z 1 99)) w) := by
  go_enter Tryd.func38, Tryd.ntmps38
  go_wp2_with (go_at_call 54; refine (l1In_c _ _ _ _).mono ?_; rintro e w' ⟨rfl, rfl⟩)
  go_returns
  exact ⟨rfl, rfl⟩
theorem isPiece_c (z : Int) (w : World) : Calls Tryd.prog 35 #[.int .i64 z] w (Pure (.bool (inR z 1 99)) w) := by
  go_enter Tryd.func35, Tryd.ntmps35
  go_wp2_with (go_at_call 51; refine (inRange_c _ _ _ _).mono ?_; rintro e w' ⟨rfl, rfl⟩)
  go_returns
  exact ⟨rfl, rfl⟩
set_option maxHeartbeats 400000 in
theorem isHold_c (h : Hold) (w : World) (hs : h.owner.size ≤ 9223372036854775807) : Calls Tryd.prog 45 #[.agg #[.string h.owner, .int .i64 h.item, .int .i64 h.count]] w (Ret (.bool h.ok) w) := by
  go_enter Tryd.func45, Tryd.ntmps45
  go_wp2_with (first | (go_at_call 28; refine (isWord_c _ _ hs).mono ?_; rintro e w' ⟨rfl, rfl⟩) | (go_at_call 35; refine (isPiece_c _ _).mono ?_; rintro e w' ⟨rfl, rfl⟩) | (go_at_call 51; refine (inRange_c _ _ _ _).mono ?_; rintro e w' ⟨rfl, rfl⟩))
  all_goals
    go_returns
    exact ⟨ret_bool (by simp_all [Hold.ok]), by go_grown⟩
set_option maxHeartbeats 400000 in
theorem l19One_c (h : Hold) (w : World) (hs : h.owner.size ≤ 9223372036854775807) : Calls Tryd.prog 47 #[.agg #[.string h.owner, .int .i64 h.item, .int .i64 h.count]] w (Ret (.bool h.ok) w) := by
  go_enter Tryd.func47, Tryd.ntmps47
  go_wp2_with (first | (go_at_call 31; refine (l2Word_c _ _ hs).mono ?_; rintro e w' ⟨rfl, rfl⟩) | (go_at_call 38; refine (l19Item_c _ _).mono ?_; rintro e w' ⟨rfl, rfl⟩) | (go_at_call 54; refine (l1In_c _ _ _ _).mono ?_; rintro e w' ⟨rfl, rfl⟩))
  all_goals
    go_returns
    exact ⟨ret_bool (by simp_all [Hold.ok]), by go_grown⟩
theorem l19Before_c (h : Hold) (o : ByteArray) (i : Int) (w : World) : Calls Tryd.prog 53 #[.agg #[.string h.owner, .int .i64 h.item, .int .i64 h.count], .string o, .int .i64 i] w (Ret (.bool (decide (befI h.owner o h.item i < 0))) w) := by
  have HB := Lib.hid (befI_dec h.owner o h.item i)
  by_cases h1 : sLt h.owner o = true
  · have HL := Lib.hid h1
    have h1' : Op.bytesLess h.owner.toList o.toList = true := h1
    clear h1
    go_enter Tryd.func53, Tryd.ntmps53
    go_wp2_with fail
    go_returns
    exact ⟨ret_bool (by rw [HB.out, HL.out]; rfl), by go_grown⟩
  · have HL := Lib.hid (show sLt h.owner o = false by simpa using h1)
    have h1' : Op.bytesLess h.owner.toList o.toList = false := by simpa [sLt] using h1
    clear h1
    by_cases h2 : h.owner = o
    · have HE := Lib.hid h2
      have h3 : (h.owner.toList == o.toList) = true := by rw [toList_beq]; simpa using h2
      clear h2
      go_enter Tryd.func53, Tryd.ntmps53
      go_wp2_with fail
      go_returns
      exact ⟨ret_bool (by rw [HB.out, HL.out, decide_eq_true HE.out]; simp), by go_grown⟩
    · have HE := Lib.hid h2
      have h3 : (h.owner.toList == o.toList) = false := by rw [toList_beq]; simpa using h2
      clear h2
      go_enter Tryd.func53, Tryd.ntmps53
      go_wp2_with fail
      go_returns
      exact ⟨ret_bool (by rw [HB.out, HL.out, decide_eq_false HE.out]; simp), by go_grown⟩
theorem keepU (w : World) (A B : Obj) (u v : Value) (t : TypeId) : (((w.alloc A).alloc B).alloc (.cells #[u, v] t)).drew.cell? ⟨w.heap.size + 1 + 1, 0, none⟩ = some u ∧ (((w.alloc A).alloc B).alloc (.cells #[u, v] t)).drew.cell? ⟨w.heap.size + 1 + 1, 1, none⟩ = some v := by
  have h : ((w.alloc A).alloc B).heap.size = w.heap.size + 1 + 1 := by simp
  rw [← h]
  constructor
  · simp only [World.cell?_drew]
    exact World.cell?_alloc_new _ _ _ _
  · simp only [World.cell?_drew]
    exact World.cell?_alloc_new _ _ _ _
theorem keepH (w : World) (a b : Hold) (t t' : TypeId) (o : Obj) : (((w.alloc (.cells #[.string a.owner, .int .i64 a.item, .int .i64 a.count] t)).alloc (.cells #[.string b.owner, .int .i64 b.item, .int .i64 b.count] t')).alloc o).drew.cell? ⟨w.heap.size, 0, none⟩ = some (.string a.owner) ∧ (((w.alloc (.cells #[.string a.owner, .int .i64 a.item, .int .i64 a.count] t)).alloc (.cells #[.string b.owner, .int .i64 b.item, .int .i64 b.count] t')).alloc o).drew.cell? ⟨w.heap.size, 1, none⟩ = some (.int .i64 a.item) ∧ (((w.alloc (.cells #[.string a.owner, .int .i64 a.item, .int .i64 a.count] t)).alloc (.cells #[.string b.owner, .int .i64 b.item, .int .i64 b.count] t')).alloc o).drew.cell? ⟨w.heap.size + 1, 0, none⟩ = some (.string b.owner) ∧ (((w.alloc (.cells #[.string a.owner, .int .i64 a.item, .int .i64 a.count] t)).alloc (.cells #[.string b.owner, .int .i64 b.item, .int .i64 b.count] t')).alloc o).drew.cell? ⟨w.heap.size + 1, 1, none⟩ = some (.int .i64 b.item) := by
  have h := keep4 (W2 := (((w.alloc (.cells #[.string a.owner, .int .i64 a.item, .int .i64 a.count] t)).alloc (.cells #[.string b.owner, .int .i64 b.item, .int .i64 b.count] t')).alloc o).drew) (Below.alloc (Below.refl _ _) (Nat.le_refl _) _).drew (show ((w.alloc (.cells #[.string a.owner, .int .i64 a.item, .int .i64 a.count] t)).alloc (.cells #[.string b.owner, .int .i64 b.item, .int .i64 b.count] t')).cell? ⟨w.heap.size, 0, none⟩ = some (.string a.owner) ∧ ((w.alloc (.cells #[.string a.owner, .int .i64 a.item, .int .i64 a.count] t)).alloc (.cells #[.string b.owner, .int .i64 b.item, .int .i64 b.count] t')).cell? ⟨w.heap.size, 1, none⟩ = some (.int .i64 a.item) ∧ ((w.alloc (.cells #[.string a.owner, .int .i64 a.item, .int .i64 a.count] t)).alloc (.cells #[.string b.owner, .int .i64 b.item, .int .i64 b.count] t')).cell? ⟨w.heap.size + 1, 0, none⟩ = some (.string b.owner) ∧ ((w.alloc (.cells #[.string a.owner, .int .i64 a.item, .int .i64 a.count] t)).alloc (.cells #[.string b.owner, .int .i64 b.item, .int .i64 b.count] t')).cell? ⟨w.heap.size + 1, 1, none⟩ = some (.int .i64 b.item) by refine ⟨?_, ?_, ?_, ?_⟩ <;> simp)
  exact h
set_option maxRecDepth 100000 in
set_option maxHeartbeats 1000000 in
theorem compareHolds_c (a b : Hold) (w : World) : Calls Tryd.prog 50 #[.agg #[.string a.owner, .int .i64 a.item, .int .i64 a.count], .agg #[.string b.owner, .int .i64 b.item, .int .i64 b.count]] w (Ret (.int .i64 (befI a.owner b.owner a.item b.item)) w) := by
  go_enter Tryd.func50, Tryd.ntmps50
  go_wp2_with fail
  have hS0 : ((w.alloc (.cells #[.string a.owner, .int .i64 a.item, .int .i64 a.count] 30)).alloc (.cells #[.string b.owner, .int .i64 b.item, .int .i64 b.count] 30)).drew.cell? ⟨w.heap.size, 0, none⟩ = some (.string a.owner) ∧ ((w.alloc (.cells #[.string a.owner, .int .i64 a.item, .int .i64 a.count] 30)).alloc (.cells #[.string b.owner, .int .i64 b.item, .int .i64 b.count] 30)).drew.cell? ⟨w.heap.size, 1, none⟩ = some (.int .i64 a.item) ∧ ((w.alloc (.cells #[.string a.owner, .int .i64 a.item, .int .i64 a.count] 30)).alloc (.cells #[.string b.owner, .int .i64 b.item, .int .i64 b.count] 30)).drew.cell? ⟨w.heap.size + 1, 0, none⟩ = some (.string b.owner) ∧ ((w.alloc (.cells #[.string a.owner, .int .i64 a.item, .int .i64 a.count] 30)).alloc (.cells #[.string b.owner, .int .i64 b.item, .int .i64 b.count] 30)).drew.cell? ⟨w.heap.size + 1, 1, none⟩ = some (.int .i64 b.item) := by
    refine ⟨?_, ?_, ?_, ?_⟩ <;> simp
  have hS1 := Lib.hid hS0
  clear hS0
  go_region_held3 (fun W => W.cell? ⟨w.heap.size, 0, none⟩ = some (.string a.owner) ∧ W.cell? ⟨w.heap.size, 1, none⟩ = some (.int .i64 a.item) ∧ W.cell? ⟨w.heap.size + 1, 0, none⟩ = some (.string b.owner) ∧ W.cell? ⟨w.heap.size + 1, 1, none⟩ = some (.int .i64 b.item)) (first | exact hS1.out | assumption | (exact keepH w a b _ _ _)) (first | (go_at_call 64; refine (compareS_c _ _ _).mono ?_; rintro e w2 ⟨rfl, rfl⟩) | (go_at_call 65; refine (compare_c _ _ _).mono ?_; rintro e w2 ⟨rfl, rfl⟩) | (go_at_call 63; refine (or2_c _ _ _ _ _ (keepU _ _ _ _ _ _).1 (keepU _ _ _ _ _ _).2).mono ?_; rintro e w2 ⟨rfl, rfl⟩))
  all_goals
    go_wp2_with fail
    go_returns
    exact ⟨rfl, by go_grown⟩
end Go.Proofs.YtebkfcdijjcefaaDoor
