/- Contracts of the functions by which the laws copy, compare and count pages of an album. No condition but the size that the laws ask. -/
import Derived.Test.YtpjnlcppjcnlgaaGreatDoorRecPage
import Derived.Test.YtpjnlcppjcnlgaaGreatDoorMark
import Derived.Test.YtpjnlcppjcnlgaaGreatDoorScal
namespace Go.Proofs.YtpjnlcppjcnlgaaGreatDoor
set_option linter.unusedVariables false
set_option linter.unusedSimpArgs false
open Go.RowKit
def sumI (ps : List Page) : Nat := (ps.map (·.items.length)).sum
theorem sumI_cons (p : Page) (ps : List Page) : sumI (p :: ps) = p.items.length + sumI ps := by simp [sumI]
theorem sumI_append (ps qs : List Page) : sumI (ps ++ qs) = sumI ps + sumI qs := by simp [sumI]
theorem sumI_mem {ps : List Page} {p : Page} (h : p ∈ ps) : p.items.length ≤ sumI ps := by
  induction ps with
  | nil => cases h
  | cons q ps ih =>
    rw [sumI_cons]
    rcases List.mem_cons.1 h with rfl | h
    · omega
    · have := ih h; omega
theorem sumI_take_succ {ps : List Page} {k : Nat} (h : k < ps.length) : sumI (ps.take (k + 1)) = sumI (ps.take k) + ps[k].items.length := by
  rw [take_succ_get ps k h, sumI_append]; simp [sumI]
theorem sumI_take_le (ps : List Page) (k : Nat) : sumI (ps.take k) ≤ sumI ps := by
  have : sumI ps = sumI (ps.take k) + sumI (ps.drop k) := by rw [← sumI_append, List.take_append_drop]
  omega
/-- Three structs that the call has just laid into new blocks. -/
structure New3 (w W : World) (us bs cs : List Value) : Prop where
  below : Below w.heap.size w W
  size : W.heap.size = w.heap.size + 3
  two : ∀ (j : Nat) (v : Value), bs[j]? = some v → W.cell? ⟨w.heap.size + 1, j, none⟩ = some v
  three : ∀ (j : Nat) (v : Value), cs[j]? = some v → W.cell? ⟨w.heap.size + 1 + 1, j, none⟩ = some v
  free2 : ∀ o, W.frozen? ⟨w.heap.size + 1, o, none⟩ = false
  free3 : ∀ o, W.frozen? ⟨w.heap.size + 1 + 1, o, none⟩ = false
theorem set4_cells {w : World} {g : Nat} {a b c d u0 u1 u2 u3 : Value} (h0 : w.cell? ⟨g, 0, none⟩ = some u0) (h1 : w.cell? ⟨g, 1, none⟩ = some u1) (h2 : w.cell? ⟨g, 2, none⟩ = some u2) (h3 : w.cell? ⟨g, 3, none⟩ = some u3) :
    ((((w.setCell ⟨g, 0, none⟩ a).setCell ⟨g, 1, none⟩ b).setCell ⟨g, 2, none⟩ c).setCell ⟨g, 3, none⟩ d).cell? ⟨g, 0, none⟩ = some a ∧ ((((w.setCell ⟨g, 0, none⟩ a).setCell ⟨g, 1, none⟩ b).setCell ⟨g, 2, none⟩ c).setCell ⟨g, 3, none⟩ d).cell? ⟨g, 1, none⟩ = some b ∧
    ((((w.setCell ⟨g, 0, none⟩ a).setCell ⟨g, 1, none⟩ b).setCell ⟨g, 2, none⟩ c).setCell ⟨g, 3, none⟩ d).cell? ⟨g, 2, none⟩ = some c ∧ ((((w.setCell ⟨g, 0, none⟩ a).setCell ⟨g, 1, none⟩ b).setCell ⟨g, 2, none⟩ c).setCell ⟨g, 3, none⟩ d).cell? ⟨g, 3, none⟩ = some d := by
  have far : ∀ (W : World) (i j : Nat) (u : Value), i ≠ j → (W.setCell ⟨g, i, none⟩ u).cell? ⟨g, j, none⟩ = W.cell? ⟨g, j, none⟩ := fun W i j u h => World.cell?_setCell_other W _ _ u (fun e => by injection e; omega)
  refine ⟨?_, ?_, ?_, ?_⟩
  · rw [far _ _ _ _ (by decide), far _ _ _ _ (by decide), far _ _ _ _ (by decide)]; exact World.cell?_setCell_same _ _ _ h0
  · rw [far _ _ _ _ (by decide), far _ _ _ _ (by decide)]; exact World.cell?_setCell_same _ _ _ ((far _ _ _ _ (by decide)).trans h1)
  · rw [far _ _ _ _ (by decide)]; exact World.cell?_setCell_same _ _ _ ((far _ _ _ _ (by decide)).trans ((far _ _ _ _ (by decide)).trans h2))
  · exact World.cell?_setCell_same _ _ _ ((far _ _ _ _ (by decide)).trans ((far _ _ _ _ (by decide)).trans ((far _ _ _ _ (by decide)).trans h3)))
theorem alloc_at (w : World) (vs : List Value) (E : TypeId) (p : Nat) (hp : p = w.heap.size) : (∀ (j : Nat) (v : Value), vs[j]? = some v → (w.alloc (.cells vs.toArray E)).cell? ⟨p, j, none⟩ = some v) ∧ ∀ o, (w.alloc (.cells vs.toArray E)).frozen? ⟨p, o, none⟩ = false := by
  subst hp
  exact ⟨fun j v hv => by rw [World.cell?_alloc_new]; simpa using hv, fun o => World.frozen?_alloc_new w _ E o⟩
theorem New3.of (w : World) (us bs cs : List Value) (t1 t2 t3 : TypeId) : New3 w (((w.alloc (.cells us.toArray t1)).alloc (.cells bs.toArray t2)).alloc (.cells cs.toArray t3)) us bs cs := by
  have a2 := alloc_at (w.alloc (.cells us.toArray t1)) bs t2 (w.heap.size + 1) (by simp)
  have a3 := alloc_at ((w.alloc (.cells us.toArray t1)).alloc (.cells bs.toArray t2)) cs t3 (w.heap.size + 1 + 1) (by simp)
  have hb : Below ((w.alloc (.cells us.toArray t1)).alloc (.cells bs.toArray t2)).heap.size ((w.alloc (.cells us.toArray t1)).alloc (.cells bs.toArray t2)) (((w.alloc (.cells us.toArray t1)).alloc (.cells bs.toArray t2)).alloc (.cells cs.toArray t3)) := (Below.refl _ _).alloc (Nat.le_refl _) _
  exact ⟨by go_grown, by simp, fun j v hv => (hb.cell (p := ⟨w.heap.size + 1, j, none⟩) (by simp)).trans (a2.1 j v hv), a3.1, fun o => (hb.frozen (p := ⟨w.heap.size + 1, o, none⟩) (by simp)).trans (a2.2 o), a3.2⟩
end Go.Proofs.YtpjnlcppjcnlgaaGreatDoor
