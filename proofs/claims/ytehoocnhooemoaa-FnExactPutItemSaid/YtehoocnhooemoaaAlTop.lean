/- Contracts of IsAlbum, LevelOf, PageWith: the program's and the reference's. No condition but the sizes. -/
import Derived.Test.YtehoocnhooemoaaAlGs
import Derived.Test.YtehoocnhooemoaaAlPlain2
namespace Go.Proofs.Ytehoocnhooemoaa
set_option linter.unusedVariables false
set_option linter.unusedSimpArgs false
open Go.RowKit
attribute [local irreducible] wpQuiet
def pwB (xs : List Page) (z : Int) : Bool := goodA xs && inR z 1 999
def pwV (xs : List Page) (z : Int) : Int := if pwB xs z = true then (match xs.find? (hasP z) with | some p => p.id | none => 0) else 0
theorem pw_of (xs : List Page) (z : Int) (hb : pwB xs z = true) : (∃ j, ∃ (hj : j < xs.length), idxI (hasP z) xs = (j : Int) ∧ pwV xs z = xs[j].id) ∨ (idxI (hasP z) xs = -1 ∧ pwV xs z = 0) := by
  unfold pwV
  rw [if_pos hb]
  unfold idxI
  cases h : xs.findIdx? (hasP z) with
  | none =>
    right
    have : ∀ x ∈ xs, hasP z x = false := by simpa using h
    exact ⟨rfl, by rw [List.find?_eq_none.2 (fun x hx => by rw [this x hx]; exact Bool.false_ne_true)]⟩
  | some i =>
    left
    rw [List.findIdx?_eq_some_iff_getElem] at h
    obtain ⟨hi, hp, hlt⟩ := h
    have hf : xs.find? (hasP z) = some xs[i] := by
      rw [List.find?_eq_some_iff_getElem]
      exact ⟨hp, i, hi, rfl, fun j hj => by have := hlt j hj; simpa using this⟩
    exact ⟨i, hi, rfl, by rw [hf]⟩
def lvB (xs : List Page) (z : Int) : Bool := goodA xs && xs.any (idP z)
def lvV (xs : List Page) (z : Int) : Int := if lvB xs z = true then (levA xs z : Int) else 0
theorem lv_of (xs : List Page) (z : Int) (hg : goodA xs = true) : (∃ j, ∃ (hj : j < xs.length), idxI (idP z) xs = (j : Int) ∧ z = xs[j].id ∧ lvB xs z = true ∧ lvV xs z = (levJ xs j : Int)) ∨ (idxI (idP z) xs = -1 ∧ lvB xs z = false ∧ lvV xs z = 0) := by
  rcases idx_of (ps := xs) z with ⟨j, hj, h1, h2⟩ | ⟨h1, h2⟩
  · left
    have hB : lvB xs z = true := by
      unfold lvB
      rw [hg, List.any_eq_true.2 ⟨xs[j], List.getElem_mem hj, by simp [idP, h2]⟩]; rfl
    refine ⟨j, hj, h1, h2.symm, hB, ?_⟩
    unfold lvV
    rw [if_pos hB, ← h2, levA_at hg hj]
  · right
    have hB : lvB xs z = false := by unfold lvB; rw [h2, Bool.and_false]
    exact ⟨h1, hB, by unfold lvV; rw [hB]; rfl⟩
end Go.Proofs.Ytehoocnhooemoaa
