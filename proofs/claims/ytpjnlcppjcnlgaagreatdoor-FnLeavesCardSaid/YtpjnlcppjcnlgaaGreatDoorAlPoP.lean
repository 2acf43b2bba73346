/- PartOf: the plain law between the program's set of numbers and the part. No program in sight. -/
import Derived.Test.YtpjnlcppjcnlgaaGreatDoorAlPart
namespace Go.Proofs.YtpjnlcppjcnlgaaGreatDoor
set_option linter.unusedVariables false
set_option linter.unusedSimpArgs false
open Go.RowKit
section
variable {xs : List Page} {j k : Nat}
theorem part_cond (hg : goodA xs = true) (hj : j < xs.length) (hk : k < xs.length) :
    (xs[k].id ∈ xs[j].id :: partK xs xs[j].id k ∨ xs[k].under ∈ xs[j].id :: partK xs xs[j].id k) ↔ (xs[k].id = xs[j].id ∨ xs[k].under ∈ partK xs xs[j].id k) := by
  have hno : ¬ xs[k].id ∈ partK xs xs[j].id k := fun h => by
    obtain ⟨i, hi, e⟩ := partK_mem (by omega) h
    have := good_lt hg hk hi
    omega
  have hun : xs[k].under = xs[j].id → xs[k].under ∈ partK xs xs[j].id k := fun h => by
    have h1 := good_under hg hk
    by_cases hkj : k ≤ j
    · rcases Nat.eq_or_lt_of_le hkj with e | e
      · subst e; omega
      · have := good_lt hg hj e; omega
    · rw [h]; exact partK_self hg hj (by omega)
  constructor
  · rintro (h | h)
    · rcases List.mem_cons.1 h with h | h
      · exact .inl h
      · exact absurd h hno
    · rcases List.mem_cons.1 h with h | h
      · exact .inr (hun h)
      · exact .inr h
  · rintro (h | h)
    · exact .inl (List.mem_cons.2 (.inl h))
    · exact .inr (List.mem_cons.2 (.inr h))
/-- A taken page: the set grows by its number as the part does. -/
theorem part_set {S : List Int} {id : Int} (hk : k < xs.length) (hS : ∀ x, x ∈ S ↔ x ∈ id :: partK xs id k) (h : xs[k].id = id ∨ xs[k].under ∈ partK xs id k) : ∀ x, x ∈ xs[k].id :: S ↔ x ∈ id :: partK xs id (k + 1) := by
  intro x
  rw [partK_yes hk h]
  simp only [List.mem_cons, List.mem_append, List.mem_nil_iff, or_false] at hS ⊢
  rw [hS x]
  constructor
  · rintro (h | h | h)
    · exact .inr (.inr h)
    · exact .inl h
    · exact .inr (.inl h)
  · rintro (h | h | h)
    · exact .inr (.inl h)
    · exact .inr (.inr h)
    · exact .inl h
end
end Go.Proofs.YtpjnlcppjcnlgaaGreatDoor
