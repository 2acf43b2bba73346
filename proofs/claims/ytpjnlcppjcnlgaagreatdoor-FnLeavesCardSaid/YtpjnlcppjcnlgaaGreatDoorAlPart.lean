/- Parts of an album: plain words for the reference's list, and the contract of l18Part. No condition but the sizes. -/
import Derived.Test.YtpjnlcppjcnlgaaGreatDoorAlTop
import Derived.Test.YtpjnlcppjcnlgaaGreatDoorPut
namespace Go.Proofs.YtpjnlcppjcnlgaaGreatDoor
set_option linter.unusedVariables false
set_option linter.unusedSimpArgs false
open Go.RowKit
attribute [local irreducible] wpQuiet
theorem putI_end {ys : List Int} {n : Int} (h : ∀ y ∈ ys, y < n) : putI ys n = ys ++ [n] := by
  have hk : putK ys n = ys.length := by
    unfold putK
    exact takeWhile_len' _ ys ys.length (fun x hx => by rw [List.take_length] at hx; simpa using h x hx) (Nat.le_refl _) (fun h => absurd h (by omega))
  unfold putI
  rw [hk, List.getElem?_eq_none (Nat.le_refl _)]
  simp
/-- What the reference holds after k pages. -/
def spK (xs : List Page) (j : Nat) (id : Int) (k : Nat) : List Int := if k ≤ j then [id] else partK xs id k
section
variable {xs : List Page} {j : Nat}
theorem spK_0 {id : Int} : spK xs j id 0 = [id] := by simp [spK]
theorem spK_end (hj : j < xs.length) {id : Int} : spK xs j id xs.length = partA xs id := by
  unfold spK partA; rw [if_neg (by omega)]
theorem spK_yes (hg : goodA xs = true) (hj : j < xs.length) {k : Nat} (hk : k < xs.length) (h : xs[k].under ∈ spK xs j xs[j].id k) : spK xs j xs[j].id (k + 1) = putI (spK xs j xs[j].id k) xs[k].id := by
  unfold spK at h ⊢
  by_cases hkj : k ≤ j
  · rw [if_pos hkj] at h
    simp at h
    have h1 := good_under hg hk
    rcases Nat.eq_or_lt_of_le hkj with e | e
    · subst e; omega
    · have := good_lt hg hj e; omega
  · rw [if_neg hkj] at h ⊢
    rw [if_neg (by omega), partK_yes hk (.inr h), putI_end (fun y hy => by
      obtain ⟨i, hi, e⟩ := partK_mem (by omega) hy
      rw [← e]
      exact good_lt hg hk hi)]
theorem spK_no (hg : goodA xs = true) (hj : j < xs.length) {k : Nat} (hk : k < xs.length) (h : ¬ xs[k].under ∈ spK xs j xs[j].id k) : spK xs j xs[j].id (k + 1) = spK xs j xs[j].id k := by
  unfold spK at h ⊢
  by_cases hkj : k ≤ j
  · rw [if_pos hkj]
    rcases Nat.eq_or_lt_of_le hkj with e | e
    · subst e
      rw [if_neg (by omega), partK_yes hk (.inl rfl), partK_before hg hj (Nat.le_refl _)]
      rfl
    · rw [if_pos (by omega)]
  · rw [if_neg hkj] at h ⊢
    rw [if_neg (by omega), partK_no hk (by
      rintro (e | e)
      · have := good_inj hg hk hj e; omega
      · exact h e)]
theorem spK_len (xs : List Page) (j : Nat) (id : Int) (k : Nat) : (spK xs j id k).length ≤ k + 1 := by
  unfold spK
  split
  · simp
  · have := partK_len xs id k; omega
end
end Go.Proofs.YtpjnlcppjcnlgaaGreatDoor
