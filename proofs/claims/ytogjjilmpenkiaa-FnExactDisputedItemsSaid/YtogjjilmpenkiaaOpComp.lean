/- A list of numbers sorted and without repeats is what comes of putting them in one by one. Plain. -/
import Derived.Test.YtogjjilmpenkiaaPutPlain
import Derived.Lib.SlicesCompact
namespace Go.Proofs.Ytogjjilmpenkiaa
set_option linter.unusedVariables false
set_option linter.unusedSimpArgs false
theorem bang {zs : List Int} {j : Nat} (h : j < zs.length) : zs.toArray[j]! = zs[j] := by simp [h]
theorem compact_mem (zs : List Int) : ∀ x, x ∈ Go.Lib.compact zs ↔ x ∈ zs := by
  intro x
  unfold Go.Lib.compact Go.Lib.compactUpTo
  simp only [List.mem_map, List.mem_filter, List.mem_range]
  constructor
  · rintro ⟨j, ⟨hj, _⟩, rfl⟩
    rw [bang hj]; exact List.getElem_mem hj
  · intro hx
    obtain ⟨j, hj, rfl⟩ := List.getElem_of_mem hx
    have key : ∀ n (h : n < zs.length), ∃ a, (a < zs.length ∧ Go.Lib.keeps zs.toArray a = true) ∧ zs.toArray[a]! = zs[n] := by
      intro n
      induction n with
      | zero => intro h; exact ⟨0, ⟨h, Go.Lib.keeps_lt_one _ 0 (by omega)⟩, bang h⟩
      | succ n ih =>
        intro h
        by_cases e : zs.toArray[n + 1]! = zs.toArray[n + 1 - 1]!
        · obtain ⟨a, ha, hb⟩ := ih (by omega)
          refine ⟨a, ha, hb.trans ?_⟩
          rw [show n + 1 - 1 = n from rfl, bang h, bang (by omega)] at e
          exact e.symm
        · exact ⟨n + 1, ⟨h, Go.Lib.keeps_pos e⟩, bang h⟩
    exact key j hj
theorem compact_asc {zs : List Int} (hs : zs.Pairwise (· ≤ ·)) : asc (Go.Lib.compact zs) := by
  unfold asc Go.Lib.compact Go.Lib.compactUpTo
  rw [List.pairwise_map]
  have hr : ((List.range zs.length).filter (Go.Lib.keeps zs.toArray)).Pairwise (· < ·) := List.Pairwise.filter _ List.pairwise_lt_range
  refine List.Pairwise.imp_of_mem ?_ hr
  intro i j hi hj hij
  rw [List.mem_filter, List.mem_range] at hi hj
  rw [bang hi.1, bang hj.1]
  have hk := hj.2
  simp only [Go.Lib.keeps, decide_eq_true_eq] at hk
  have hj1 : j - 1 < zs.length := by omega
  rw [bang hj.1, bang hj1] at hk
  have h1 : zs[j - 1] ≤ zs[j] := List.pairwise_iff_getElem.1 hs (j - 1) j hj1 hj.1 (by omega)
  have h2 : zs[i] ≤ zs[j - 1] := by
    rcases Nat.lt_or_ge i (j - 1) with h | h
    · exact List.pairwise_iff_getElem.1 hs i (j - 1) hi.1 hj1 h
    · have : i = j - 1 := by omega
      subst this; exact Int.le_refl _
  rcases hk with hk | hk
  · omega
  · have : zs[j] ≠ zs[j - 1] := hk
    omega
theorem compact_puts (zs : List Int) : Go.Lib.compact (zs.mergeSort fun x y => decide (x ≤ y)) = puts zs := by
  apply asc_ext _ _ (compact_asc ?_) (puts_asc _)
  · intro x; rw [compact_mem, puts_mem, List.mem_mergeSort]
  · have := List.pairwise_mergeSort (le := fun (x y : Int) => decide (x ≤ y)) (fun a b c h1 h2 => by simp only [decide_eq_true_eq] at *; omega) (fun a b => by simp only [Bool.or_eq_true, decide_eq_true_eq]; omega) zs
    exact this.imp (fun h => by simpa using h)
end Go.Proofs.Ytogjjilmpenkiaa
