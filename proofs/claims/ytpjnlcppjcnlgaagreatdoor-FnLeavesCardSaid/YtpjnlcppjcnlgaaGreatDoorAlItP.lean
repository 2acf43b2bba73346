/- ItemsUnder: the plain words and the plain law. No program in sight. -/
import Derived.Test.YtpjnlcppjcnlgaaGreatDoorAlPg
import Derived.Test.YtpjnlcppjcnlgaaGreatDoorAlSort
namespace Go.Proofs.YtpjnlcppjcnlgaaGreatDoor
set_option linter.unusedVariables false
set_option linter.unusedSimpArgs false
open Go.RowKit
/-- The items of the pages, among the first k, whose numbers are in P. -/
def iuL (xs : List Page) (P : List Int) (k : Nat) : List Int := ((xs.take k).filter fun p => decide (p.id ∈ P)).flatMap (·.items)
def iuV (xs : List Page) (z : Int) : List Int := if lvB xs z = true then puts (iuL xs (partA xs z) xs.length) else []
section
variable {xs : List Page} {P : List Int} {k : Nat}
theorem iuL_0 : iuL xs P 0 = [] := by simp [iuL]
theorem iuL_yes (hk : k < xs.length) (h : xs[k].id ∈ P) : iuL xs P (k + 1) = iuL xs P k ++ xs[k].items := by
  unfold iuL; rw [take_succ_get xs k hk, List.filter_append]; simp [h]
theorem iuL_no (hk : k < xs.length) (h : ¬ xs[k].id ∈ P) : iuL xs P (k + 1) = iuL xs P k := by
  unfold iuL; rw [take_succ_get xs k hk, List.filter_append]; simp [h]
theorem iuL_len : ∀ {k : Nat}, k ≤ xs.length → (iuL xs P k).length ≤ sumI (xs.take k)
  | 0, _ => by simp [iuL_0]
  | k + 1, hk => by
    have ih := iuL_len (k := k) (by omega)
    rw [sumI_take_succ (by omega)]
    by_cases h : (xs[k]'(by omega)).id ∈ P
    · rw [iuL_yes (by omega) h, List.length_append]; omega
    · rw [iuL_no (by omega) h]; omega
theorem iuV_no {z : Int} (h : lvB xs z = false) : iuV xs z = [] := by simp [iuV, h]
theorem iuV_yes {z : Int} (h : lvB xs z = true) : iuV xs z = puts (iuL xs (partA xs z) xs.length) := by simp [iuV, h]
theorem good_len8 (hg : goodA xs = true) : ∀ p ∈ xs, p.items.length ≤ 8 := fun p hp => by
  obtain ⟨j, hj, rfl⟩ := List.getElem_of_mem hp
  exact (good_base hg hj).2.2.2.1
theorem flat_8 : ∀ (ps : List Page), (∀ p ∈ ps, p.items.length ≤ 8) → (ps.flatMap (·.items)).length ≤ 8 * ps.length
  | [], _ => by simp
  | p :: ps, h => by
    have ih := flat_8 ps (fun q hq => h q (List.mem_cons_of_mem _ hq))
    have := h p (List.mem_cons_self ..)
    rw [List.flatMap_cons, List.length_append, List.length_cons]; omega
theorem iuV_len (z : Int) : (iuV xs z).length ≤ 2097152 := by
  unfold iuV
  split
  · rename_i h
    have hg : goodA xs = true := by unfold lvB at h; exact (Bool.and_eq_true _ _ ▸ h).1
    have h1 := goodA_len hg
    have h2 := puts_len (iuL xs (partA xs z) xs.length)
    have h3 : (iuL xs (partA xs z) xs.length).length ≤ 8 * ((xs.take xs.length).filter fun p => decide (p.id ∈ partA xs z)).length :=
      flat_8 _ fun p hp => good_len8 hg p (List.mem_of_mem_take (List.mem_filter.1 hp).1)
    have h4 := List.length_filter_le (fun p : Page => decide (p.id ∈ partA xs z)) (xs.take xs.length)
    rw [List.take_length] at h3 h4
    omega
  · simp
theorem partP_sub {id : Int} : ∀ {k : Nat}, k ≤ xs.length → (partP xs id k).Sublist (xs.take k)
  | 0, _ => by simp [partP]
  | k + 1, hk => by
    have ih := partP_sub (id := id) (k := k) (by omega)
    rw [take_succ_get xs k (by omega)]
    by_cases hc : (xs[k]'(by omega)).id = id ∨ (xs[k]'(by omega)).under ∈ partK xs id k
    · rw [partP_yes (by omega) hc]; exact ih.append (List.Sublist.refl _)
    · rw [partP_no (by omega) hc]; exact ih.trans (List.sublist_append_left _ _)
theorem good_nodup (hg : goodA xs = true) : ∀ {k : Nat}, k ≤ xs.length → ((xs.take k).flatMap (·.items)).Nodup
  | 0, _ => by simp
  | k + 1, hk => by
    have ih := good_nodup hg (k := k) (by omega)
    have hgb := good_base hg (show k < xs.length by omega)
    have hok := goodA_at hg (show k < xs.length by omega)
    rw [okA_val (by omega)] at hok
    simp only [Bool.and_eq_true] at hok
    have hfree := hok.2
    unfold freeA at hfree
    rw [take_succ_get xs k (by omega), List.flatMap_append]
    refine List.nodup_append.2 ⟨ih, ?_, ?_⟩
    · simp only [List.flatMap_cons, List.flatMap_nil, List.append_nil]
      refine List.pairwise_iff_getElem.2 fun i j hi hj hij e => ?_
      have := ascL_lt hgb.2.2.2.2.1 j i hj hij
      omega
    · intro a ha b hb e
      subst e
      simp only [List.flatMap_cons, List.flatMap_nil, List.append_nil] at hb
      have h1 := List.all_eq_true.1 hfree a hb
      obtain ⟨p, hp, hpa⟩ := List.mem_flatMap.1 ha
      have h2 : (xs.take k).any (hasP a) = true := List.any_eq_true.2 ⟨p, hp, by simpa [hasP] using hpa⟩
      rw [h2] at h1
      cases h1
theorem sub_flat {ps qs : List Page} (h : ps.Sublist qs) : (ps.flatMap (·.items)).Sublist (qs.flatMap (·.items)) := by
  induction h with
  | slnil => exact List.Sublist.refl _
  | cons a _ ih => rw [List.flatMap_cons]; exact ih.trans (List.sublist_append_right _ _)
  | cons_cons a _ ih => rw [List.flatMap_cons, List.flatMap_cons]; exact (List.Sublist.refl _).append ih
/-- The pages of the part, sorted, are the reference's list. -/
theorem iu_law (hg : goodA xs = true) {id : Int} : (((partP xs id xs.length).flatMap (·.items)).mergeSort fun x y => decide (x ≤ y)) = puts (iuL xs (partA xs id) xs.length) := by
  refine sort_puts ?_ fun x => ?_
  · have h := good_nodup hg (Nat.le_refl xs.length)
    exact h.sublist (sub_flat (partP_sub (Nat.le_refl _)))
  · have hm := partP_map (id := id) (Nat.le_refl xs.length)
    unfold iuL partA
    rw [List.take_length]
    simp only [List.mem_flatMap, List.mem_filter, decide_eq_true_eq]
    constructor
    · rintro ⟨p, hp, hx⟩
      exact ⟨p, ⟨partP_mem p hp, by rw [← hm]; exact List.mem_map.2 ⟨p, hp, rfl⟩⟩, hx⟩
    · rintro ⟨p, ⟨hp, hi⟩, hx⟩
      rw [← hm] at hi
      obtain ⟨q, hq, e⟩ := List.mem_map.1 hi
      obtain ⟨i, hi', rfl⟩ := List.getElem_of_mem hp
      obtain ⟨i2, hi2, e2⟩ := List.getElem_of_mem (partP_mem q hq)
      subst e2
      have := good_inj hg hi2 hi' e
      subst this
      exact ⟨_, hq, hx⟩
end
end Go.Proofs.YtpjnlcppjcnlgaaGreatDoor
