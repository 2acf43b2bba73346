/- The plain law on partners: no partner has more pairs than the best one, rare items have one owner, and an owner misses just what they do not have. No condition, and no program in sight. -/
import Derived.Test.YtebkfcdijjcefaaDoorHoRare
import Derived.Test.YtebkfcdijjcefaaDoorHoPair
import Derived.Test.YtebkfcdijjcefaaDoorHoMiss
import Derived.Test.YtebkfcdijjcefaaDoorHoTop1
namespace Go.Proofs.YtebkfcdijjcefaaDoor
set_option linter.unusedVariables false
set_option linter.unusedSimpArgs false
open Go.RowKit
theorem best_inv {xs : List Hold} {o : ByteArray} : ∀ k, k ≤ xs.length → (∀ (j : Nat) (h : j < xs.length), j < k → xs[j].owner ≠ o → pairsH xs o xs[j].owner ≤ (bestH xs o k).2) ∧ (0 ≤ (bestH xs o k).2 → pairsH xs o (bestH xs o k).1 = (bestH xs o k).2)
  | 0, _ => ⟨fun j _ h => absurd h (by omega), fun h => absurd h (by simp [bestH])⟩
  | k + 1, hk => by
    have hk' : k < xs.length := by omega
    obtain ⟨h1, h2⟩ := best_inv (xs := xs) (o := o) k (by omega)
    rw [bestH_next hk']
    unfold stepB
    by_cases hc : xs[k].owner ≠ o ∧ (bestH xs o k).2 < pairsH xs o xs[k].owner
    · rw [if_pos hc]
      refine ⟨fun j hj hjk hne => ?_, fun _ => rfl⟩
      simp only
      by_cases e : j = k
      · subst e; exact Int.le_refl _
      · have := h1 j hj (by omega) hne; omega
    · rw [if_neg hc]
      refine ⟨fun j hj hjk hne => ?_, h2⟩
      by_cases e : j = k
      · subst e
        have : ¬ (bestH xs o j).2 < pairsH xs o xs[j].owner := fun h => hc ⟨hne, h⟩
        omega
      · exact h1 j hj (by omega) hne
theorem best_law {xs : List Hold} {o : ByteArray} (h : bestB xs o = true) (j : Nat) (hj : j < xs.length) (hne : xs[j].owner ≠ o) : twoB xs o xs[j].owner = true ∧ pairV xs o xs[j].owner ≤ bestN xs o ∧ (xs[j].owner = bestS xs o → pairV xs o xs[j].owner = bestN xs o) := by
  have h' := h
  simp only [bestB, bestG, Bool.and_eq_true, decide_eq_true_eq] at h'
  obtain ⟨⟨hg, hw⟩, h0⟩ := h'
  have ho := goodH_ok hg hj
  simp only [Hold.ok, Bool.and_eq_true] at ho
  have ht : twoB xs o xs[j].owner = true := by
    simp only [twoB, Bool.and_eq_true, decide_eq_true_eq]
    exact ⟨⟨⟨hg, hw⟩, ho.1.1⟩, fun e => hne e.symm⟩
  obtain ⟨i1, i2⟩ := best_inv (xs := xs) (o := o) xs.length (Nat.le_refl _)
  have e1 : bestN xs o = (bestH xs o xs.length).2 := by simp [bestN, h]
  have e2 : bestS xs o = (bestH xs o xs.length).1 := by simp [bestS, h]
  have e3 : pairV xs o xs[j].owner = pairsH xs o xs[j].owner := by simp [pairV, ht]
  refine ⟨ht, ?_, fun e => ?_⟩
  · rw [e1, e3]; exact i1 j hj hj hne
  · rw [e3, e, e2, e1]; exact i2 h0
theorem rare_law {xs : List Hold} {x : Int} (h : x ∈ rareV xs) : ownB xs x = true ∧ (ownV xs x).length = 1 := by
  unfold rareV at h
  split at h
  · rename_i hg
    unfold rareL at h
    obtain ⟨i, hi, rfl⟩ := List.mem_map.1 h
    obtain ⟨hi, hp⟩ := List.mem_filter.1 hi
    have hi := List.mem_range.1 hi
    have hb : ownB xs (nxt i) = true := by
      simp only [ownB, Bool.and_eq_true, inR_iff, nxt]
      exact ⟨hg, by omega, by omega⟩
    refine ⟨hb, ?_⟩
    simp only [rareP, decide_eq_true_eq] at hp
    have : (ownV xs (nxt i)).length = numH xs (nxt i) := by simp only [ownV, hb, if_true, numH, List.length_map]
    rw [this]; exact hp
  · cases h
theorem miss_law {xs : List Hold} {o : ByteArray} {z : Int} (h : cntB xs o z = true) {i : Int} (h1 : 1 ≤ i) (h2 : i ≤ z) : cntB xs o i = true ∧ decide (cntV xs o i = 0) = decide (i ∈ missV xs o z) := by
  have h' := h
  simp only [cntB, Bool.and_eq_true, inR_iff] at h'
  obtain ⟨⟨hg, hw⟩, hz⟩ := h'
  have hb : cntB xs o i = true := by
    simp only [cntB, Bool.and_eq_true, inR_iff]
    exact ⟨⟨hg, hw⟩, by omega, by omega⟩
  refine ⟨hb, ?_⟩
  rw [decide_eq_decide]
  simp only [cntV, hb, if_true, missV, h]
  constructor
  · intro h0
    refine List.mem_map.2 ⟨(i - 1).toNat, List.mem_filter.2 ⟨List.mem_range.2 (by omega), ?_⟩, by unfold nxt; omega⟩
    unfold missP
    rw [show (((i - 1).toNat : Nat) : Int) + 1 = i by omega]
    simpa using h0
  · intro hm
    obtain ⟨k, hk, rfl⟩ := List.mem_map.1 hm
    obtain ⟨_, hp⟩ := List.mem_filter.1 hk
    simpa [missP, nxt] using hp
end Go.Proofs.YtebkfcdijjcefaaDoor
