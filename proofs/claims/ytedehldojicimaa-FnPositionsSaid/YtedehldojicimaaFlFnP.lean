/- The plain law of the positions: a stamp whose position is told can be of no other one. No condition. -/
import Derived.Test.YtedehldojicimaaFlTell2
import Derived.Test.YtedehldojicimaaFlAt
namespace Go.Proofs.Ytedehldojicimaa
set_option linter.unusedVariables false
set_option linter.unusedSimpArgs false
open Go.RowKit
theorem codes_sub (xs : List Flaw) (p a s : Int) (h : a ≤ s) : (codesL xs p a).Sublist (codesL xs p s) := by
  unfold codesL
  refine List.Sublist.map _ ?_
  have e : xs.filter (chP p a) = (xs.filter (chP p s)).filter (chP p a) := by
    rw [List.filter_filter]
    refine List.filter_congr fun x _ => ?_
    unfold chP
    by_cases h1 : 10 * x.row + x.col = p
    · by_cases h2 : x.since ≤ a
      · simp [h1, h2, Int.le_trans h2 h]
      · simp [h1, h2]
    · simp [h1]
  rw [e]
  exact List.filter_sublist
theorem codes_mid {xs : List Flaw} {p a s b : Int} {cs : List Int} (h1 : codesL xs p a = cs) (h2 : codesL xs p b = cs) (ha : a ≤ s) (hb : s ≤ b) : codesL xs p s = cs := by
  have s1 := codes_sub xs p a s ha
  have s2 := codes_sub xs p s b hb
  have hl := s2.length_le
  rw [h2] at hl
  rw [h1] at s1
  exact (s1.eq_of_length_le hl).symm
theorem telJ_zero (xs : List Flaw) (cs : List Int) : ∀ k, (telJ xs cs k).1 = 0 → ∀ j, j < k → telS xs cs j = []
  | 0, _, j, hj => absurd hj (Nat.not_lt_zero _)
  | k + 1, h, j, hj => by
    by_cases e : telS xs cs k = []
    · rw [telJ_no e] at h
      by_cases ej : j = k
      · rw [ej]; exact e
      · exact telJ_zero xs cs k h j (by omega)
    · rw [telJ_yes e] at h; simp at h
theorem telJ_one (xs : List Flaw) (cs : List Int) : ∀ k, (telJ xs cs k).1 = 1 → ∃ p : Nat, p < k ∧ ¬ telS xs cs p = [] ∧ (∀ j, j < k → j ≠ p → telS xs cs j = []) ∧ (telJ xs cs k).2 = ((p : Int), (telS xs cs p).headD 0, (telS xs cs p).getLastD 0)
  | 0, h => by simp [telJ] at h
  | k + 1, h => by
    by_cases e : telS xs cs k = []
    · rw [telJ_no e] at h ⊢
      obtain ⟨p, h1, h2, h3, h4⟩ := telJ_one xs cs k h
      refine ⟨p, by omega, h2, fun j hj hp => ?_, h4⟩
      by_cases ej : j = k
      · rw [ej]; exact e
      · exact h3 j (by omega) hp
    · rw [telJ_yes e] at h ⊢
      have h0 : (telJ xs cs k).1 = 0 := by simpa using h
      exact ⟨k, by omega, e, fun j hj hp => telJ_zero xs cs k h0 j (by omega), rfl⟩
theorem range_one {P : Nat → Bool} {p : Nat} : ∀ n, p < n → (∀ j, j < n → P j = true → j = p) → (List.range n).filter P = if P p = true then [p] else []
  | 0, h, _ => absurd h (Nat.not_lt_zero _)
  | n + 1, h, hu => by
    rw [List.range_succ, List.filter_append]
    by_cases e : p = n
    · subst e
      have h0 : (List.range p).filter P = [] := List.filter_eq_nil_iff.2 fun j hj hP => by
        have := hu j (by have := List.mem_range.1 hj; omega) hP
        have := List.mem_range.1 hj
        omega
      rw [h0]
      cases hP : P p <;> simp [hP]
    · rw [range_one n (by omega) fun j hj => hu j (by omega)]
      have hn : P n = false := by
        cases hP : P n
        · rfl
        · exact absurd (hu n (by omega) hP).symm e
      simp [hn]
theorem sta_mem {xs : List Flaw} {cs : List Int} {p : Int} {s : Nat} : (s : Int) ∈ staL xs cs p 9 ↔ 1 ≤ s ∧ s ≤ 9 ∧ codesL xs p (s : Int) = cs := by
  unfold staL
  simp only [List.mem_map, List.mem_filter, List.mem_range, staP, decide_eq_true_eq]
  constructor
  · rintro ⟨k, ⟨h1, h2⟩, h3⟩
    have : (k : Int) + 1 = (s : Int) := h3
    rw [this] at h2
    exact ⟨by omega, by omega, h2⟩
  · rintro ⟨h1, h2, h3⟩
    obtain ⟨k, rfl⟩ : ∃ k, s = k + 1 := ⟨s - 1, by omega⟩
    exact ⟨k, ⟨by omega, by simpa using h3⟩, by simp⟩
theorem sta_nat {xs : List Flaw} {cs : List Int} {p z : Int} (h : z ∈ staL xs cs p 9) : ∃ s : Nat, z = (s : Int) := by
  unfold staL at h
  obtain ⟨k, _, hk⟩ := List.mem_map.1 h
  exact ⟨k + 1, by rw [← hk]; simp⟩
theorem sta_asc (xs : List Flaw) (cs : List Int) (p : Int) : (staL xs cs p 9).Pairwise (· < ·) := by
  unfold staL
  refine List.Pairwise.map _ (fun a b (h : a < b) => ?_) (List.Pairwise.filter _ List.pairwise_lt_range)
  show (a : Int) + 1 < (b : Int) + 1
  omega
theorem sta_ends {xs : List Flaw} {cs : List Int} {p : Int} (hne : ¬ staL xs cs p 9 = []) (s : Nat) (h1 : 1 ≤ s) (h9 : s ≤ 9) : codesL xs p (s : Int) = cs ↔ (staL xs cs p 9).headD 0 ≤ (s : Int) ∧ (s : Int) ≤ (staL xs cs p 9).getLastD 0 := by
  have hasc := sta_asc xs cs p
  have hm := @sta_mem xs cs p
  have hnat := fun z => @sta_nat xs cs p z
  generalize staL xs cs p 9 = S at *
  obtain ⟨hp, e0, e1⟩ := ends_of hne
  obtain ⟨l0, g0⟩ := List.getElem?_eq_some_iff.1 e0
  obtain ⟨l1, g1⟩ := List.getElem?_eq_some_iff.1 e1
  generalize S.headD 0 = F at *
  generalize S.getLastD 0 = L at *
  constructor
  · intro h
    obtain ⟨i, hi, he⟩ := List.getElem_of_mem (hm.2 ⟨h1, h9, h⟩)
    constructor
    · rw [← g0, ← he]
      by_cases ei : i = 0
      · subst ei; exact Int.le_refl _
      · exact Int.le_of_lt (List.pairwise_iff_getElem.1 hasc 0 i l0 hi (by omega))
    · rw [← g1, ← he]
      by_cases ei : i = S.length - 1
      · subst ei; exact Int.le_refl _
      · exact Int.le_of_lt (List.pairwise_iff_getElem.1 hasc i (S.length - 1) hi l1 (by omega))
  · rintro ⟨ha, hb⟩
    have m0 : F ∈ S := by rw [← g0]; exact List.getElem_mem l0
    have m1 : L ∈ S := by rw [← g1]; exact List.getElem_mem l1
    obtain ⟨f, rfl⟩ := hnat _ m0
    obtain ⟨l, rfl⟩ := hnat _ m1
    exact codes_mid (hm.1 m0).2.2 (hm.1 m1).2.2 ha hb
theorem tel_law {xs : List Flaw} {cs : List Int} (h : telB xs cs = true) (s : Nat) (h1 : 1 ≤ s) (h9 : s ≤ 9) : posB xs cs (s : Int) = true ∧ ((posV xs cs (s : Int) = [] ∧ ¬ (telF xs cs ≤ (s : Int) ∧ (s : Int) ≤ telL xs cs)) ∨ (posV xs cs (s : Int) = [telA xs cs] ∧ telF xs cs ≤ (s : Int) ∧ (s : Int) ≤ telL xs cs)) := by
  have h' := h
  simp only [telB, Bool.and_eq_true, decide_eq_true_eq] at h'
  obtain ⟨⟨hg, hs⟩, hj⟩ := h'
  obtain ⟨p, hp, hne, hu, he⟩ := telJ_one xs cs 100 hj
  have hA : telA xs cs = (p : Int) := by unfold telA; rw [if_pos h, he]
  have hF : telF xs cs = (telS xs cs p).headD 0 := by unfold telF; rw [if_pos h, he]
  have hL : telL xs cs = (telS xs cs p).getLastD 0 := by unfold telL; rw [if_pos h, he]
  have hB : posB xs cs (s : Int) = true := by simp [posB, hg, hs, inR]; omega
  have hV : posV xs cs (s : Int) = posL xs cs (s : Int) 100 := by unfold posV; rw [if_pos hB]
  have hE := sta_ends (xs := xs) (cs := cs) (p := (p : Int)) hne s h1 h9
  have hO : (List.range 100).filter (posP xs cs (s : Int)) = if posP xs cs (s : Int) p = true then [p] else [] := range_one 100 hp fun j hj hP => by
    have hc : codesL xs (j : Int) (s : Int) = cs := by simpa [posP] using hP
    by_cases ej : j = p
    · exact ej
    · have := hu j hj ej
      have hm : (s : Int) ∈ telS xs cs j := sta_mem.2 ⟨h1, h9, hc⟩
      rw [this] at hm; simp at hm
  refine ⟨hB, ?_⟩
  rw [hV, hA, hF, hL]
  unfold posL
  rw [hO]
  by_cases hc : codesL xs (p : Int) (s : Int) = cs
  · right
    rw [if_pos (by simp [posP, hc])]
    exact ⟨rfl, (hE.1 hc).1, (hE.1 hc).2⟩
  · left
    rw [if_neg (by simp [posP, hc])]
    exact ⟨rfl, fun hx => hc (hE.2 hx)⟩
theorem pos_at {xs : List Flaw} {cs : List Int} {st z : Int} (hz : z ∈ posV xs cs st) : 0 ≤ z ∧ z ≤ 99 ∧ catB xs z st = true ∧ catV xs z st = cs ∧ sfoB xs cs z = true ∧ st ∈ sfoV xs cs z := by
  unfold posV at hz
  split at hz
  · rename_i hB
    have hB' := hB
    simp only [posB, Bool.and_eq_true] at hB'
    obtain ⟨⟨hg, hs⟩, hst⟩ := hB'
    unfold posL at hz
    obtain ⟨k, hk, rfl⟩ := List.mem_map.1 hz
    obtain ⟨hk1, hk2⟩ := List.mem_filter.1 hk
    have hk3 := List.mem_range.1 hk1
    have hc : codesL xs (k : Int) st = cs := by simpa [posP] using hk2
    have hP : inR (k : Int) 0 99 = true := by simp [inR]; omega
    have hC : catB xs (k : Int) st = true := by simp [catB, hg, hst, hP]
    have hS : sfoB xs cs (k : Int) = true := by simp [sfoB, hg, hs, hP]
    have h19 : 1 ≤ st ∧ st ≤ 9 := by simpa [inR] using hst
    obtain ⟨s, rfl⟩ := Int.eq_ofNat_of_zero_le (show 0 ≤ st by omega)
    refine ⟨by omega, by omega, hC, by unfold catV; rw [if_pos hC, hc], hS, ?_⟩
    unfold sfoV
    rw [if_pos hS]
    exact sta_mem.2 ⟨by omega, by omega, hc⟩
  · simp at hz
theorem telA_rng (xs : List Flaw) (cs : List Int) : 0 ≤ telA xs cs := by
  unfold telA; split
  · exact telJ_at xs cs 100
  · decide
end Go.Proofs.Ytedehldojicimaa
