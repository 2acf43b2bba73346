/- Levels and parts of an album: the plain words. No condition. -/
import Derived.Test.YtpjnlcppjcnlgaaGreatDoorAlPlain
import Derived.Test.YtpjnlcppjcnlgaaGreatDoorPutPlain
namespace Go.Proofs.YtpjnlcppjcnlgaaGreatDoor
set_option linter.unusedVariables false
set_option linter.unusedSimpArgs false
open Go.RowKit
section
variable {ps : List Page}
theorem good_lt (hg : goodA ps = true) {i j : Nat} (hj : j < ps.length) (hij : i < j) : (ps[i]'(by omega)).id < ps[j].id :=
  ord_lt ps.length (Nat.le_refl _) (fun k hk => okA_ord hk (goodA_at hg hk)) j i hj hij
theorem good_inj (hg : goodA ps = true) {i j : Nat} (hi : i < ps.length) (hj : j < ps.length) (h : ps[i].id = ps[j].id) : i = j := by
  rcases Nat.lt_trichotomy i j with h1 | h1 | h1
  · have := good_lt hg hj h1; omega
  · exact h1
  · have := good_lt hg hi h1; omega
theorem good_base (hg : goodA ps = true) {j : Nat} (hj : j < ps.length) : 1 ≤ ps[j].id ∧ ps[j].id ≤ 99 ∧ isW ps[j].title = true ∧ ps[j].items.length ≤ 8 ∧ ascL ps[j].items = true ∧ ∀ z ∈ ps[j].items, 1 ≤ z ∧ z ≤ 999 := by
  have := goodA_at hg hj
  rw [okA_val hj] at this
  simp only [Bool.and_eq_true, Page.base, inR_iff, decide_eq_true_eq, List.all_eq_true] at this
  obtain ⟨⟨⟨⟨⟨⟨⟨⟨h1, h2⟩, h3⟩, h4⟩, h5⟩, _⟩, _⟩, _⟩, _⟩ := this
  exact ⟨h1.1, h1.2, h2, h3, h4, h5⟩
theorem good_above (hg : goodA ps = true) {j : Nat} (hj : j < ps.length) (hu : ps[j].under ≠ 0) : ∃ i, ∃ (hi : i < j), (ps[i]'(by omega)).id = ps[j].under := by
  have := goodA_at hg hj
  rw [okA_val hj] at this
  simp only [Bool.and_eq_true] at this
  have h2 := this.1.1.2
  unfold undA at h2
  simp only [Bool.or_eq_true, decide_eq_true_eq] at h2
  rcases h2 with h0 | h0
  · exact absurd h0 hu
  · obtain ⟨q, hq, hqi⟩ := List.any_eq_true.1 h0
    obtain ⟨i, hi, rfl⟩ := List.mem_take_iff_getElem.1 hq
    exact ⟨i, by omega, by simpa [idP] using hqi⟩
theorem good_under (hg : goodA ps = true) {j : Nat} (hj : j < ps.length) : ps[j].under < ps[j].id := by
  by_cases hu : ps[j].under = 0
  · have := (good_base hg hj).1; omega
  · obtain ⟨i, hi, h⟩ := good_above hg hj hu
    have := good_lt hg hj hi; omega
theorem idx_at (hg : goodA ps = true) {j : Nat} (hj : j < ps.length) : idxI (idP ps[j].id) ps = (j : Int) :=
  idxI_hit _ ps j hj (fun x hx => by
    obtain ⟨i, hi, rfl⟩ := List.mem_take_iff_getElem.1 hx
    have := good_lt hg hj (show i < j by omega)
    simp [idP]; omega) (by simp [idP])
theorem idx_of (id : Int) : (∃ j, ∃ (hj : j < ps.length), idxI (idP id) ps = (j : Int) ∧ ps[j].id = id) ∨ (idxI (idP id) ps = -1 ∧ ps.any (idP id) = false) := by
  unfold idxI
  cases h : ps.findIdx? (idP id) with
  | none =>
    right
    have : ∀ x ∈ ps, idP id x = false := by simpa using h
    exact ⟨rfl, List.any_eq_false.2 fun x hx => by simp [this x hx]⟩
  | some i =>
    left
    rw [List.findIdx?_eq_some_iff_getElem] at h
    obtain ⟨hi, hp, _⟩ := h
    exact ⟨i, hi, rfl, by simpa [idP] using hp⟩
end
/-- The number of the page above. -/
def undOf (ps : List Page) (id : Int) : Int := match ps.find? (idP id) with | some p => p.under | none => 0
def levF (ps : List Page) : Nat → Int → Nat
  | 0, _ => 0
  | f + 1, id => if undOf ps id = 0 then 0 else levF ps f (undOf ps id) + 1
def levA (ps : List Page) (id : Int) : Nat := levF ps ps.length id
section
variable {ps : List Page}
theorem undOf_at (hg : goodA ps = true) {j : Nat} (hj : j < ps.length) : undOf ps ps[j].id = ps[j].under := by
  have : ps.find? (idP ps[j].id) = some ps[j] := by
    rw [List.find?_eq_some_iff_getElem]
    refine ⟨by simp [idP], j, hj, rfl, fun i hi => ?_⟩
    have := good_lt hg hj hi
    simp [idP]; omega
  simp [undOf, this]
theorem levF_le (ps : List Page) : ∀ (f : Nat) (id : Int), levF ps f id ≤ f
  | 0, _ => by simp [levF]
  | f + 1, id => by
    unfold levF; split
    · omega
    · have := levF_le ps f (undOf ps id); omega
theorem levF_stable (hg : goodA ps = true) : ∀ (n j : Nat) (hn : j < n) (hj : j < ps.length) (f : Nat), j < f → levF ps f ps[j].id = levF ps (j + 1) ps[j].id
  | n + 1, j, hn, hj, f + 1, hf => by
    unfold levF
    rw [undOf_at hg hj]
    by_cases hu : ps[j].under = 0
    · simp [hu]
    · rw [if_neg hu, if_neg hu]
      obtain ⟨i, hi, h⟩ := good_above hg hj hu
      rw [← h, levF_stable hg n i (by omega) (by omega) f (by omega), levF_stable hg n i (by omega) (by omega) j (by omega)]
/-- The level of page number j. -/
def levJ (ps : List Page) (j : Nat) : Nat := match ps[j]? with | none => 0 | some p => levF ps (j + 1) p.id
theorem levJ_at {j : Nat} (hj : j < ps.length) : levJ ps j = levF ps (j + 1) ps[j].id := by simp [levJ, hj]
theorem levA_at (hg : goodA ps = true) {j : Nat} (hj : j < ps.length) : levA ps ps[j].id = levJ ps j := by
  rw [levJ_at hj]; exact levF_stable hg (j + 1) j (by omega) hj ps.length hj
theorem levJ_0 (hg : goodA ps = true) {j : Nat} (hj : j < ps.length) (hu : ps[j].under = 0) : levJ ps j = 0 := by
  rw [levJ_at hj]; unfold levF; rw [undOf_at hg hj, if_pos hu]
theorem levJ_s (hg : goodA ps = true) {i j : Nat} (hj : j < ps.length) (hi : i < j) (hu : ps[j].under ≠ 0) (h : (ps[i]'(by omega)).id = ps[j].under) : levJ ps j = levJ ps i + 1 := by
  rw [levJ_at hj, levJ_at (show i < ps.length by omega)]
  conv => lhs; unfold levF
  rw [undOf_at hg hj, if_neg hu, ← h, levF_stable hg j i hi (by omega) j hi]
theorem levJ_le (ps : List Page) (j : Nat) : levJ ps j ≤ j + 1 := by
  unfold levJ; split
  · omega
  · exact levF_le _ _ _
end
/-- The pages of the part of a page, among the first k. -/
def partK (ps : List Page) (id : Int) : Nat → List Int
  | 0 => []
  | k + 1 => match ps[k]? with
    | none => partK ps id k
    | some p => if p.id = id ∨ p.under ∈ partK ps id k then partK ps id k ++ [p.id] else partK ps id k
def partA (ps : List Page) (id : Int) : List Int := partK ps id ps.length
section
variable {ps : List Page} {id : Int}
theorem partK_yes {k : Nat} (hk : k < ps.length) (h : ps[k].id = id ∨ ps[k].under ∈ partK ps id k) : partK ps id (k + 1) = partK ps id k ++ [ps[k].id] := by
  conv => lhs; unfold partK
  simp only [List.getElem?_eq_getElem hk]; rw [if_pos h]
theorem partK_no {k : Nat} (hk : k < ps.length) (h : ¬ (ps[k].id = id ∨ ps[k].under ∈ partK ps id k)) : partK ps id (k + 1) = partK ps id k := by
  conv => lhs; unfold partK
  simp only [List.getElem?_eq_getElem hk]; rw [if_neg h]
theorem partK_mem : ∀ {k : Nat} (hk : k ≤ ps.length) {x : Int}, x ∈ partK ps id k → ∃ i, ∃ (hi : i < k), (ps[i]'(by omega)).id = x
  | k + 1, hk, x, h => by
    by_cases hc : ps[k].id = id ∨ ps[k].under ∈ partK ps id k
    · rw [partK_yes (by omega) hc] at h
      rcases List.mem_append.1 h with h | h
      · obtain ⟨i, hi, e⟩ := partK_mem (by omega) h
        exact ⟨i, by omega, e⟩
      · simp at h; exact ⟨k, by omega, h.symm⟩
    · rw [partK_no (by omega) hc] at h
      obtain ⟨i, hi, e⟩ := partK_mem (by omega) h
      exact ⟨i, by omega, e⟩
theorem partK_len (ps : List Page) (id : Int) : ∀ k, (partK ps id k).length ≤ k
  | 0 => by simp [partK]
  | k + 1 => by
    have := partK_len ps id k
    unfold partK
    split
    · omega
    · split
      · simp; omega
      · omega
theorem partK_mono {x : Int} : ∀ {k m : Nat}, k ≤ m → x ∈ partK ps id k → x ∈ partK ps id m
  | k, 0, h, hx => by rw [show k = 0 by omega] at hx; exact hx
  | k, m + 1, h, hx => by
    rcases Nat.eq_or_lt_of_le h with rfl | h
    · exact hx
    · have := partK_mono (show k ≤ m by omega) hx
      unfold partK
      split
      · exact this
      · split
        · exact List.mem_append_left _ this
        · exact this
theorem partK_asc (hg : goodA ps = true) : ∀ {k : Nat}, k ≤ ps.length → asc (partK ps id k)
  | 0, _ => List.Pairwise.nil
  | k + 1, hk => by
    by_cases hc : ps[k].id = id ∨ ps[k].under ∈ partK ps id k
    · rw [partK_yes (by omega) hc]
      refine List.pairwise_append.2 ⟨partK_asc hg (by omega), by simp, fun x hx y hy => ?_⟩
      simp at hy; subst hy
      obtain ⟨i, hi, e⟩ := partK_mem (by omega) hx
      rw [← e]
      exact good_lt hg (by omega) hi
    · rw [partK_no (by omega) hc]; exact partK_asc hg (by omega)
/-- Ahead of the page itself there is none of its part. -/
theorem partK_before (hg : goodA ps = true) {j : Nat} (hj : j < ps.length) : ∀ {k : Nat}, k ≤ j → partK ps ps[j].id k = []
  | 0, _ => rfl
  | k + 1, hk => by
    have h0 := partK_before hg hj (k := k) (by omega)
    rw [partK_no (by omega) (by
      rw [h0]
      rintro (h | h)
      · have := good_inj hg (by omega) hj h; omega
      · cases h), h0]
theorem partK_self (hg : goodA ps = true) {j : Nat} (hj : j < ps.length) {k : Nat} (hk : j < k) : ps[j].id ∈ partK ps ps[j].id k := by
  refine partK_mono (show j + 1 ≤ k by omega) ?_
  rw [partK_yes hj (.inl rfl)]
  simp
end
end Go.Proofs.YtpjnlcppjcnlgaaGreatDoor
