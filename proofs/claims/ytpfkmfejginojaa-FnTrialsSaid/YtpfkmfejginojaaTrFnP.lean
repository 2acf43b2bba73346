/- The plain law: the fewest trials are no more than the cheapest, and these cost no more. No program in sight. -/
import Derived.Test.YtpfkmfejginojaaTrCh
namespace Go.Proofs.Ytpfkmfejginojaa
set_option linter.unusedVariables false
set_option linter.unusedSimpArgs false
section
variable {xs : List Trial} {o : Odds} {num den : Int} {lt lt' : List Int → List Int → Bool}
theorem bestG_flag : ∀ s, (bestG xs o num den lt s).2 = (bestG xs o num den lt' s).2
  | 0 => rfl
  | s + 1 => by
    have ih := bestG_flag s
    unfold bestG
    cases he : enough (oddsS xs o s xs.length) num den
    · simp only [Bool.false_and, Bool.false_eq_true, if_false]; exact ih
    · simp only [Bool.true_and]
      split <;> split <;> simp_all
theorem bestG_from : ∀ s, (bestG xs o num den lt s).2 = true → ∃ t, t < s ∧ enough (oddsS xs o t xs.length) num den = true ∧ (bestG xs o num den lt s).1 = whichK t xs.length
  | 0, h => by simp [bestG] at h
  | s + 1, h => by
    cases hc : (enough (oddsS xs o s xs.length) num den && (!(bestG xs o num den lt s).2 || lt (whichK s xs.length) (bestG xs o num den lt s).1))
    · rw [bestG_no hc] at h ⊢
      obtain ⟨t, h1, h2, h3⟩ := bestG_from s h
      exact ⟨t, by omega, h2, h3⟩
    · rw [bestG_yes hc]
      exact ⟨s, by omega, by simp at hc; exact hc.1, rfl⟩
theorem bestG_has : ∀ s t, t < s → enough (oddsS xs o t xs.length) num den = true → (bestG xs o num den lt s).2 = true
  | s + 1, t, ht, he => by
    cases hc : (enough (oddsS xs o s xs.length) num den && (!(bestG xs o num den lt s).2 || lt (whichK s xs.length) (bestG xs o num den lt s).1))
    · rw [bestG_no hc]
      by_cases hts : t = s
      · subst hts; rw [he] at hc; simp at hc; exact hc.1
      · exact bestG_has s t (by omega) he
    · rw [bestG_yes hc]
theorem bestG_least (key : List Int → Int) (h1 : ∀ a b, lt a b = true → key a ≤ key b) (h2 : ∀ a b, lt a b = false → key b ≤ key a) : ∀ s t, t < s → enough (oddsS xs o t xs.length) num den = true → key (bestG xs o num den lt s).1 ≤ key (whichK t xs.length)
  | s + 1, t, ht, he => by
    cases hc : (enough (oddsS xs o s xs.length) num den && (!(bestG xs o num den lt s).2 || lt (whichK s xs.length) (bestG xs o num den lt s).1))
    · rw [bestG_no hc]
      by_cases hts : t = s
      · subst hts; rw [he] at hc; simp at hc; exact h2 _ _ hc.2
      · exact bestG_least key h1 h2 s t (by omega) he
    · rw [bestG_yes hc]
      by_cases hts : t = s
      · subst hts; exact Int.le_refl _
      · have hf := bestG_has (lt := lt) s t (by omega) he
        rw [hf] at hc
        simp at hc
        exact Int.le_trans (h1 _ _ hc.2) (bestG_least key h1 h2 s t (by omega) he)
end
theorem before_len {a b : List Int} (h : beforeL a b = true) : (a.length : Int) ≤ b.length := by
  unfold beforeL at h; split at h
  · omega
  · have := of_decide_eq_true h; omega
theorem before_len' {a b : List Int} (h : beforeL a b = false) : (b.length : Int) ≤ a.length := by
  unfold beforeL at h; split at h
  · omega
  · have := of_decide_eq_false h; omega
theorem cheap_le {xs : List Trial} {a b : List Int} (h : cheapL xs a b = true) : priceL xs a ≤ priceL xs b := by
  unfold cheapL at h; simp only [Bool.or_eq_true, Bool.and_eq_true, decide_eq_true_eq] at h; omega
theorem cheap_le' {xs : List Trial} {a b : List Int} (h : cheapL xs a b = false) : priceL xs b ≤ priceL xs a := by
  unfold cheapL at h; simp only [Bool.or_eq_false_iff, decide_eq_false_iff_not] at h; omega
theorem whichK_has {s : Nat} : ∀ {k j : Nat}, j < k → ((j : Int) ∈ whichK s k ↔ s.testBit j = true)
  | k + 1, j, h => by
    cases hb : s.testBit k with
    | true =>
      rw [whichK_yes hb, List.mem_append]
      by_cases hj : j = k
      · subst hj; simp [hb]
      · rw [whichK_has (k := k) (by omega)]; simp; omega
    | false =>
      rw [whichK_no hb]
      by_cases hj : j = k
      · subst hj; rw [hb]; constructor
        · intro h; have := whichK_mem _ h; omega
        · intro h; cases h
      · exact whichK_has (by omega)
/-- The prices of those among the first k that stand in the list. -/
def sumP (xs : List Trial) (w : List Int) : Nat → Int
  | 0 => 0
  | k + 1 => sumP xs w k + (if (k : Int) ∈ w then (match xs[k]? with | some t => t.price | none => 0) else 0)
theorem sumP_yes {xs : List Trial} {w : List Int} {k : Nat} (hk : k < xs.length) (h : (k : Int) ∈ w) : sumP xs w (k + 1) = sumP xs w k + xs[k].price := by
  rw [sumP, if_pos h]; simp only [List.getElem?_eq_getElem hk]
theorem sumP_no {xs : List Trial} {w : List Int} {k : Nat} (h : ¬ (k : Int) ∈ w) : sumP xs w (k + 1) = sumP xs w k := by
  rw [sumP, if_neg h]; omega
theorem sumP_which {xs : List Trial} {s : Nat} : ∀ k, k ≤ xs.length → sumP xs (whichK s xs.length) k = priceL xs (whichK s k)
  | 0, _ => rfl
  | k + 1, h => by
    have ih := sumP_which (xs := xs) (s := s) k (by omega)
    cases hb : s.testBit k with
    | true => rw [sumP_yes (by omega) ((whichK_has (by omega)).2 hb), whichK_yes hb, priceL_app, priceL_one (by omega), ih]
    | false => rw [sumP_no (fun hm => by have := (whichK_has (by omega)).1 hm; rw [hb] at this; cases this), whichK_no hb, ih]
theorem sumP_bd {xs : List Trial} (hg : ∀ (i : Nat) (h : i < xs.length), xs[i].ok = true) (w : List Int) : ∀ k, k ≤ xs.length → 0 ≤ sumP xs w k ∧ sumP xs w k ≤ 1000 * k
  | 0, _ => by simp [sumP]
  | k + 1, h => by
    have ih := sumP_bd hg w k (by omega)
    have hb := ok_bd (hg k (by omega))
    by_cases hm : (k : Int) ∈ w
    · rw [sumP_yes (by omega) hm]; omega
    · rw [sumP_no hm]; omega
section
variable {xs : List Trial} {o : Odds} {num den : Int}
theorem cpB_fwB : cpB xs o num den = fwB xs o num den := by unfold cpB fwB; rw [bestG_flag (lt := cheapL xs) (lt' := beforeL)]
theorem law_trials (h : fwB xs o num den = true) : (fwV xs o num den).length ≤ (cpV xs o num den).length ∧ cpN xs o num den ≤ sumP xs (fwV xs o num den) xs.length ∧ sumP xs (cpV xs o num den) xs.length = cpN xs o num den := by
  have ha : askB xs o num den = true := by unfold fwB at h; simp at h; exact h.1
  have hc := h
  rw [← cpB_fwB] at hc
  rw [fwB_yes ha] at h
  rw [cpB_yes ha] at hc
  rw [fwV_yes ha, cpV_yes ha, cpN_yes ha]
  obtain ⟨s, hs, es, ws⟩ := bestG_from _ h
  obtain ⟨t, ht, et, wt⟩ := bestG_from _ hc
  have k1 := bestG_least (lt := beforeL) (fun a => (a.length : Int)) (fun a b => before_len) (fun a b => before_len') _ t ht et
  have k2 := bestG_least (lt := cheapL xs) (fun a => priceL xs a) (fun a b => cheap_le) (fun a b => cheap_le') _ s hs es
  refine ⟨?_, ?_, ?_⟩
  · rw [← wt] at k1; omega
  · rw [ws, sumP_which _ (Nat.le_refl _)]; exact k2
  · rw [wt, sumP_which _ (Nat.le_refl _)]
end
end Go.Proofs.Ytpfkmfejginojaa
