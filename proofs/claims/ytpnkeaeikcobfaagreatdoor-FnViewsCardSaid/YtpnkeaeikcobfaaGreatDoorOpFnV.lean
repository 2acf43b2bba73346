/- The plain law on views: the view is the greatest of what standing opinions say, an item is disputed exactly if these differ, and two experts agree on no more items than both know. No condition, and no program in sight. -/
import Derived.Test.YtpnkeaeikcobfaaGreatDoorOpTop
import Derived.Test.YtpnkeaeikcobfaaGreatDoorOpAgree
import Derived.Test.YtpnkeaeikcobfaaGreatDoorOpDisp
namespace Go.Proofs.YtpnkeaeikcobfaaGreatDoor
set_option linter.unusedVariables false
set_option linter.unusedSimpArgs false
open Go.RowKit
/-- The least and the greatest of what is said, from 9 and 0 on. -/
def viewN (xs : List Opinion) (l : List Int) : Int × Int := l.foldl (fun a i => (min a.1 (saysO xs i), max a.2 (saysO xs i))) (9, 0)
theorem viewN_snoc (xs : List Opinion) (l : List Int) (i : Int) : viewN xs (l ++ [i]) = (min (viewN xs l).1 (saysO xs i), max (viewN xs l).2 (saysO xs i)) := by unfold viewN; rw [List.foldl_append]; rfl
theorem base_O {xs : List Opinion} (hg : goodO xs = true) {m : Nat} (hm : m < xs.length) : (1 ≤ xs[m].says ∧ xs[m].says ≤ 4) ∧ (0 ≤ xs[m].day ∧ xs[m].day ≤ 4000) ∧ 1 ≤ xs[m].item ∧ xs[m].item ≤ 999 := by
  have := goodO_at hg hm
  rw [okO_val hm] at this
  simp only [Bool.and_eq_true, Opinion.base, inR_iff] at this
  exact ⟨this.1.1.1.1.2, this.1.1.1.1.1.2, this.1.1.1.1.1.1.1.1, this.1.1.1.1.1.1.1.2⟩
section
variable {xs : List Opinion} {z d s : Int} {a b : ByteArray}
theorem viewN_viewL (hg : goodO xs = true) (l : List Int) (h : ∀ v ∈ l, ∃ m : Nat, m < xs.length ∧ v = (m : Int)) : (viewN xs l).2 = (viewL xs l).2 ∧ ((l = [] ∧ viewN xs l = (9, 0) ∧ viewL xs l = (5, 0)) ∨ (viewN xs l).1 = (viewL xs l).1) := by
  have key : ∀ (r : List Int) (l0 : List Int), (∀ v ∈ r, ∃ m : Nat, m < xs.length ∧ v = (m : Int)) → ((viewN xs l0).2 = (viewL xs l0).2 ∧ ((l0 = [] ∧ viewN xs l0 = (9, 0) ∧ viewL xs l0 = (5, 0)) ∨ (viewN xs l0).1 = (viewL xs l0).1)) → ((viewN xs (l0 ++ r)).2 = (viewL xs (l0 ++ r)).2 ∧ (((l0 ++ r) = [] ∧ viewN xs (l0 ++ r) = (9, 0) ∧ viewL xs (l0 ++ r) = (5, 0)) ∨ (viewN xs (l0 ++ r)).1 = (viewL xs (l0 ++ r)).1)) := by
    intro r
    induction r with
    | nil => intro l0 _ h0; simpa using h0
    | cons v r ih =>
      intro l0 hm h0
      have e : l0 ++ v :: r = (l0 ++ [v]) ++ r := by simp
      rw [e]
      refine ih (l0 ++ [v]) (fun u hu => hm u (List.mem_cons_of_mem _ hu)) ?_
      obtain ⟨m, hml, rfl⟩ := hm v (List.mem_cons_self ..)
      have hs := (base_O hg hml).1
      rw [viewN_snoc, viewL_snoc, saysO_nat hml]
      obtain ⟨h1, h2⟩ := h0
      refine ⟨?_, .inr ?_⟩
      · show max (viewN xs l0).2 _ = max (viewL xs l0).2 _
        rw [h1]
      · show min (viewN xs l0).1 _ = min (viewL xs l0).1 _
        rcases h2 with ⟨_, h3, h4⟩ | h3
        · rw [h3, h4]
          show min (9 : Int) _ = min (5 : Int) _
          omega
        · rw [h3]
  have := key l [] h ⟨rfl, .inl ⟨rfl, rfl, rfl⟩⟩
  simpa using this
theorem standL_none (h : ∀ x ∈ xs, x.item ≠ z) : standL xs z d = [] := by
  unfold standL
  have : (List.range xs.length).filter (standP xs z d) = [] := List.filter_eq_nil_iff.2 fun i hi => by
    have hi := List.mem_range.1 hi
    rw [standP_val hi, decide_eq_false (h _ (List.getElem_mem hi))]
    simp
  rw [this]; rfl
theorem vw_law (h : stB xs z d = true) : dispB xs d = true ∧ (viewN xs (stV xs z d)).2 = vwV xs z d ∧ decide (z ∈ dispV xs d) = decide ((viewN xs (stV xs z d)).1 < (viewN xs (stV xs z d)).2) := by
  have h' := h
  simp only [stB, Bool.and_eq_true] at h'
  obtain ⟨⟨hg, hz⟩, hd⟩ := h'
  have hB : dispB xs d = true := by simp [dispB, hg, hd]
  have hV : stV xs z d = standL xs z d := by unfold stV; rw [if_pos h]
  have hk := viewN_viewL hg (standL xs z d) fun v hv => standL_mem hv
  refine ⟨hB, by rw [hV, hk.1]; unfold vwV viewM; rw [if_pos h], ?_⟩
  rw [hV, decide_eq_decide]
  unfold dispV
  rw [if_pos hB, puts_mem]
  have h2 : z ∈ dispT xs d xs.length ↔ viewD xs z d = true := by
    unfold dispT
    rw [List.take_length]
    constructor
    · intro hm
      obtain ⟨x, hx, rfl⟩ := List.mem_map.1 hm
      exact (List.mem_filter.1 hx).2
    · intro hv
      by_cases hex : ∃ x ∈ xs, x.item = z
      · obtain ⟨x, hx, rfl⟩ := hex
        exact List.mem_map.2 ⟨x, List.mem_filter.2 ⟨hx, hv⟩, rfl⟩
      · have hn := standL_none (xs := xs) (z := z) (d := d) fun x hx e => hex ⟨x, hx, e⟩
        unfold viewD at hv
        rw [hn] at hv
        simp [viewL] at hv
  rw [h2]
  unfold viewD
  rw [decide_eq_true_eq]
  rcases hk.2 with ⟨_, h3, h4⟩ | h3
  · rw [h3, h4]
    show (5 : Int) < 0 ↔ (9 : Int) < 0
    omega
  · rw [h3, hk.1]
theorem st_at (h : stB xs z d = true) : ∀ v ∈ stV xs z d, ∃ m : Nat, m < xs.length ∧ v = (m : Int) := fun v hv => by
  unfold stV at hv
  rw [if_pos h] at hv
  exact standL_mem hv
theorem st_good (h : stB xs z d = true) : goodO xs = true := by simp only [stB, Bool.and_eq_true] at h; exact h.1.1
theorem cntI_le {p q : Int → Bool} (h : ∀ z, p z = true → q z = true) : ∀ k, cntI p k ≤ cntI q k
  | 0 => Int.le_refl _
  | k + 1 => by
    have ih := cntI_le h k
    cases hp : p ((k : Int) + 1) with
    | true => rw [cnt_yes hp, cnt_yes (h _ hp)]; omega
    | false =>
      rw [cnt_no hp]
      cases hq : q ((k : Int) + 1) with
      | true => rw [cnt_yes hq]; omega
      | false => rw [cnt_no hq]; exact ih
theorem ag_law (xs : List Opinion) (a b : ByteArray) (d : Int) : agS xs a b d ≤ agN xs a b d ∧ 0 ≤ agS xs a b d ∧ agN xs a b d ≤ 999 := by
  unfold agS agN
  split
  · have h1 := cntI_le (p := sameP xs a b d) (q := bothP xs a b d) (fun z h => by unfold sameP at h; exact (Bool.and_eq_true _ _ ▸ h).1) 999
    have h2 := cnt_rng (sameP xs a b d) 999
    have h3 := cnt_rng (bothP xs a b d) 999
    omega
  · omega
theorem fv_law (h : fvB xs z s = true) : stB xs z (fvV xs z s) = true ∧ vwV xs z (fvV xs z s) = s ∧ 0 ≤ fvV xs z s ∧ fvV xs z s ≤ 4000 := by
  have h' := h
  simp only [fvB, Bool.and_eq_true] at h'
  obtain ⟨hg, hany⟩ := h'
  have hg' := hg
  simp only [fvG, Bool.and_eq_true] at hg'
  obtain ⟨⟨g1, g2⟩, g3⟩ := hg'
  unfold fvV
  rw [if_pos hg]
  cases hf : xs.find? (fvP xs z s) with
  | none =>
    obtain ⟨x, hx, hp⟩ := List.any_eq_true.1 hany
    have := List.find?_eq_none.1 hf x hx
    exact absurd hp this
  | some x =>
    have hp := List.find?_some hf
    obtain ⟨m, hm, rfl⟩ := List.getElem_of_mem (List.mem_of_find?_eq_some hf)
    have hd := (base_O g1 hm).2.1
    have hS : stB xs z xs[m].day = true := by
      simp only [stB, g1, g2, Bool.true_and]
      rw [inR_iff]; exact hd
    refine ⟨hS, ?_, hd.1, hd.2⟩
    unfold vwV
    rw [if_pos hS]
    simpa [fvP] using hp
end
end Go.Proofs.YtpnkeaeikcobfaaGreatDoor
