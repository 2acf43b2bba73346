/- Plain words on opinions for the law FnOpinions: a given opinion stands and withdraws the last one of its expert; a history leads back through opinions of one expert on one item. -/
import Derived.Test.YtpnkeaeikcobfaaGreatDoorOpGive
namespace Go.Proofs.YtpnkeaeikcobfaaGreatDoor
set_option linter.unusedVariables false
set_option linter.unusedSimpArgs false
open Go.RowKit
theorem giveB_good {xs : List Opinion} {z : Int} {e : ByteArray} {d s : Int} (h : giveB xs z e d s = true) : goodO xs = true ∧ goodO (xs ++ [⟨z, e, d, s, lastO xs z e d⟩]) = true := by simpa [giveB] using h
theorem giveL_yes {xs : List Opinion} {z : Int} {e : ByteArray} {d s : Int} (h : giveB xs z e d s = true) : giveL xs z e d s = xs ++ [⟨z, e, d, s, lastO xs z e d⟩] := by unfold giveL; rw [if_pos h]
theorem okO_base {xs : List Opinion} {k : Nat} (hk : k < xs.length) (h : okO xs k = true) : xs[k].base = true := by
  rw [okO_val hk] at h
  simp only [Bool.and_eq_true] at h
  exact h.1.1.1.1
theorem give_base {xs : List Opinion} {z : Int} {e : ByteArray} {d s : Int} (h : giveB xs z e d s = true) : inR z 1 999 = true ∧ inR d 0 4000 = true := by
  have hk : xs.length < (xs ++ [(⟨z, e, d, s, lastO xs z e d⟩ : Opinion)]).length := by simp
  have := okO_base hk (goodO_at (giveB_good h).2 hk)
  simp only [List.getElem_append_right (Nat.le_refl _), Nat.sub_self, List.getElem_cons_zero, Opinion.base, Bool.and_eq_true] at this
  exact ⟨this.1.1.1, this.1.2⟩
theorem give_stB {xs : List Opinion} {z : Int} {e : ByteArray} {d s : Int} (h : giveB xs z e d s = true) : stB xs z d = true ∧ stB (giveL xs z e d s) z d = true := by
  obtain ⟨h1, h2⟩ := give_base h
  obtain ⟨g1, g2⟩ := giveB_good h
  rw [giveL_yes h]
  exact ⟨by simp [stB, g1, h1, h2], by simp [stB, g2, h1, h2]⟩
theorem lastO_lt (xs : List Opinion) (z : Int) (e : ByteArray) (d : Int) : -1 ≤ lastO xs z e d ∧ lastO xs z e d < (xs.length : Int) := lastT_rng xs z e d xs.length
/-- The new opinion stands. -/
theorem give_stands {xs : List Opinion} {z : Int} {e : ByteArray} {d s : Int} (h : giveB xs z e d s = true) : (xs.length : Int) ∈ stV (giveL xs z e d s) z d := by
  unfold stV
  rw [if_pos (give_stB h).2, giveL_yes h]
  obtain ⟨g1, g2⟩ := giveB_good h
  have hlt := lastO_lt xs z e d
  generalize lastO xs z e d = o at *
  have hk : xs.length < (xs ++ [(⟨z, e, d, s, o⟩ : Opinion)]).length := by simp
  have hx : (xs ++ [(⟨z, e, d, s, o⟩ : Opinion)])[xs.length] = ⟨z, e, d, s, o⟩ := by simp
  unfold standL
  refine List.mem_map.2 ⟨xs.length, List.mem_filter.2 ⟨List.mem_range.2 hk, ?_⟩, rfl⟩
  rw [standP_val hk, stO_val hk, hx]
  have hg : goneO (xs ++ [(⟨z, e, d, s, o⟩ : Opinion)]) d (xs.length : Int) = false := goneO_no g2 fun m hm hlt => by simp at hm; omega
  simp [hg]
/-- At most one more stands. -/
theorem give_count {xs : List Opinion} {z : Int} {e : ByteArray} {d s : Int} (h : giveB xs z e d s = true) : (stV (giveL xs z e d s) z d).length ≤ (stV xs z d).length + 1 := by
  unfold stV
  rw [if_pos (give_stB h).2, if_pos (give_stB h).1, giveL_yes h]
  generalize lastO xs z e d = o at *
  unfold standL
  rw [List.length_map, List.length_map, List.length_append, List.length_singleton, List.range_succ, List.filter_append, List.length_append]
  have h1 : (List.filter (standP (xs ++ [(⟨z, e, d, s, o⟩ : Opinion)]) z d) [xs.length]).length ≤ 1 := List.length_filter_le _ _
  have h2 : (List.filter (standP (xs ++ [(⟨z, e, d, s, o⟩ : Opinion)]) z d) (List.range xs.length)).length ≤ (List.filter (standP xs z d) (List.range xs.length)).length := by
    rw [← List.countP_eq_length_filter, ← List.countP_eq_length_filter]
    refine List.countP_mono_left fun i hi hp => ?_
    have hi := List.mem_range.1 hi
    have hi' : i < (xs ++ [(⟨z, e, d, s, o⟩ : Opinion)]).length := by simp; omega
    rw [standP_val hi', stO_val hi', List.getElem_append_left hi] at hp
    rw [standP_val hi, stO_val hi]
    simp only [Bool.and_eq_true, Bool.not_eq_true'] at hp ⊢
    refine ⟨hp.1, hp.2.1, ?_⟩
    have := hp.2.2
    unfold goneO at this ⊢
    rw [List.any_append, Bool.or_eq_false_iff] at this
    exact this.1
  omega
/-- Its history begins with it, and what it withdraws does not stand. -/
theorem give_hiB {xs : List Opinion} {z : Int} {e : ByteArray} {d s : Int} (h : giveB xs z e d s = true) : hiB (giveL xs z e d s) (xs.length : Int) = true := by
  obtain ⟨g1, g2⟩ := giveB_good h
  rw [giveL_yes h]
  simp [hiB, g2, inR]
theorem give_hist {xs : List Opinion} {z : Int} {e : ByteArray} {d s : Int} (h : giveB xs z e d s = true) : ∃ t, hiV (giveL xs z e d s) (xs.length : Int) = (xs.length : Int) :: t ∧ ∀ v r, t = v :: r → v ∉ stV (giveL xs z e d s) z d := by
  have hb := give_hiB h
  obtain ⟨g1, g2⟩ := giveB_good h
  unfold hiV
  rw [if_pos hb]
  rw [giveL_yes h]
  have hlt := lastO_lt xs z e d
  generalize ho : lastO xs z e d = o at *
  have hk : xs.length < (xs ++ [(⟨z, e, d, s, o⟩ : Opinion)]).length := by simp
  have hx : (xs ++ [(⟨z, e, d, s, o⟩ : Opinion)])[xs.length] = ⟨z, e, d, s, o⟩ := by simp
  refine ⟨histF (xs ++ [⟨z, e, d, s, o⟩]) (xs ++ [(⟨z, e, d, s, o⟩ : Opinion)]).length (overO (xs ++ [⟨z, e, d, s, o⟩]) (xs.length : Int)), ?_, ?_⟩
  · conv => lhs; unfold histF
    rw [if_neg (by omega)]
  · intro v r hv hm
    rw [overO_nat hk, hx] at hv
    have hve : v = o ∧ 0 ≤ o := by
      simp only at hv
      rw [show (xs ++ [(⟨z, e, d, s, o⟩ : Opinion)]).length = xs.length + 1 by simp] at hv
      rcases Int.lt_or_le o 0 with hneg | hpos
      · rw [histF_neg _ _ hneg] at hv; cases hv
      · unfold histF at hv
        rw [if_neg (by omega)] at hv
        exact ⟨(List.cons.inj hv).1.symm, hpos⟩
    obtain ⟨rfl, h0⟩ := hve
    unfold stV at hm
    split at hm
    · unfold standL at hm
      obtain ⟨m, hm, hmv⟩ := List.mem_map.1 hm
      obtain ⟨hm1, hm2⟩ := List.mem_filter.1 hm
      have hm1 := List.mem_range.1 hm1
      rw [standP_val hm1, stO_val hm1] at hm2
      simp only [Bool.and_eq_true, Bool.not_eq_true'] at hm2
      have hg : goneO (xs ++ [(⟨z, e, d, s, v⟩ : Opinion)]) d v = true := goneO_yes hk (by rw [hx]; exact Int.le_refl _) (by rw [hx])
      have hmv' : (m : Int) = v := hmv
      rw [hmv', hg] at hm2
      exact absurd hm2.2.2 (by simp)
    · cases hm
/-- A history: one item, one expert, falling. -/
def itemO (xs : List Opinion) (i : Int) : Int := match xs[i.toNat]? with | none => 0 | some x => x.item
def expertO (xs : List Opinion) (i : Int) : ByteArray := match xs[i.toNat]? with | none => ByteArray.empty | some x => x.expert
theorem itemO_nat {xs : List Opinion} {i : Nat} (h : i < xs.length) : itemO xs (i : Int) = xs[i].item := by simp [itemO, h]
theorem expertO_nat {xs : List Opinion} {i : Nat} (h : i < xs.length) : expertO xs (i : Int) = xs[i].expert := by simp [expertO, h]
theorem good_over {xs : List Opinion} (hg : goodO xs = true) {i t : Nat} (hi : i < xs.length) (ho : xs[i].over = (t : Int)) : ∃ ht : t < xs.length, t < i ∧ xs[t].item = xs[i].item ∧ xs[t].expert = xs[i].expert := by
  have hlo := goodO_low hg hi
  have ht : t < xs.length := by omega
  have h := goodO_at hg hi
  rw [okO_val hi] at h
  simp only [Bool.and_eq_true, Bool.or_eq_true, decide_eq_true_eq] at h
  rcases h.2 with h2 | h2
  · omega
  · rw [tgtO_val ht ho] at h2
    simp only [Bool.and_eq_true, decide_eq_true_eq] at h2
    exact ⟨ht, by omega, h2.1.1, h2.1.2⟩
theorem histF_all {xs : List Opinion} (hg : goodO xs = true) : ∀ (f : Nat) (i : Nat) (hi : i < xs.length), ∀ (k : Nat) (v : Int), (histF xs f (i : Int))[k]? = some v →
    ∃ (m : Nat) (hm : m < xs.length), v = (m : Int) ∧ m ≤ i ∧ xs[m].item = xs[i].item ∧ xs[m].expert = xs[i].expert ∧ (0 < k → ∃ u : Int, (histF xs f (i : Int))[k - 1]? = some u ∧ v < u)
  | 0, i, hi, k, v, h => by simp [histF] at h
  | f + 1, i, hi, k, v, h => by
    have hun : histF xs (f + 1) (i : Int) = (i : Int) :: histF xs f xs[i].over := by
      conv => lhs; unfold histF
      rw [if_neg (by omega), overO_nat hi]
    rw [hun] at h ⊢
    match k with
    | 0 =>
      simp at h; subst h
      exact ⟨i, hi, rfl, Nat.le_refl _, rfl, rfl, fun h => absurd h (by omega)⟩
    | k + 1 =>
      simp only [List.getElem?_cons_succ] at h
      have hlo := goodO_low hg hi
      rcases Int.lt_or_le xs[i].over 0 with hneg | hpos
      · rw [histF_neg xs f hneg] at h; simp at h
      · obtain ⟨t, ht⟩ := Int.eq_ofNat_of_zero_le hpos
        obtain ⟨htl, hti, e1, e2⟩ := good_over hg hi ht
        rw [ht] at h ⊢
        obtain ⟨m, hm, hv, hmi, e3, e4, h5⟩ := histF_all hg f t htl k v h
        refine ⟨m, hm, hv, by omega, e3.trans e1, e4.trans e2, fun _ => ?_⟩
        match k with
        | 0 =>
          refine ⟨(i : Int), by simp, ?_⟩
          omega
        | k + 1 =>
          obtain ⟨u, hu, hlt⟩ := h5 (by omega)
          exact ⟨u, by simpa using hu, hlt⟩
theorem hiV_all {xs : List Opinion} {z : Int} {k : Nat} {v : Int} (h : (hiV xs z)[k]? = some v) :
    ∃ (i m : Nat) (hi : i < xs.length) (hm : m < xs.length), z = (i : Int) ∧ v = (m : Int) ∧ xs[m].item = xs[i].item ∧ xs[m].expert = xs[i].expert ∧ (0 < k → ∃ u : Int, (hiV xs z)[k - 1]? = some u ∧ v < u) := by
  unfold hiV at h ⊢
  split at h
  · rename_i hb
    have hb' := hb
    simp only [hiB, Bool.and_eq_true, inR_iff] at hb
    obtain ⟨i, rfl⟩ := Int.eq_ofNat_of_zero_le hb.2.1
    have hi : i < xs.length := by omega
    obtain ⟨m, hm, hv, _, e1, e2, h5⟩ := histF_all hb.1 _ i hi k v h
    refine ⟨i, m, hi, hm, rfl, hv, e1, e2, fun hk => ?_⟩
    rw [if_pos hb']
    exact h5 hk
  · simp at h
end Go.Proofs.YtpnkeaeikcobfaaGreatDoor
