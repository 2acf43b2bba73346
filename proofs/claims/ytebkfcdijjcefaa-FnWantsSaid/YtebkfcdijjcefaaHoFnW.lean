/- The plain law on wants: a given piece leaves its owner with one less and the other one with one more, what can be given is doubled here and missing there, and swaps lose nothing. No condition, and no program in sight. -/
import Derived.Test.YtebkfcdijjcefaaHoSw2
import Derived.Test.YtebkfcdijjcefaaHoDbl
import Derived.Test.YtebkfcdijjcefaaHoTop1
namespace Go.Proofs.Ytebkfcdijjcefaa
set_option linter.unusedVariables false
set_option linter.unusedSimpArgs false
open Go.RowKit
theorem cntB_of {xs : List Hold} {o : ByteArray} {z : Int} (h1 : goodH xs = true) (h2 : isW o = true) (h3 : inR z 1 99 = true) : cntB xs o z = true := by simp [cntB, h1, h2, h3]
theorem give_law {xs : List Hold} {a b : ByteArray} {z : Int} (h : gvB xs a b z = true) : cntB xs a z = true ∧ cntB (gvL xs a b z) a z = true ∧ cntB xs b z = true ∧ cntB (gvL xs a b z) b z = true ∧ cntV xs a z - cntV (gvL xs a b z) a z = 1 ∧ cntV (gvL xs a b z) b z - cntV xs b z = 1 := by
  have h' := h
  simp only [gvB, twoB, Bool.and_eq_true, decide_eq_true_eq] at h'
  obtain ⟨⟨⟨⟨⟨g1, g2⟩, g3⟩, hne⟩, g4⟩, g5, g6⟩ := h'
  have hL : gvL xs a b z = mvH xs a b z := by simp [gvL, h, mvV, g5]
  have hG : goodH (mvH xs a b z) = true := by rw [← hL]; simpa [gvL, h] using g6
  have b1 := cntB_of g1 g2 g4
  have b2 := cntB_of hG g2 g4
  have b3 := cntB_of g1 g3 g4
  have b4 := cntB_of hG g3 g4
  have ba : b ≠ a := fun e => hne e.symm
  refine ⟨b1, by rw [hL]; exact b2, b3, by rw [hL]; exact b4, ?_, ?_⟩
  · rw [hL]
    simp only [cntV, b1, b2, if_true]
    rw [cnt_mv (good_ord g1), if_pos ⟨rfl, rfl⟩, if_neg (fun e => hne e.1)]
    omega
  · rw [hL]
    simp only [cntV, b3, b4, if_true]
    rw [cnt_mv (good_ord g1), if_neg (fun e => ba e.1), if_pos ⟨rfl, rfl⟩]
    omega
theorem dbl_law {xs : List Hold} {x y : ByteArray} (hf : twoB xs x y = true) {z : Int} (hz : z ∈ dblV xs x) : cntB xs y z = true ∧ decide (cntV xs y z = 0) = decide (z ∈ giveV xs x y) := by
  have hf' := hf
  simp only [twoB, Bool.and_eq_true, decide_eq_true_eq] at hf'
  obtain ⟨⟨⟨g1, g2⟩, g3⟩, _⟩ := hf'
  have hd : dblB xs x = true := by simp [dblB, g1, g2]
  simp only [dblV, hd, if_true] at hz
  obtain ⟨h, hm, rfl⟩ := List.mem_map.1 hz
  obtain ⟨hmem, hp⟩ := List.mem_filter.1 hm
  obtain ⟨i, hi, rfl⟩ := List.getElem_of_mem hmem
  have ho := goodH_ok g1 hi
  simp only [Hold.ok, Bool.and_eq_true] at ho
  have hb := cntB_of g1 g3 ho.1.2
  refine ⟨hb, ?_⟩
  simp only [dblP, Bool.and_eq_true, decide_eq_true_eq] at hp
  rw [decide_eq_decide]
  simp only [cntV, hb, if_true, giveV, hf, giveH]
  constructor
  · intro h0
    exact List.mem_map.2 ⟨xs[i], List.mem_filter.2 ⟨hmem, by simp [giveP, hp.1, hp.2, h0]⟩, rfl⟩
  · intro h0
    obtain ⟨k, hk, e⟩ := List.mem_map.1 h0
    obtain ⟨_, hkp⟩ := List.mem_filter.1 hk
    simp only [giveP, Bool.and_eq_true, decide_eq_true_eq] at hkp
    rw [← e]; exact hkp.2.2
theorem cnt_own {xs : List Hold} (h : goodH xs = true) {i : Nat} (hi : i < xs.length) : cntH xs xs[i].owner xs[i].item = xs[i].count := by
  unfold cntH
  rw [find_snoc _ xs i hi (fun y hy => ?_) (by rw [at_iff]; exact ⟨rfl, rfl⟩)]
  obtain ⟨m, hm2, rfl⟩ := List.mem_take_iff_getElem.1 hy
  have h1 := goodH_lt' h (show m < i by omega) hi
  cases hc : (xs[m]).at_ xs[i].owner xs[i].item with
  | false => rfl
  | true =>
    obtain ⟨e1, e2⟩ := at_iff.1 hc
    have h2 := bef_iff.1 h1
    rw [e1, e2] at h2
    exact absurd h2 (bef_irrefl _ _)
theorem swap_law {xs : List Hold} {a b : ByteArray} {n : Int} (h : dsB xs a b n = true) : goodH xs = true ∧ twoB xs a b = true ∧ n ≤ pairV xs a b ∧ sumC (dsL xs a b n) = sumC xs ∧ (dsL xs a b n).length = xs.length + 2 * n ∧ 0 ≤ n ∧ ∀ (i : Nat) (hi : i < xs.length), cntB (dsL xs a b n) xs[i].owner xs[i].item = true ∧ 1 ≤ cntV (dsL xs a b n) xs[i].owner xs[i].item := by
  have h' := h
  simp only [dsB, Bool.and_eq_true, inR_iff] at h'
  obtain ⟨⟨ht, hn0, hn1⟩, hG⟩ := h'
  have ht' := ht
  simp only [twoB, Bool.and_eq_true, decide_eq_true_eq] at ht'
  obtain ⟨⟨⟨g1, g2⟩, g3⟩, hne⟩ := ht'
  have hL : dsL xs a b n = swH xs a b n := by simp [dsL, h]
  have hm1 : n.toNat ≤ (giveH xs a b).length := by unfold pairsH at hn1; omega
  have hm2 : n.toNat ≤ (giveH xs b a).length := by unfold pairsH at hn1; omega
  have hI := sw_all g1 hne n.toNat hm1 hm2
  have hS : swH xs a b n = swF xs a b (giveH xs a b) (giveH xs b a) n.toNat := rfl
  rw [← hS] at hI
  refine ⟨g1, ht, by simp only [pairV, ht, if_true]; exact hn1, by rw [hL]; exact hI.sum, by rw [hL, hI.len]; omega, hn0, fun i hi => ?_⟩
  have ho := goodH_ok g1 hi
  simp only [Hold.ok, Bool.and_eq_true, inR_iff] at ho
  have hb : cntB (swH xs a b n) xs[i].owner xs[i].item = true := cntB_of hG ho.1.1 (inR_iff.2 ho.1.2)
  rw [hL]
  refine ⟨hb, ?_⟩
  simp only [cntV, hb, if_true]
  exact hI.old _ _ (by rw [cnt_own g1 hi]; exact ho.2.1)
end Go.Proofs.Ytebkfcdijjcefaa
