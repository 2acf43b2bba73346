/- Parts of an album: plain words for the reference's list, and the contract of l18Part. No condition but the sizes. -/
import Derived.Test.YthhdajmnidjhjaaAlTop
import Derived.Test.YthhdajmnidjhjaaPut
namespace Go.Proofs.Ythhdajmnidjhjaa
set_option linter.unusedVariables false
set_option linter.unusedSimpArgs false
open Go.RowKit
attribute [local irreducible] wpQuiet
theorem putI_end {ys : List Int} {n : Int} (h : ∀ y ∈ ys, y < n) : putI ys n = ys ++ [n] := by
  have hk : putK ys n = ys.length := by
    unfold putK
    exact takeWhile_len' _ ys ys.length (fun x hx => by rw [List.take_length] at hx; simpa using h x hx) (Nat.le_refl _) (fun h => absurd h (by omega))
  unfold putI
  rw [hk, List.getElem?_eq_none (Nat.le_refl _)]
  simp
/-- What the reference holds after k pages. -/
def spK (xs : List Page) (j : Nat) (id : Int) (k : Nat) : List Int := if k ≤ j then [id] else partK xs id k
section
variable {xs : List Page} {j : Nat}
theorem spK_0 {id : Int} : spK xs j id 0 = [id] := by simp [spK]
theorem spK_end (hj : j < xs.length) {id : Int} : spK xs j id xs.length = partA xs id := by
  unfold spK partA; rw [if_neg (by omega)]
theorem spK_yes (hg : goodA xs = true) (hj : j < xs.length) {k : Nat} (hk : k < xs.length) (h : xs[k].under ∈ spK xs j xs[j].id k) : spK xs j xs[j].id (k + 1) = putI (spK xs j xs[j].id k) xs[k].id := by
  unfold spK at h ⊢
  by_cases hkj : k ≤ j
  · rw [if_pos hkj] at h
    simp at h
    have h1 := good_under hg hk
    rcases Nat.eq_or_lt_of_le hkj with e | e
    · subst e; omega
    · have := good_lt hg hj e; omega
  · rw [if_neg hkj] at h ⊢
    rw [if_neg (by omega), partK_yes hk (.inr h), putI_end (fun y hy => by
      obtain ⟨i, hi, e⟩ := partK_mem (by omega) hy
      rw [← e]
      exact good_lt hg hk hi)]
theorem spK_no (hg : goodA xs = true) (hj : j < xs.length) {k : Nat} (hk : k < xs.length) (h : ¬ xs[k].under ∈ spK xs j xs[j].id k) : spK xs j xs[j].id (k + 1) = spK xs j xs[j].id k := by
  unfold spK at h ⊢
  by_cases hkj : k ≤ j
  · rw [if_pos hkj]
    rcases Nat.eq_or_lt_of_le hkj with e | e
    · subst e
      rw [if_neg (by omega), partK_yes hk (.inl rfl), partK_before hg hj (Nat.le_refl _)]
      rfl
    · rw [if_pos (by omega)]
  · rw [if_neg hkj] at h ⊢
    rw [if_neg (by omega), partK_no hk (by
      rintro (e | e)
      · have := good_inj hg hk hj e; omega
      · exact h e)]
theorem spK_len (xs : List Page) (j : Nat) (id : Int) (k : Nat) : (spK xs j id k).length ≤ k + 1 := by
  unfold spK
  split
  · simp
  · have := partK_len xs id k; omega
end
set_option maxRecDepth 100000 in
set_option maxHeartbeats 2000000 in
theorem l18Part_c (xs : List Page) (A : Option Addr) (c : Nat) (j : Nat) (w : World) (hr : RdP w.heap.size w A xs) (hg : goodA xs = true) (hj : j < xs.length) :
    Calls Try.prog 60 #[.slice A xs.length c, .int .i64 xs[j].id] w (RetS encI 1 (partA xs xs[j].id) w) := by
  have HG := Lib.hid hg
  have hlen := goodA_len hg
  have HE := Lib.hid (spK_end hj (id := xs[j].id))
  clear hg
  obtain ⟨id, hid⟩ : ∃ id, xs[j].id = id := ⟨_, rfl⟩
  have HY := Lib.hid (fun (k : Nat) (hk : k < xs.length) h => spK_yes HG.out hj hk h)
  have HN := Lib.hid (fun (k : Nat) (hk : k < xs.length) h => spK_no HG.out hj hk h)
  rw [hid] at HE HY HN ⊢
  have ho0 : Own encI 1 w.heap.size (w.heap.size + 1) (w.alloc (.cells #[.int .i64 id] 3)) (some ⟨w.heap.size, 0, none⟩) [id] :=
    ⟨by simp, fun _ => ⟨w.heap.size, 0, rfl, Nat.le_refl _, by omega, fun i x hx m v hv => by
      have hi : i = 0 := by have := (List.getElem?_eq_some_iff.1 hx).1; simp at this; omega
      subst hi
      have hm : m = 0 := by have := (List.getElem?_eq_some_iff.1 hv).1; simp [encI] at this; omega
      subst hm
      simp at hx; subst hx
      have hv' : v = .int .i64 id := by simpa [encI] using hv.symm
      subst hv'
      simp, fun o => World.frozen?_alloc_new w _ _ o⟩⟩
  have hb0 : Below w.heap.size w (w.alloc (.cells #[.int .i64 id] 3)) := by go_grown
  go_enter Try.func60, Try.ntmps60
  go_wp2_with fail
  go_loopw [5, 6] (fun u i wr => ∃ (k c' : Nat) (A' : Option Addr), k ≤ xs.length ∧ i = .int .i64 k ∧ u = .slice A' (spK xs j id k).length c' ∧ (spK xs j id k).length ≤ c' ∧ Own encI 1 w.heap.size wr.heap.size wr A' (spK xs j id k) ∧ Below w.heap.size w wr) (fun _ i _ => xs.length - (intOf i).toNat)
  case atStart => exact ⟨0, 1, some ⟨w.heap.size, 0, none⟩, Nat.zero_le _, rfl, by rw [spK_0]; rfl, by rw [spK_0]; simp, by rw [spK_0]; simpa using ho0, hb0⟩
  case round =>
    obtain ⟨k, c', A', hk, rfl, rfl, hcl, ho, hb⟩ := hrel
    have hsl := spK_len xs j id k
    clear ho0 hb0
    by_cases hlt : k < xs.length
    · obtain ⟨b, off, Ai, ci, rfl, hbs, d0, d1, d2, d3, hci, hri⟩ := (hr.below hb).page hlt
      have hk0 : (0 : Int) ≤ (k : Int) := by omega
      have hk1 : (k : Int) < (xs.length : Int) := by omega
      by_cases hm : xs[k].under ∈ spK xs j id k
      · have HS := Lib.hid (HY.out k hlt hm)
        have HD := Lib.hid (decide_eq_true hm)
        clear hm
        generalize spK xs j id k = ys at *
        go_wp2_with fail
        refine (l1Has_c ys _ _ _ _ ho.rd (by omega)).mono ?_
        rw [HD.out]
        rintro _ _ ⟨rfl, rfl⟩
        go_wp2_with fail
        refine (l1Put_c ys _ _ _ _ w.heap.size _ ho hb.size hcl (by omega)).mono ?_
        rintro _ w2 ⟨B2, c2, rfl, hb2, ho2, hc2⟩
        rw [← HS.out] at ho2 hc2 ⊢
        have hbl := hb.trans (hb2.mono hb.size)
        go_wp2_with fail
        go_roundw
        case rel => exact ⟨k + 1, c2, B2, by omega, by go_num, rfl, hc2, ho2, hbl⟩
        case measure => simp [intOf]; omega
      · have HS := Lib.hid (HN.out k hlt hm)
        have HD := Lib.hid (decide_eq_false hm)
        clear hm
        go_wp2_with fail
        refine (l1Has_c (spK xs j id k) _ _ _ _ ho.rd (by omega)).mono ?_
        rw [HD.out]
        rintro _ _ ⟨rfl, rfl⟩
        go_wp2_with fail
        go_roundw
        case rel => exact ⟨k + 1, c', A', by omega, by go_num, by rw [HS.out], by rw [HS.out]; exact hcl, by rw [HS.out]; exact ho, hb⟩
        case measure => simp [intOf]; omega
    · have hke : k = xs.length := by omega
      have HE2 := Lib.hid (show spK xs j id k = partA xs id by rw [hke]; exact HE.out)
      go_wp2_with fail
      go_returns
      exact ⟨A', c', ret_sl (by rw [HE2.out]), hb, ho.cast HE2.out⟩
end Go.Proofs.Ythhdajmnidjhjaa
