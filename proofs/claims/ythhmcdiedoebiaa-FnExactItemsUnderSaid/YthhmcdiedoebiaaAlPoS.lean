/- PartOf: the reference's contract. No condition but the sizes. -/
import Derived.Test.YthhmcdiedoebiaaAlPart
namespace Go.Proofs.Ythhmcdiedoebiaa
set_option linter.unusedVariables false
set_option linter.unusedSimpArgs false
open Go.RowKit
attribute [local irreducible] wpQuiet
def paV (xs : List Page) (z : Int) : List Int := if lvB xs z = true then partA xs z else []
theorem paV_no {xs : List Page} {z : Int} (h : lvB xs z = false) : paV xs z = [] := by simp [paV, h]
theorem paV_yes {xs : List Page} {z : Int} (h : lvB xs z = true) : paV xs z = partA xs z := by simp [paV, h]
theorem paV_le (xs : List Page) (z : Int) : (paV xs z).length ≤ xs.length := by
  unfold paV
  split
  · exact partK_len xs z xs.length
  · simp
theorem specPartOf_c (xs : List Page) (A : Option Addr) (c : Nat) (z : Int) (w : World) (hr : RdP w.heap.size w A xs) (hcap : xs.length ≤ c) (hn : xs.length ≤ 1048576) (hs : sumI xs ≤ 1048576) (hw : ∀ x ∈ xs, x.title.size ≤ 9223372036854775807 ∧ x.items.length ≤ 9223372036854775807 ∧ ∀ z ∈ x.items, Fits z) (hz : -9223372036854775808 ≤ z ∧ z ≤ 9223372036854775807) :
    Calls Try.prog 12 #[.slice A xs.length c, .int .i64 z] w (RetL encI 1 (paV xs z) (lvB xs z) w) := by
  have HW := Lib.hid hw
  clear hw
  by_cases hF : goodA xs = false
  · go_enter Try.func12, Try.ntmps12
    have hbg := Below.refl w.heap.size w
    go_wp2_with fail
    refine (l18Good_c xs _ _ _ (hr.go hbg) hcap hn hs HW.out).mono ?_
    rintro e wg0 ⟨rfl, hb0⟩
    have hbg := below_via hbg hb0
    go_wp2_with fail
    go_returns
    have HB : lvB xs z = false := by simp [lvB, hF]
    exact ⟨_, _, ret_list (by rw [paV_no HB]; rfl) HB.symm, below_via hbg (by go_grown), Own.none_ (paV_no HB) (Nat.le_refl _)⟩
  have G0 : goodA xs = true := by simpa using hF
  clear hF
  go_enter Try.func12, Try.ntmps12
  have hbg := Below.refl w.heap.size w
  go_wp2_with fail
  refine (l18Good_c xs _ _ _ (hr.go hbg) hcap hn hs HW.out).mono ?_
  rintro e wg0 ⟨rfl, hb0⟩
  have hbg := below_via hbg hb0
  have HG := Lib.hid G0
  go_wp2_with fail
  clear G0
  refine (l18Find_c xs _ _ _ _ (hr.go hbg) hn).mono ?_
  rintro _ w1 ⟨rfl, hb1⟩
  have hbg := below_via hbg hb1
  rcases lv_of xs z HG.out with ⟨j, hj, hi, he, hB, hv⟩ | ⟨hi, hB, hv⟩
  · subst he
    rw [hi]
    have HB := Lib.hid hB
    have HP := Lib.hid (paV_yes hB)
    clear hi hv hB
    have hj2 : ¬ (j : Int) < 0 := by omega
    go_wp2_with fail
    refine (l18Part_c xs _ _ j _ (hr.go hbg) HG.out hj).mono ?_
    rintro _ w2 ⟨B2, c2, rfl, hb2, ho2⟩
    have ho2 := ho2.wide hbg.size (Nat.le_refl _) (Nat.le_refl _)
    go_wp2_with fail
    go_returns
    exact ⟨_, _, ret_list (by rw [HP.out]) HB.out.symm, below_via hbg hb2, by rw [HP.out]; exact ho2⟩
  · rw [hi]
    have HB := Lib.hid hB
    have HP := Lib.hid (paV_no hB)
    clear hi hv hB
    go_wp2_with fail
    go_returns
    exact ⟨_, _, ret_list (by rw [HP.out]; rfl) HB.out.symm, below_via hbg (by go_grown), Own.none_ HP.out (Nat.le_refl _)⟩
end Go.Proofs.Ythhmcdiedoebiaa
