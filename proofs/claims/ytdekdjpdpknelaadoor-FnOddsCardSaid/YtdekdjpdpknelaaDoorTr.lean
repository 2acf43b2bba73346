/- Contracts of the small functions on trials and odds. No condition of its own. -/
import Derived.Test.YtdekdjpdpknelaaDoorNum
namespace Go.Proofs.YtdekdjpdpknelaaDoor
set_option linter.unusedVariables false
set_option linter.unusedSimpArgs false
open Go.RowKit
def isTr (a b c : Int) : Bool := inR a 1 99 && inR b 1 99 && (a != b) && inR c 0 1000
def isOd (a b : Int) : Bool := inR a 1 1000 && inR b 1 1000 && (gc a b == 1)
set_option maxHeartbeats 400000 in
theorem isTrial_c (a b c : Int) (w : World) : Calls Tryd.prog 36 #[.agg #[.int .i64 a, .int .i64 b, .int .i64 c]] w (Ret (.bool (isTr a b c)) w) := by
  go_enter Tryd.func36, Tryd.ntmps36
  go_wp2_with (go_at_call 45; refine (inRange_c _ _ _ _).mono ?_; rintro e w' ⟨rfl, rfl⟩)
  all_goals
    go_returns
    exact ⟨ret_bool (by simp_all [isTr]), by go_grown⟩
set_option maxHeartbeats 400000 in
theorem l16One_c (a b c : Int) (w : World) : Calls Tryd.prog 37 #[.agg #[.int .i64 a, .int .i64 b, .int .i64 c]] w (Ret (.bool (isTr a b c)) w) := by
  go_enter Tryd.func37, Tryd.ntmps37
  go_wp2_with (go_at_call 47; refine (l1In_c _ _ _ _).mono ?_; rintro e w' ⟨rfl, rfl⟩)
  all_goals
    go_returns
    exact ⟨ret_bool (by simp_all [isTr]), by go_grown⟩
def helpV (a b c : Int) : Value := .tuple #[.bool (isTr a b c && decide (b < a)), .bool (isTr a b c)]
theorem specDoesHelp_c (a b c : Int) (w : World) : Calls Tryd.prog 19 #[.agg #[.int .i64 a, .int .i64 b, .int .i64 c]] w (Ret (helpV a b c) w) := by
  go_enter Tryd.func19, Tryd.ntmps19
  go_wp2_with fail
  refine (l16One_c _ _ _ _).mono ?_
  rintro e w1 ⟨rfl, hb1⟩
  obtain ⟨hc, hf⟩ := bcell hb1
  go_wp2
  all_goals
    go_returns
    exact ⟨ret2 (vb (by simp_all)) (vb (by simp_all)), below_via (by go_grown) hb1⟩
theorem implDoesHelp_c (a b c : Int) (w : World) : Calls Tryd.prog 18 #[.agg #[.int .i64 a, .int .i64 b, .int .i64 c]] w (Ret (helpV a b c) w) := by
  go_enter Tryd.func18, Tryd.ntmps18
  go_wp2_with fail
  refine (isTrial_c _ _ _ _).mono ?_
  rintro e w1 ⟨rfl, hb1⟩
  obtain ⟨hc, hf⟩ := bcell hb1
  go_wp2
  all_goals
    go_returns
    exact ⟨ret2 (vb (by simp_all)) (vb (by simp_all)), below_via (by go_grown) hb1⟩
set_option maxHeartbeats 400000 in
theorem areOdds_c (a b : Int) (w : World) : Calls Tryd.prog 27 #[.agg #[.int .i64 a, .int .i64 b]] w (Ret (.bool (isOd a b)) w) := by
  go_enter Tryd.func27, Tryd.ntmps27
  go_wp2_with (go_at_call 45; refine (inRange_c _ _ _ _).mono ?_; rintro e w' ⟨rfl, rfl⟩)
  · have h1 : inR a 1 1000 = true := by assumption
    have h2 : inR b 1 1000 = true := by assumption
    have g1 := inR_iff.1 h1
    have g2 := inR_iff.1 h2
    refine (gcd_c _ _ _ (by omega) (by omega) (by omega) (by omega)).mono ?_
    rintro e w1 ⟨rfl, hb1⟩
    go_wp2
    go_returns
    exact ⟨ret_bool (by simp [isOd, h1, h2]), below_via (by go_grown) hb1⟩
  all_goals
    go_returns
    exact ⟨ret_bool (by simp_all [isOd]), by go_grown⟩
theorem od_iff (a b : Int) (ha : 1 ≤ a) (hb : 1 ≤ b) : (a / gc a b == a) = (gc a b == 1) := by
  have hg := gc_pos a b (by omega)
  rw [Bool.eq_iff_iff]
  simp only [beq_iff_eq]
  constructor
  · intro h
    have h1 : a / gc a b * gc a b = a := Int.ediv_mul_cancel (by unfold gc; exact Int.gcd_dvd_left ..)
    rw [h] at h1
    have : a * (gc a b - 1) = 0 := by rw [Int.mul_sub, h1]; omega
    rcases Int.mul_eq_zero.1 this with h | h <;> omega
  · intro h; rw [h]; simp
set_option maxHeartbeats 400000 in
theorem l16Odds_c (a b : Int) (w : World) : Calls Tryd.prog 30 #[.agg #[.int .i64 a, .int .i64 b]] w (Ret (.bool (isOd a b)) w) := by
  go_enter Tryd.func30, Tryd.ntmps30
  go_wp2_with (go_at_call 47; refine (l1In_c _ _ _ _).mono ?_; rintro e w' ⟨rfl, rfl⟩)
  · go_returns
    exact ⟨ret_bool (by simp_all [isOd]), by go_grown⟩
  · go_returns
    exact ⟨ret_bool (by simp_all [isOd]), by go_grown⟩
  · have h1 : inR a 1 1000 = true := by assumption
    have h2 : (!inR b 1 1000) = false := by assumption
    have h3 : inR b 1 1000 = true := by simpa using h2
    have g1 := inR_iff.1 h1
    have g2 := inR_iff.1 h3
    have HO := Lib.hid (od_iff a b g1.1 g2.1)
    refine (l2Reduce_c _ _ _ (by omega) (by omega) (by omega) (by omega)).mono ?_
    rintro e w1 ⟨rfl, hb1⟩
    obtain ⟨hc, hf⟩ := bcell hb1
    clear h2
    go_wp2
    go_returns
    exact ⟨ret_bool (by rw [HO.out]; simp [isOd, h1, h3]), below_via (by go_grown) hb1⟩
theorem specAreOdds_c (a b : Int) (w : World) : Calls Tryd.prog 11 #[.agg #[.int .i64 a, .int .i64 b]] w (Ret (.bool (isOd a b)) w) := by
  go_enter Tryd.func11, Tryd.ntmps11
  go_wp2_with fail
  refine (l16Odds_c _ _ _).mono ?_
  rintro e w1 ⟨rfl, hb1⟩
  go_wp2
  go_returns
  exact ⟨rfl, below_via (by go_grown) hb1⟩
theorem implAreOdds_c (a b : Int) (w : World) : Calls Tryd.prog 10 #[.agg #[.int .i64 a, .int .i64 b]] w (Ret (.bool (isOd a b)) w) := by
  go_enter Tryd.func10, Tryd.ntmps10
  go_wp2_with fail
  refine (areOdds_c _ _ _).mono ?_
  rintro e w1 ⟨rfl, hb1⟩
  go_wp2
  go_returns
  exact ⟨rfl, below_via (by go_grown) hb1⟩
def shareV (a b : Int) : Value := if isOd a b then .tuple #[.int .i64 (a / gc a (a + b)), .int .i64 ((a + b) / gc a (a + b)), .bool true] else .tuple #[.int .i64 0, .int .i64 0, .bool false]
theorem isOd_bd {a b : Int} (h : isOd a b = true) : 1 ≤ a ∧ a ≤ 1000 ∧ 1 ≤ b ∧ b ≤ 1000 := by
  simp [isOd, inR] at h; omega
set_option maxHeartbeats 400000 in
theorem specShareReal_c (a b : Int) (w : World) : Calls Tryd.prog 16 #[.agg #[.int .i64 a, .int .i64 b]] w (Ret (shareV a b) w) := by
  go_enter Tryd.func16, Tryd.ntmps16
  go_wp2_with fail
  refine (l16Odds_c _ _ _).mono ?_
  rintro e w1 ⟨rfl, hb1⟩
  obtain ⟨hc, hf⟩ := bcell hb1
  by_cases h : isOd a b = true
  · obtain ⟨h1, h2, h3, h4⟩ := isOd_bd h
    go_wp2_with fail
    refine (l2Reduce_c _ _ _ (by omega) (by omega) (by omega) (by omega)).mono ?_
    rintro e w2 ⟨rfl, hb2⟩
    go_wp2
    go_returns
    exact ⟨by simp [shareV, h], below_via (below_via (by go_grown) hb1) hb2⟩
  · go_wp2_with fail
    go_returns
    exact ⟨by simp [shareV, h], below_via (by go_grown) hb1⟩
set_option maxHeartbeats 400000 in
theorem implShareReal_c (a b : Int) (w : World) : Calls Tryd.prog 15 #[.agg #[.int .i64 a, .int .i64 b]] w (Ret (shareV a b) w) := by
  go_enter Tryd.func15, Tryd.ntmps15
  go_wp2_with fail
  refine (areOdds_c _ _ _).mono ?_
  rintro e w1 ⟨rfl, hb1⟩
  obtain ⟨hc, hf⟩ := bcell hb1
  by_cases h : isOd a b = true
  · obtain ⟨h1, h2, h3, h4⟩ := isOd_bd h
    go_wp2_with fail
    refine (fraction_c _ _ _ (by omega) (by omega) (by omega) (by omega)).mono ?_
    rintro e w2 ⟨rfl, hb2⟩
    go_wp2
    go_returns
    exact ⟨by simp [shareV, h], below_via (below_via (by go_grown) hb1) hb2⟩
  · go_wp2_with fail
    go_returns
    exact ⟨by simp [shareV, h], below_via (by go_grown) hb1⟩
end Go.Proofs.YtdekdjpdpknelaaDoor
