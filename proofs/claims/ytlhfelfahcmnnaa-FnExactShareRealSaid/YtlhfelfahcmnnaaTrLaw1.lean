/- The walks of the laws on DoesHelp, AreOdds and ShareReal: the program and the reference give the same. No condition. -/
import Derived.Test.YtlhfelfahcmnnaaTr
namespace Go.Proofs.Ytlhfelfahcmnnaa
open Go.RowKit
set_option maxHeartbeats 400000 in
theorem lawDoesHelp_c (a b c : Int) (w : World) : Calls Try.prog 3 #[.agg #[.int .i64 a, .int .i64 b, .int .i64 c]] w (Ret (.bool true) w) := by
  go_enter Try.func3, Try.ntmps3
  go_wp2_with fail
  refine (toTrial_c _ _ _ _).mono ?_
  rintro e w1 ⟨rfl, hb1⟩
  go_wp2_with fail
  refine (specDoesHelp_c _ _ _ _).mono ?_
  rintro e w2 ⟨rfl, hb2⟩
  have hb := below_step hb1 hb2
  obtain ⟨hc, hf⟩ := bcell hb
  unfold helpV
  go_wp2_with fail
  refine (toTrial_c _ _ _ _).mono ?_
  rintro e w3 ⟨rfl, hb3⟩
  go_wp2_with fail
  refine (implDoesHelp_c _ _ _ _).mono ?_
  rintro e w4 ⟨rfl, hb4⟩
  have hx := below_step (below_step hb hb3) hb4
  clear hc hf hb1 hb2 hb3 hb4 hb
  unfold helpV
  go_wp2
  all_goals
    go_returns
    exact ⟨rfl, below_via (by go_grown) hx⟩
set_option maxHeartbeats 400000 in
theorem lawAreOdds_c (a b : Int) (w : World) : Calls Try.prog 4 #[.agg #[.int .i64 a, .int .i64 b]] w (Ret (.bool true) w) := by
  go_enter Try.func4, Try.ntmps4
  go_wp2_with fail
  refine (toOdds_c _ _ _).mono ?_
  rintro e w1 ⟨rfl, hb1⟩
  go_wp2_with fail
  refine (specAreOdds_c _ _ _).mono ?_
  rintro e w2 ⟨rfl, hb2⟩
  have hb := below_step hb1 hb2
  obtain ⟨hc, hf⟩ := bcell hb
  go_wp2_with fail
  refine (toOdds_c _ _ _).mono ?_
  rintro e w3 ⟨rfl, hb3⟩
  go_wp2_with fail
  refine (implAreOdds_c _ _ _).mono ?_
  rintro e w4 ⟨rfl, hb4⟩
  have hx := below_step (below_step hb hb3) hb4
  clear hc hf hb1 hb2 hb3 hb4 hb
  go_wp2
  all_goals
    go_returns
    exact ⟨rfl, below_via (by go_grown) hx⟩
def share1 (a b : Int) : Int := if isOd a b then a / gc a (a + b) else 0
def share2 (a b : Int) : Int := if isOd a b then (a + b) / gc a (a + b) else 0
theorem shareV_eq (a b : Int) : shareV a b = .tuple #[.int .i64 (share1 a b), .int .i64 (share2 a b), .bool (isOd a b)] := by
  unfold shareV share1 share2; split <;> simp_all
set_option maxHeartbeats 400000 in
theorem lawShareReal_c (a b : Int) (w : World) : Calls Try.prog 5 #[.agg #[.int .i64 a, .int .i64 b]] w (Ret (.bool true) w) := by
  go_enter Try.func5, Try.ntmps5
  go_wp2_with fail
  refine (toOdds_c _ _ _).mono ?_
  rintro e w1 ⟨rfl, hb1⟩
  go_wp2_with fail
  refine (specShareReal_c _ _ _).mono ?_
  rintro e w2 ⟨rfl, hb2⟩
  have hb := below_step hb1 hb2
  obtain ⟨hc, hf⟩ := bcell hb
  rw [shareV_eq]
  go_wp2_with fail
  refine (toOdds_c _ _ _).mono ?_
  rintro e w3 ⟨rfl, hb3⟩
  go_wp2_with fail
  refine (implShareReal_c _ _ _).mono ?_
  rintro e w4 ⟨rfl, hb4⟩
  have hx := below_step (below_step hb hb3) hb4
  clear hc hf hb1 hb2 hb3 hb4 hb
  rw [shareV_eq]
  go_wp2
  all_goals
    go_returns
    exact ⟨rfl, below_via (by go_grown) hx⟩
end Go.Proofs.Ytlhfelfahcmnnaa
