/- The walk of the law on AreTrials: the program and the reference give the same. No condition but that the slice is one that can be. -/
import Derived.Test.YtlhfelfahcmnnaaTrGood
namespace Go.Proofs.Ytlhfelfahcmnnaa
set_option linter.unusedVariables false
set_option linter.unusedSimpArgs false
open Go.RowKit
set_option maxHeartbeats 1000000 in
theorem lawAreTrials_c (xs : List Trial) (A : Option Addr) (c : Nat) (w : World) (hr : Rd encT 3 w.heap.size w A xs) (hm : xs.length ≤ 9223372036854775807) :
    Calls Try.prog 6 #[.slice A xs.length c] w (Ret (.bool true) w) := by
  by_cases hn : xs.length ≤ 1048576
  · have hif : (if (1048576 : Int) < (xs.length : Int) then (-1 : Int) else 1048576 - (xs.length : Int)) = 1048576 - (xs.length : Int) := if_neg (by omega)
    have H1 := Lib.hid hif
    clear hif
    go_enter Try.func6, Try.ntmps6
    go_wp2_with fail
    refine (szTrialS_c _ _ _ _ _ hm (by omega) (by omega)).mono ?_
    rintro e w0 ⟨rfl, rfl⟩
    rw [H1.out]
    go_wp2_with fail
    refine (toTrialS_c xs _ _ _ hr hn).mono ?_
    rintro e w1 ⟨A1, rfl, hb1, o1⟩
    go_wp2_with fail
    refine (specAreTrials_c xs _ _ _ o1.rd hn).mono ?_
    rintro e w2 ⟨rfl, hb2⟩
    have hx := below_step hb1 hb2
    go_wp2_with fail
    refine (toTrialS_c xs _ _ _ (hr.go hx) hn).mono ?_
    rintro e w3 ⟨A3, rfl, hb3, o3⟩
    have hx := below_step hx hb3
    go_wp2_with fail
    refine (implAreTrials_c xs _ _ _ o3.rd hn).mono ?_
    rintro e w4 ⟨rfl, hb4⟩
    have hx := below_step hx hb4
    go_wp2_with fail
    refine (toTrialS_c xs _ _ _ (hr.go hx) hn).mono ?_
    rintro e w5 ⟨A5, rfl, hb5, o5⟩
    have hx := below_step hx hb5
    go_wp2_with fail
    refine (eqTrialS_c xs _ _ _ _ _ ((o3.rd.go hb4).go hb5) o5.rd hn).mono ?_
    rintro e w6 ⟨rfl, hb6⟩
    have hx := below_step hx hb6
    go_wp2_with fail
    go_returns
    exact ⟨rfl, hx⟩
  · have hif : (if (1048576 : Int) < (xs.length : Int) then (-1 : Int) else 1048576 - (xs.length : Int)) = -1 := if_pos (by omega)
    have H1 := Lib.hid hif
    clear hif
    go_enter Try.func6, Try.ntmps6
    go_wp2_with fail
    refine (szTrialS_c _ _ _ _ _ hm (by omega) (by omega)).mono ?_
    rintro e w0 ⟨rfl, rfl⟩
    rw [H1.out]
    go_wp2_with fail
    go_returns
    exact ⟨rfl, Below.refl _ _⟩
end Go.Proofs.Ytlhfelfahcmnnaa
