/- Contracts of cmp.Compare, cmp.Or at int. No condition of its own. -/
import Derived.Test.YtpjnlcppjcnlgaaGreatDoorMark
namespace Go.Proofs.YtpjnlcppjcnlgaaGreatDoor
set_option linter.unusedVariables false
set_option linter.unusedSimpArgs false
open Go.RowKit
def cmpI (x y : Int) : Int := if x < y then -1 else if y < x then 1 else 0
/-- The first that is not 0, or 0. -/
def orI : List Int → Int
  | [] => 0
  | x :: r => if x = 0 then orI r else x
theorem orI_append (a b : List Int) (h : ∀ x ∈ a, x = 0) : orI (a ++ b) = orI b := by
  induction a with
  | nil => rfl
  | cons x a ih => simp [orI, h x (by simp), ih (fun y hy => h y (by simp [hy]))]
theorem orI_zero (a : List Int) (h : ∀ x ∈ a, x = 0) : orI a = 0 := by
  have := orI_append a [] h
  simpa [orI] using this
theorem isNaN_c (x : Int) (w : World) : Calls Tryz.prog 98 #[.int .i64 x] w (Pure (.bool false) w) := by
  have h : (x != x) = false := by simp
  go_enter Tryz.func98, Tryz.ntmps98
  go_wp2_with fail
  go_returns
  exact ⟨rfl, rfl⟩
end Go.Proofs.YtpjnlcppjcnlgaaGreatDoor
