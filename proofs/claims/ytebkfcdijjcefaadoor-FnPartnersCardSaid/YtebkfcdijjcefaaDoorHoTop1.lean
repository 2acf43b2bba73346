/- Contracts of CountOf: the program's and the reference's. No condition but the sizes. -/
import Derived.Test.YtebkfcdijjcefaaDoorHoCnt
namespace Go.Proofs.YtebkfcdijjcefaaDoor
set_option linter.unusedVariables false
set_option linter.unusedSimpArgs false
open Go.RowKit
def cntB (xs : List Hold) (o : ByteArray) (z : Int) : Bool := goodH xs && isW o && inR z 1 99
def cntV (xs : List Hold) (o : ByteArray) (z : Int) : Int := if cntB xs o z = true then cntH xs o z else 0
theorem implCountOf_c (xs : List Hold) (A : Option Addr) (c : Nat) (o : ByteArray) (z : Int) (w : World) (hr : Rd encHold 3 w.heap.size w A xs) (hn : xs.length ≤ 1048576) (hw : ∀ x ∈ xs, x.owner.size ≤ 9223372036854775807) (hs : o.size ≤ 9223372036854775807) (hz : -9223372036854775808 ≤ z ∧ z ≤ 9223372036854775807) :
    Calls Tryd.prog 16 #[.slice A xs.length c, .string o, .int .i64 z] w (Ret (.tuple #[.int .i64 (cntV xs o z), .bool (cntB xs o z)]) w) := by
  have HW := Lib.hid hw
  clear hw
  by_cases hF : goodH xs = false
  · go_enter Tryd.func16, Tryd.ntmps16
    have hbg := Below.refl w.heap.size w
    go_wp2_with fail
    refine (areHolds_c xs _ _ _ (hr.go hbg) hn HW.out).mono ?_
    rintro e wg0 ⟨rfl, hb0⟩
    have hbg := below_via hbg hb0
    go_wp2_with fail
    go_returns
    exact ⟨ret2 (vi (by simp [cntV, cntB, hF])) (vb (by simp [cntB, hF])), hbg⟩
  have G0 : goodH xs = true := by simpa using hF
  clear hF
  by_cases hF : isW o = false
  · go_enter Tryd.func16, Tryd.ntmps16
    have hbg := Below.refl w.heap.size w
    go_wp2_with fail
    refine (areHolds_c xs _ _ _ (hr.go hbg) hn HW.out).mono ?_
    rintro e wg0 ⟨rfl, hb0⟩
    have hbg := below_via hbg hb0
    go_wp2_with fail
    refine (isWord_c _ _ hs).mono ?_
    rintro e wp1 ⟨rfl, rfl⟩
    go_wp2_with fail
    go_returns
    exact ⟨ret2 (vi (by simp [cntV, cntB, hF])) (vb (by simp [cntB, hF])), hbg⟩
  have G1 : isW o = true := by simpa using hF
  clear hF
  by_cases hF : inR z 1 99 = false
  · go_enter Tryd.func16, Tryd.ntmps16
    have hbg := Below.refl w.heap.size w
    go_wp2_with fail
    refine (areHolds_c xs _ _ _ (hr.go hbg) hn HW.out).mono ?_
    rintro e wg0 ⟨rfl, hb0⟩
    have hbg := below_via hbg hb0
    go_wp2_with fail
    refine (isWord_c _ _ hs).mono ?_
    rintro e wp1 ⟨rfl, rfl⟩
    go_wp2_with fail
    refine (isPiece_c _ _).mono ?_
    rintro e wp2 ⟨rfl, rfl⟩
    go_wp2_with fail
    go_returns
    exact ⟨ret2 (vi (by simp [cntV, cntB, hF])) (vb (by simp [cntB, hF])), hbg⟩
  have G2 : inR z 1 99 = true := by simpa using hF
  clear hF
  go_enter Tryd.func16, Tryd.ntmps16
  have hbg := Below.refl w.heap.size w
  go_wp2_with fail
  refine (areHolds_c xs _ _ _ (hr.go hbg) hn HW.out).mono ?_
  rintro e wg0 ⟨rfl, hb0⟩
  have hbg := below_via hbg hb0
  go_wp2_with fail
  refine (isWord_c _ _ hs).mono ?_
  rintro e wp1 ⟨rfl, rfl⟩
  go_wp2_with fail
  refine (isPiece_c _ _).mono ?_
  rintro e wp2 ⟨rfl, rfl⟩
  go_wp2_with fail
  refine (countOf_c xs _ _ _ _ _ (hr.go hbg) G0).mono ?_
  rintro e w1 ⟨rfl, hb1⟩
  go_wp2_with fail
  go_returns
  exact ⟨ret2 (vi (by simp [cntV, cntB, G0, G1, G2])) (vb (by simp [cntB, G0, G1, G2])), below_via hbg hb1⟩
end Go.Proofs.YtebkfcdijjcefaaDoor
