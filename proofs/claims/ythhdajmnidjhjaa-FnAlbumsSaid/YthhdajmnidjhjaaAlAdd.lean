/- AddPage: the plain words and the contracts of the program and the reference. No condition but the sizes. -/
import Derived.Test.YthhdajmnidjhjaaAlRes
namespace Go.Proofs.Ythhdajmnidjhjaa
set_option linter.unusedVariables false
set_option linter.unusedSimpArgs false
open Go.RowKit
attribute [local irreducible] wpQuiet
def apId (xs : List Page) : Int := match xs[xs.length - 1]? with | none => 1 | some p => p.id + 1
def apL (xs : List Page) (t : ByteArray) (u : Int) : List Page := xs ++ [⟨apId xs, t, u, []⟩]
def apB (xs : List Page) (t : ByteArray) (u : Int) : Bool := goodA xs && goodA (apL xs t u)
def apV (xs : List Page) (t : ByteArray) (u : Int) : List Page := ifA (apL xs t u) (apB xs t u)
def apN (xs : List Page) (t : ByteArray) (u : Int) : Int := if apB xs t u = true then apId xs else 0
section
variable {xs : List Page} {t : ByteArray} {u : Int}
theorem apB_good (h : apB xs t u = true) : goodA (apL xs t u) = true := by unfold apB at h; exact (Bool.and_eq_true _ _ ▸ h).2
theorem apV_len (xs : List Page) (t : ByteArray) (u : Int) : (apV xs t u).length ≤ 2097152 := ifA_len apB_good
theorem apV_sum (xs : List Page) (t : ByteArray) (u : Int) : sumI (apV xs t u) ≤ 2097152 := ifA_sum apB_good
theorem apV_no (h : apB xs t u = false) : apV xs t u = [] := ifA_no h
theorem apV_yes (h : apB xs t u = true) : apV xs t u = apL xs t u := ifA_yes h
theorem apN_no (h : apB xs t u = false) : apN xs t u = 0 := by simp [apN, h]
theorem apN_yes (h : apB xs t u = true) : apN xs t u = apId xs := by simp [apN, h]
theorem apB_bad (h : goodA xs = false) : apB xs t u = false := by simp [apB, h]
theorem apB_ok (h : goodA xs = true) : apB xs t u = goodA (apL xs t u) := by simp [apB, h]
theorem apId_0 (h : xs.length = 0) : apId xs = 1 := by unfold apId; rw [List.getElem?_eq_none (by omega)]
theorem apId_s (h : 0 < xs.length) : apId xs = (xs[xs.length - 1]'(by omega)).id + 1 := by unfold apId; rw [List.getElem?_eq_getElem (by omega)]
end
/-- The call returns an album of its own, a number, and b. -/
def RetA3 (ps : List Page) (n : Int) (b : Bool) (w : World) (e : Ending) (w' : World) : Prop := ∃ B c', e = .returned (.tuple #[.slice B ps.length c', .int .i64 n, .bool b]) ∧ Below w.heap.size w w' ∧ OwnP w.heap.size w'.heap.size w' B ps
theorem ret_a3 {b b' : Bool} {A : Option Addr} {n m c : Nat} {x y : Int} (hn : n = m) (hx : x = y) (hb : b = b') : Ending.returned (.tuple #[.slice A n c, .int .i64 x, .bool b]) = .returned (.tuple #[.slice A m c, .int .i64 y, .bool b']) := by rw [hn, hb, hx]
end Go.Proofs.Ythhdajmnidjhjaa
