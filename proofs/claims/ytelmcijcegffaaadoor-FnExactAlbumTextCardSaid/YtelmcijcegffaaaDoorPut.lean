/- Contract of l1Put: a number is put into an ascending list. No condition but the size. -/
import Derived.Test.YtelmcijcegffaaaDoorApp2
import Derived.Deep.RegionHeld3
import Derived.Deep.RegionLaw
namespace Go.Proofs.YtelmcijcegffaaaDoor
set_option linter.unusedVariables false
set_option linter.unusedSimpArgs false
open Go.RowKit
def putK (ys : List Int) (n : Int) : Nat := (ys.takeWhile fun y => decide (y < n)).length
def putI (ys : List Int) (n : Int) : List Int := if ys[putK ys n]? = some n then ys else ys.take (putK ys n) ++ [n] ++ ys.drop (putK ys n)
theorem takeWhile_len' {α : Type} (p : α → Bool) (xs : List α) (i : Nat) (h1 : ∀ x ∈ xs.take i, p x = true) (hi : i ≤ xs.length) (h2 : ∀ h : i < xs.length, p xs[i] = false) : (xs.takeWhile p).length = i := by
  induction xs generalizing i with
  | nil => simp at hi; simp [hi]
  | cons x xs ih =>
    cases i with
    | zero => have := h2 (by simp); simp at this; simp [this]
    | succ i =>
      have hx : p x = true := h1 x (by simp)
      rw [List.takeWhile_cons_of_pos hx]
      simp only [List.length_cons]
      rw [ih i (fun y hy => h1 y (by simp [hy])) (by simpa using hi) (fun h => by have h3 := h2 (by simpa using h); rwa [List.getElem_cons_succ] at h3)]
theorem rd_one {w : World} {b : Nat} {n : Int} (h : w.cell? ⟨b, 0, none⟩ = some (.int .i64 n)) : Rd encI 1 w.heap.size w (some ⟨b, 0, none⟩) [n] := fun _ =>
  ⟨b, 0, rfl, cell_lt h, fun i y hy j v hv => by
    have hi : i = 0 := by have := (List.getElem?_eq_some_iff.1 hy).1; simp at this; omega
    subst hi
    have hj : j = 0 := by have := (List.getElem?_eq_some_iff.1 hv).1; simp [encI] at this; omega
    subst hj
    have hy' : y = n := by simpa using hy.symm
    subst hy'
    have hv' : v = .int .i64 y := by simpa [encI] using hv.symm
    subst hv'
    exact h⟩
theorem Rd.mul1 {B : Nat} {w : World} {b off k : Nat} {xs : List Int} (h : Rd encI 1 B w (some ⟨b, off + k * 1, none⟩) xs) : Rd encI 1 B w (some ⟨b, off + k, none⟩) xs := by rwa [Nat.mul_one] at h
end Go.Proofs.YtelmcijcegffaaaDoor
